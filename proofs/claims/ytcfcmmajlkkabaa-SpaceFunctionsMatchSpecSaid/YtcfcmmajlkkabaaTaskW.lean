/- Tasks in memory; strips.operator, strips.Validate. -/
import Derived.Test.YtcfcmmajlkkabaaMeets
import Derived.Test.YtcfcmmajlkkabaaSetA
namespace Go.Proofs.Ytcfcmmajlkkabaa
open Go.RowKit

/-- A slice of operators. -/
def OpsAt (w : World) (v : Value) (ops : List Opr) : Prop :=
  ∃ ao cap, v = .slice ao ops.length cap ∧ ops.length ≤ maxLen ∧ (0 < ops.length → ∃ b off, ao = some ⟨b, off, none⟩ ∧ ∀ i o, ops[i]? = some o →
    ∃ va vb vc, w.cell? ⟨b, off + i * 4, none⟩ = some va ∧ w.cell? ⟨b, off + i * 4 + 1, none⟩ = some vb ∧ w.cell? ⟨b, off + i * 4 + 2, none⟩ = some vc ∧ w.cell? ⟨b, off + i * 4 + 3, none⟩ = some (.int .i64 o.cost) ∧
      Ints w va o.pre ∧ Ints w vb o.add ∧ Ints w vc o.del)

theorem OpsAt.keeps0 {w w' : World} {v : Value} {ops : List Opr} (h : OpsAt w v ops) (hk : Keeps (fun _ => False) w w') : OpsAt w' v ops := by
  obtain ⟨ao, cap, hv, hm, hc⟩ := h
  refine ⟨ao, cap, hv, hm, fun h0 => ?_⟩
  obtain ⟨b, off, ha, hx⟩ := hc h0
  refine ⟨b, off, ha, fun i o ho => ?_⟩
  obtain ⟨va, vb, vc, h1, h2, h3, h4, h5, h6, h7⟩ := hx i o ho
  exact ⟨va, vb, vc, hk.cell h1 (fun h => h), hk.cell h2 (fun h => h), hk.cell h3 (fun h => h), hk.cell h4 (fun h => h), h5.keeps0 hk, h6.keeps0 hk, h7.keeps0 hk⟩

theorem OpsAt.form {w : World} {v : Value} {ops : List Opr} (h : OpsAt w v ops) : ∃ ao cap, v = .slice ao ops.length cap ∧ ops.length ≤ 9223372036854775807 := by
  obtain ⟨ao, cap, hv, hm, _⟩ := h
  unfold maxLen at hm
  exact ⟨ao, cap, hv, by omega⟩

theorem OpsAt.cell {w : World} {v : Value} {ops : List Opr} (h : OpsAt w v ops) {ao : Option Addr} {n cap : Nat} (hv : v = .slice ao n cap) (hn : 0 < ops.length) :
    ∃ b off, ao = some ⟨b, off, none⟩ ∧ ∀ i o, ops[i]? = some o →
    ∃ va vb vc, w.cell? ⟨b, off + i * 4, none⟩ = some va ∧ w.cell? ⟨b, off + i * 4 + 1, none⟩ = some vb ∧ w.cell? ⟨b, off + i * 4 + 2, none⟩ = some vc ∧ w.cell? ⟨b, off + i * 4 + 3, none⟩ = some (.int .i64 o.cost) ∧
      Ints w va o.pre ∧ Ints w vb o.add ∧ Ints w vc o.del := by
  obtain ⟨ao', cap', hv', hm, hc⟩ := h
  rw [hv'] at hv
  simp only [Value.slice.injEq] at hv
  obtain ⟨rfl, _, _⟩ := hv
  exact hc hn

/-- The four values of a task. -/
structure TaskAt (w : World) (vi vg vo : Value) (t : Tsk) : Prop where
  init : Ints w vi t.init
  goal : Ints w vg t.goal
  ops : OpsAt w vo t.ops

theorem TaskAt.keeps0 {w w' : World} {vi vg vo : Value} {t : Tsk} (h : TaskAt w vi vg vo t) (hk : Keeps (fun _ => False) w w') : TaskAt w' vi vg vo t := ⟨h.init.keeps0 hk, h.goal.keeps0 hk, h.ops.keeps0 hk⟩

/-- A block of four cells. -/
structure Four (w : World) (b : Nat) (x0 x1 x2 x3 : Value) : Prop where
  c0 : w.cell? ⟨b, 0, none⟩ = some x0
  c1 : w.cell? ⟨b, 1, none⟩ = some x1
  c2 : w.cell? ⟨b, 2, none⟩ = some x2
  c3 : w.cell? ⟨b, 3, none⟩ = some x3
theorem Four.keeps0 {w w' : World} {b : Nat} {x0 x1 x2 x3 : Value} (h : Four w b x0 x1 x2 x3) (hk : Keeps (fun _ => False) w w') : Four w' b x0 x1 x2 x3 :=
  ⟨hk.cell h.c0 (fun h => h), hk.cell h.c1 (fun h => h), hk.cell h.c2 (fun h => h), hk.cell h.c3 (fun h => h)⟩
theorem Four.new (w : World) (x0 x1 x2 x3 : Value) (T : TypeId) : Four (w.alloc (.cells #[x0, x1, x2, x3] T)) w.heap.size x0 x1 x2 x3 := by
  have h := heap_alloc_new w (.cells #[x0, x1, x2, x3] T)
  exact ⟨by rw [cell_of_blk h]; rfl, by rw [cell_of_blk h]; rfl, by rw [cell_of_blk h]; rfl, by rw [cell_of_blk h]; rfl⟩
theorem Four.lt {w : World} {b : Nat} {x0 x1 x2 x3 : Value} (h : Four w b x0 x1 x2 x3) : b < w.heap.size := by
  have := World.block_lt_of_cell? w _ h.c0; simpa using this

theorem setFrom_length {n : Int} {l : List Int} : ∀ {lo : Int}, setFrom n lo l = true → l = [] ∨ lo + l.length ≤ n := by
  induction l with
  | nil => intro lo _; exact .inl rfl
  | cons x r ih =>
    intro lo h
    simp only [setFrom, Bool.and_eq_true, decide_eq_true_eq] at h
    right
    rcases ih h.2 with rfl | h'
    · simp; omega
    · simp only [List.length_cons]; omega
theorem isSet_length {n : Int} {l : List Int} (h : isSetB l n = true) (hn : n ≤ 1000) : l.length ≤ 1000 := by
  rcases setFrom_length h with rfl | h
  · simp
  · omega

theorem sIsSet_val {w : World} {v : Value} {l : List Int} {n : Int} {b : Bool} (h : Ints w v l) (hb : isSetB l n = b) :
    Calls Try.prog 75 #[v, .int .i64 n] w fun e w' => e = .returned (.bool b) ∧ w = w' := by rw [← hb]; exact sIsSet_any w v l n h

theorem operator_any (w : World) (va vb vc : Value) (o : Opr) (n : Int) (ha : Ints w va o.pre) (hb : Ints w vb o.add) (hc : Ints w vc o.del) (hn : n ≤ 1000) :
    Calls Try.prog 93 #[.agg #[va, vb, vc, .int .i64 o.cost], .int .i64 n] w fun e w' => e = .returned (.int .i64 (opCode o n)) ∧ Keeps (fun _ => False) w w' := by
  have HA := Lib.hid (ha.keeps0 ((Keeps.refl _ w).alloc (.cells #[va, vb, vc, .int .i64 o.cost] 78)))
  have HB := Lib.hid (hb.keeps0 ((Keeps.refl _ w).alloc (.cells #[va, vb, vc, .int .i64 o.cost] 78)))
  have HC := Lib.hid (hc.keeps0 ((Keeps.refl _ w).alloc (.cells #[va, vb, vc, .int .i64 o.cost] 78)))
  have K0 := Lib.hid ((Keeps.refl (fun _ => False) w).alloc (.cells #[va, vb, vc, .int .i64 o.cost] 78))
  obtain ⟨ao1, ca1, h1, _⟩ := ha.form
  obtain ⟨ao2, ca2, h2, _⟩ := hb.form
  obtain ⟨ao3, ca3, h3, _⟩ := hc.form
  subst h1 h2 h3
  clear ha hb hc
  cases b1 : isSetB o.pre n with
  | false =>
    have hr : Hid (opCode o n = 5) := by unfold Hid opCode; simp [b1]
    have B1 := Lib.hid b1; clear b1
    go_enter Try.func93, Try.ntmps93
    go_wp2_with fail
    refine (sIsSet_val HA.out B1.out).mono ?_; rintro e w1 ⟨rfl, rfl⟩
    go_wp2_with fail
    go_ret
    exact ⟨congrArg (fun u : Int => Ending.returned (Value.int .i64 u)) hr.out.symm, K0.out⟩
  | true =>
    cases b2 : isSetB o.add n with
    | false =>
      have hr : Hid (opCode o n = 5) := by unfold Hid opCode; simp [b2]
      have B1 := Lib.hid b1; have B2 := Lib.hid b2; clear b1 b2
      go_enter Try.func93, Try.ntmps93
      go_wp2_with fail
      refine (sIsSet_val HA.out B1.out).mono ?_; rintro e w1 ⟨rfl, rfl⟩
      go_wp2_with fail
      refine (sIsSet_val HB.out B2.out).mono ?_; rintro e w1 ⟨rfl, rfl⟩
      go_wp2_with fail
      go_ret
      exact ⟨congrArg (fun u : Int => Ending.returned (Value.int .i64 u)) hr.out.symm, K0.out⟩
    | true =>
      cases b3 : isSetB o.del n with
      | false =>
        have hr : Hid (opCode o n = 5) := by unfold Hid opCode; simp [b3]
        have B1 := Lib.hid b1; have B2 := Lib.hid b2; have B3 := Lib.hid b3; clear b1 b2 b3
        go_enter Try.func93, Try.ntmps93
        go_wp2_with fail
        refine (sIsSet_val HA.out B1.out).mono ?_; rintro e w1 ⟨rfl, rfl⟩
        go_wp2_with fail
        refine (sIsSet_val HB.out B2.out).mono ?_; rintro e w1 ⟨rfl, rfl⟩
        go_wp2_with fail
        refine (sIsSet_val HC.out B3.out).mono ?_; rintro e w1 ⟨rfl, rfl⟩
        go_wp2_with fail
        go_ret
        exact ⟨congrArg (fun u : Int => Ending.returned (Value.int .i64 u)) hr.out.symm, K0.out⟩
      | true =>
        have hl := isSet_length b3 hn
        have HM := Lib.hid (meets_any _ _ _ _ _ HB.out HC.out (isSet_iff.1 b3).2 (by omega))
        cases b4 : disjB o.add o.del with
        | false =>
          have hr : Hid (opCode o n = 5) := by unfold Hid opCode; simp [b4]
          have B1 := Lib.hid b1; have B2 := Lib.hid b2; have B3 := Lib.hid b3; have B4 := Lib.hid b4; clear b1 b2 b3 b4
          go_enter Try.func93, Try.ntmps93
          go_wp2_with fail
          refine (sIsSet_val HA.out B1.out).mono ?_; rintro e w1 ⟨rfl, rfl⟩
          go_wp2_with fail
          refine (sIsSet_val HB.out B2.out).mono ?_; rintro e w1 ⟨rfl, rfl⟩
          go_wp2_with fail
          refine (sIsSet_val HC.out B3.out).mono ?_; rintro e w1 ⟨rfl, rfl⟩
          go_wp2_with fail
          refine HM.out.mono ?_; rintro e w1 ⟨rfl, hk⟩
          rw [B4.out]
          have KF := Lib.hid (K0.out.trans hk)
          clear hk
          go_wp2_with fail
          go_ret
          exact ⟨congrArg (fun u : Int => Ending.returned (Value.int .i64 u)) hr.out.symm, KF.out⟩
        | true =>
          have HO : Hid (opCode o n = if 0 ≤ o.cost ∧ o.cost ≤ 100 then 0 else 3) := by unfold Hid opCode; simp [b1, b2, b3, b4]
          have B1 := Lib.hid b1; have B2 := Lib.hid b2; have B3 := Lib.hid b3; have B4 := Lib.hid b4; clear b1 b2 b3 b4
          have HF := Lib.hid (Four.new w (.slice ao1 o.pre.length ca1) (.slice ao2 o.add.length ca2) (.slice ao3 o.del.length ca3) (.int .i64 o.cost) 78)
          go_enter Try.func93, Try.ntmps93
          go_wp2_with fail
          refine (sIsSet_val HA.out B1.out).mono ?_; rintro e w1 ⟨rfl, rfl⟩
          go_wp2_with fail
          refine (sIsSet_val HB.out B2.out).mono ?_; rintro e w1 ⟨rfl, rfl⟩
          go_wp2_with fail
          refine (sIsSet_val HC.out B3.out).mono ?_; rintro e w1 ⟨rfl, rfl⟩
          go_wp2_with fail
          refine HM.out.mono ?_; rintro e w1 ⟨rfl, hk⟩
          rw [B4.out]
          have KF := Lib.hid (K0.out.trans hk)
          have c3 := (HF.out.keeps0 hk).c3
          have l3 := (HF.out.keeps0 hk).lt
          clear hk
          by_cases h0 : o.cost < 0
          · have hr : Hid (opCode o n = 3) := by unfold Hid; rw [HO.out, if_neg (by omega)]
            go_wp2_with fail
            go_ret
            exact ⟨congrArg (fun u : Int => Ending.returned (Value.int .i64 u)) hr.out.symm, KF.out⟩
          · have h0' : 0 ≤ o.cost := by omega
            clear h0
            by_cases h1 : 100 < o.cost
            · have hr : Hid (opCode o n = 3) := by unfold Hid; rw [HO.out, if_neg (by omega)]
              go_wp2_with fail
              go_ret
              exact ⟨congrArg (fun u : Int => Ending.returned (Value.int .i64 u)) hr.out.symm, KF.out⟩
            · have h1' : o.cost ≤ 100 := by omega
              clear h1
              have hr : Hid (opCode o n = 0) := by unfold Hid; rw [HO.out, if_pos ⟨h0', h1'⟩]
              go_wp2_with fail
              go_ret
              exact ⟨congrArg (fun u : Int => Ending.returned (Value.int .i64 u)) hr.out.symm, KF.out⟩

end Go.Proofs.Ytcfcmmajlkkabaa
