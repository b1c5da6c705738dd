/- Tasks in memory; strips.operator, strips.Validate. The rows' frame: arguments of type api.Task and []int, read. Maps whose keys are three whole numbers, in a struct or an array: look-up and store. The keys of a store's two maps: a node as a struct of three numbers, and an array of three numbers. Decision diagrams: lists of nodes, what a node says of a set of facts, and what new nodes must keep. diagram.Store in memory; its level and sides. diagram.Store: Node. No condition beyond what each theorem says. -/
import Derived.Test.YtjcgkmodmjckjaaGreatP1
import Derived.Test.YtjcgkmodmjckjaaGreatRows
import Derived.ProofKit
import Derived.Deep.SlicePairs
import Derived.Lib.SmallJoins
import Derived.WideKeyRuns
import Derived.Test.YtjcgkmodmjckjaaGreatProg
import Derived.Deep.Cut
import Derived.Deep.RegionLaw

namespace Go.Proofs.YtjcgkmodmjckjaaGreat
open Go.RowKit

/-- A slice of operators. -/
def OpsAt (w : World) (v : Value) (ops : List Opr) : Prop :=
  ∃ ao cap, v = .slice ao ops.length cap ∧ ops.length ≤ maxLen ∧ (0 < ops.length → ∃ b off, ao = some ⟨b, off, none⟩ ∧ ∀ i o, ops[i]? = some o →
    ∃ va vb vc, w.cell? ⟨b, off + i * 4, none⟩ = some va ∧ w.cell? ⟨b, off + i * 4 + 1, none⟩ = some vb ∧ w.cell? ⟨b, off + i * 4 + 2, none⟩ = some vc ∧ w.cell? ⟨b, off + i * 4 + 3, none⟩ = some (.int .i64 o.cost) ∧
      Ints w va o.pre ∧ Ints w vb o.add ∧ Ints w vc o.del)

theorem OpsAt.keeps0 {w w' : World} {v : Value} {ops : List Opr} (h : OpsAt w v ops) (hk : Keeps (fun _ => False) w w') : OpsAt w' v ops := by
  obtain ⟨ao, cap, hv, hm, hc⟩ := h
  refine ⟨ao, cap, hv, hm, fun h0 => ?_⟩
  obtain ⟨b, off, ha, hx⟩ := hc h0
  refine ⟨b, off, ha, fun i o ho => ?_⟩
  obtain ⟨va, vb, vc, h1, h2, h3, h4, h5, h6, h7⟩ := hx i o ho
  exact ⟨va, vb, vc, hk.cell h1 (fun h => h), hk.cell h2 (fun h => h), hk.cell h3 (fun h => h), hk.cell h4 (fun h => h), h5.keeps0 hk, h6.keeps0 hk, h7.keeps0 hk⟩

theorem OpsAt.form {w : World} {v : Value} {ops : List Opr} (h : OpsAt w v ops) : ∃ ao cap, v = .slice ao ops.length cap ∧ ops.length ≤ 9223372036854775807 := by
  obtain ⟨ao, cap, hv, hm, _⟩ := h
  unfold maxLen at hm
  exact ⟨ao, cap, hv, by omega⟩

theorem OpsAt.cell {w : World} {v : Value} {ops : List Opr} (h : OpsAt w v ops) {ao : Option Addr} {n cap : Nat} (hv : v = .slice ao n cap) (hn : 0 < ops.length) :
    ∃ b off, ao = some ⟨b, off, none⟩ ∧ ∀ i o, ops[i]? = some o →
    ∃ va vb vc, w.cell? ⟨b, off + i * 4, none⟩ = some va ∧ w.cell? ⟨b, off + i * 4 + 1, none⟩ = some vb ∧ w.cell? ⟨b, off + i * 4 + 2, none⟩ = some vc ∧ w.cell? ⟨b, off + i * 4 + 3, none⟩ = some (.int .i64 o.cost) ∧
      Ints w va o.pre ∧ Ints w vb o.add ∧ Ints w vc o.del := by
  obtain ⟨ao', cap', hv', hm, hc⟩ := h
  rw [hv'] at hv
  simp only [Value.slice.injEq] at hv
  obtain ⟨rfl, _, _⟩ := hv
  exact hc hn

/-- The four values of a task. -/
structure TaskAt (w : World) (vi vg vo : Value) (t : Tsk) : Prop where
  init : Ints w vi t.init
  goal : Ints w vg t.goal
  ops : OpsAt w vo t.ops

theorem TaskAt.keeps0 {w w' : World} {vi vg vo : Value} {t : Tsk} (h : TaskAt w vi vg vo t) (hk : Keeps (fun _ => False) w w') : TaskAt w' vi vg vo t := ⟨h.init.keeps0 hk, h.goal.keeps0 hk, h.ops.keeps0 hk⟩

/-- A block of four cells. -/
structure Four (w : World) (b : Nat) (x0 x1 x2 x3 : Value) : Prop where
  c0 : w.cell? ⟨b, 0, none⟩ = some x0
  c1 : w.cell? ⟨b, 1, none⟩ = some x1
  c2 : w.cell? ⟨b, 2, none⟩ = some x2
  c3 : w.cell? ⟨b, 3, none⟩ = some x3
theorem Four.keeps0 {w w' : World} {b : Nat} {x0 x1 x2 x3 : Value} (h : Four w b x0 x1 x2 x3) (hk : Keeps (fun _ => False) w w') : Four w' b x0 x1 x2 x3 :=
  ⟨hk.cell h.c0 (fun h => h), hk.cell h.c1 (fun h => h), hk.cell h.c2 (fun h => h), hk.cell h.c3 (fun h => h)⟩
theorem Four.new (w : World) (x0 x1 x2 x3 : Value) (T : TypeId) : Four (w.alloc (.cells #[x0, x1, x2, x3] T)) w.heap.size x0 x1 x2 x3 := by
  have h := heap_alloc_new w (.cells #[x0, x1, x2, x3] T)
  exact ⟨by rw [cell_of_blk h]; rfl, by rw [cell_of_blk h]; rfl, by rw [cell_of_blk h]; rfl, by rw [cell_of_blk h]; rfl⟩
theorem Four.lt {w : World} {b : Nat} {x0 x1 x2 x3 : Value} (h : Four w b x0 x1 x2 x3) : b < w.heap.size := by
  have := World.block_lt_of_cell? w _ h.c0; simpa using this

theorem setFrom_length {n : Int} {l : List Int} : ∀ {lo : Int}, setFrom n lo l = true → l = [] ∨ lo + l.length ≤ n := by
  induction l with
  | nil => intro lo _; exact .inl rfl
  | cons x r ih =>
    intro lo h
    simp only [setFrom, Bool.and_eq_true, decide_eq_true_eq] at h
    right
    rcases ih h.2 with rfl | h'
    · simp; omega
    · simp only [List.length_cons]; omega
theorem isSet_length {n : Int} {l : List Int} (h : isSetB l n = true) (hn : n ≤ 1000) : l.length ≤ 1000 := by
  rcases setFrom_length h with rfl | h
  · simp
  · omega

theorem sIsSet_val {w : World} {v : Value} {l : List Int} {n : Int} {b : Bool} (h : Ints w v l) (hb : isSetB l n = b) :
    Calls Tryz.prog 89 #[v, .int .i64 n] w fun e w' => e = .returned (.bool b) ∧ w = w' := by rw [← hb]; exact sIsSet_any w v l n h

theorem operator_any (w : World) (va vb vc : Value) (o : Opr) (n : Int) (ha : Ints w va o.pre) (hb : Ints w vb o.add) (hc : Ints w vc o.del) (hn : n ≤ 1000) :
    Calls Tryz.prog 90 #[.agg #[va, vb, vc, .int .i64 o.cost], .int .i64 n] w fun e w' => e = .returned (.int .i64 (opCode o n)) ∧ Keeps (fun _ => False) w w' := by
  have HA := Lib.hid (ha.keeps0 ((Keeps.refl _ w).alloc (.cells #[va, vb, vc, .int .i64 o.cost] 72)))
  have HB := Lib.hid (hb.keeps0 ((Keeps.refl _ w).alloc (.cells #[va, vb, vc, .int .i64 o.cost] 72)))
  have HC := Lib.hid (hc.keeps0 ((Keeps.refl _ w).alloc (.cells #[va, vb, vc, .int .i64 o.cost] 72)))
  have K0 := Lib.hid ((Keeps.refl (fun _ => False) w).alloc (.cells #[va, vb, vc, .int .i64 o.cost] 72))
  obtain ⟨ao1, ca1, h1, _⟩ := ha.form
  obtain ⟨ao2, ca2, h2, _⟩ := hb.form
  obtain ⟨ao3, ca3, h3, _⟩ := hc.form
  subst h1 h2 h3
  clear ha hb hc
  cases b1 : isSetB o.pre n with
  | false =>
    have hr : Hid (opCode o n = 5) := by unfold Hid opCode; simp [b1]
    have B1 := Lib.hid b1; clear b1
    go_enter Tryz.func90, Tryz.ntmps90
    go_wp2_with fail
    refine (sIsSet_val HA.out B1.out).mono ?_; rintro e w1 ⟨rfl, rfl⟩
    go_wp2_with fail
    go_ret
    exact ⟨congrArg (fun u : Int => Ending.returned (Value.int .i64 u)) hr.out.symm, K0.out⟩
  | true =>
    cases b2 : isSetB o.add n with
    | false =>
      have hr : Hid (opCode o n = 5) := by unfold Hid opCode; simp [b2]
      have B1 := Lib.hid b1; have B2 := Lib.hid b2; clear b1 b2
      go_enter Tryz.func90, Tryz.ntmps90
      go_wp2_with fail
      refine (sIsSet_val HA.out B1.out).mono ?_; rintro e w1 ⟨rfl, rfl⟩
      go_wp2_with fail
      refine (sIsSet_val HB.out B2.out).mono ?_; rintro e w1 ⟨rfl, rfl⟩
      go_wp2_with fail
      go_ret
      exact ⟨congrArg (fun u : Int => Ending.returned (Value.int .i64 u)) hr.out.symm, K0.out⟩
    | true =>
      cases b3 : isSetB o.del n with
      | false =>
        have hr : Hid (opCode o n = 5) := by unfold Hid opCode; simp [b3]
        have B1 := Lib.hid b1; have B2 := Lib.hid b2; have B3 := Lib.hid b3; clear b1 b2 b3
        go_enter Tryz.func90, Tryz.ntmps90
        go_wp2_with fail
        refine (sIsSet_val HA.out B1.out).mono ?_; rintro e w1 ⟨rfl, rfl⟩
        go_wp2_with fail
        refine (sIsSet_val HB.out B2.out).mono ?_; rintro e w1 ⟨rfl, rfl⟩
        go_wp2_with fail
        refine (sIsSet_val HC.out B3.out).mono ?_; rintro e w1 ⟨rfl, rfl⟩
        go_wp2_with fail
        go_ret
        exact ⟨congrArg (fun u : Int => Ending.returned (Value.int .i64 u)) hr.out.symm, K0.out⟩
      | true =>
        have hl := isSet_length b3 hn
        have HM := Lib.hid (meets_any _ _ _ _ _ HB.out HC.out (isSet_iff.1 b3).2 (by omega))
        cases b4 : disjB o.add o.del with
        | false =>
          have hr : Hid (opCode o n = 5) := by unfold Hid opCode; simp [b4]
          have B1 := Lib.hid b1; have B2 := Lib.hid b2; have B3 := Lib.hid b3; have B4 := Lib.hid b4; clear b1 b2 b3 b4
          go_enter Tryz.func90, Tryz.ntmps90
          go_wp2_with fail
          refine (sIsSet_val HA.out B1.out).mono ?_; rintro e w1 ⟨rfl, rfl⟩
          go_wp2_with fail
          refine (sIsSet_val HB.out B2.out).mono ?_; rintro e w1 ⟨rfl, rfl⟩
          go_wp2_with fail
          refine (sIsSet_val HC.out B3.out).mono ?_; rintro e w1 ⟨rfl, rfl⟩
          go_wp2_with fail
          refine HM.out.mono ?_; rintro e w1 ⟨rfl, hk⟩
          rw [B4.out]
          have KF := Lib.hid (K0.out.trans hk)
          clear hk
          go_wp2_with fail
          go_ret
          exact ⟨congrArg (fun u : Int => Ending.returned (Value.int .i64 u)) hr.out.symm, KF.out⟩
        | true =>
          have HO : Hid (opCode o n = if 0 ≤ o.cost ∧ o.cost ≤ 100 then 0 else 3) := by unfold Hid opCode; simp [b1, b2, b3, b4]
          have B1 := Lib.hid b1; have B2 := Lib.hid b2; have B3 := Lib.hid b3; have B4 := Lib.hid b4; clear b1 b2 b3 b4
          have HF := Lib.hid (Four.new w (.slice ao1 o.pre.length ca1) (.slice ao2 o.add.length ca2) (.slice ao3 o.del.length ca3) (.int .i64 o.cost) 72)
          go_enter Tryz.func90, Tryz.ntmps90
          go_wp2_with fail
          refine (sIsSet_val HA.out B1.out).mono ?_; rintro e w1 ⟨rfl, rfl⟩
          go_wp2_with fail
          refine (sIsSet_val HB.out B2.out).mono ?_; rintro e w1 ⟨rfl, rfl⟩
          go_wp2_with fail
          refine (sIsSet_val HC.out B3.out).mono ?_; rintro e w1 ⟨rfl, rfl⟩
          go_wp2_with fail
          refine HM.out.mono ?_; rintro e w1 ⟨rfl, hk⟩
          rw [B4.out]
          have KF := Lib.hid (K0.out.trans hk)
          have c3 := (HF.out.keeps0 hk).c3
          have l3 := (HF.out.keeps0 hk).lt
          clear hk
          by_cases h0 : o.cost < 0
          · have hr : Hid (opCode o n = 3) := by unfold Hid; rw [HO.out, if_neg (by omega)]
            go_wp2_with fail
            go_ret
            exact ⟨congrArg (fun u : Int => Ending.returned (Value.int .i64 u)) hr.out.symm, KF.out⟩
          · have h0' : 0 ≤ o.cost := by omega
            clear h0
            by_cases h1 : 100 < o.cost
            · have hr : Hid (opCode o n = 3) := by unfold Hid; rw [HO.out, if_neg (by omega)]
              go_wp2_with fail
              go_ret
              exact ⟨congrArg (fun u : Int => Ending.returned (Value.int .i64 u)) hr.out.symm, KF.out⟩
            · have h1' : o.cost ≤ 100 := by omega
              clear h1
              have hr : Hid (opCode o n = 0) := by unfold Hid; rw [HO.out, if_pos ⟨h0', h1'⟩]
              go_wp2_with fail
              go_ret
              exact ⟨congrArg (fun u : Int => Ending.returned (Value.int .i64 u)) hr.out.symm, KF.out⟩

end Go.Proofs.YtjcgkmodmjckjaaGreat

namespace Go.Proofs.YtjcgkmodmjckjaaGreat
open Go.ChangeShapes Go.WideShapes Go.ChangeAt Go.RowKit Go.Deep

theorem cells_int : Tryz.prog.cellsOf 3 = 1 := by kernel_rfl
theorem cells_operator : Tryz.prog.cellsOf 72 = 4 := by kernel_rfl
theorem cells_task : Tryz.prog.cellsOf 25 = 4 := by kernel_rfl
theorem cells_ints : Tryz.prog.cellsOf 22 = 1 := by kernel_rfl

theorem ints_of_trod {H : Type} {enc : TypeId × Value → H} {W : World} {v : Value} {fuel : Nat} {x : DataW H × List MemPlace}
    (hf : DataW.trod enc Tryz.prog W 0 (fun _ => true) true fuel 22 [v] = some x) : ∃ l, Ints W v l := by
  rcases open_ints Tryz.underlying22 Tryz.underlying3 cells_int hf with ⟨hcs, hx⟩ | ⟨a, len, cap, zs, hcs, _, hl, hm, hz, hx, hcell, hwz⟩
  · simp at hcs
    subst hcs
    exact ⟨[], none, 0, rfl, by simp, fun h => by simp at h⟩
  · simp at hcs
    subst hcs
    simp only [if_true] at hz
    have hlt : (zs.take len).length = len := by simp; omega
    refine ⟨zs.take len, some a, cap, by rw [hlt], by rw [hlt]; omega, fun h => ?_⟩
    rw [hlt] at h
    obtain ⟨b, off, spot⟩ := a
    have hspot : spot = none := by simpa [Addr.add] using World.cell?_spot (hcell 0 (by omega))
    subst hspot
    refine ⟨b, off, rfl, fun j x hj => ?_⟩
    rw [List.getElem?_map, List.getElem?_take] at hj
    split at hj
    · have := hcell j (by omega)
      rw [add_plain] at this
      rw [List.getD_eq_getElem?_getD] at this
      obtain ⟨y, hy⟩ : ∃ y, zs[j]? = some y := ⟨_, List.getElem?_eq_getElem (by omega)⟩
      rw [hy] at this hj
      simp at hj this
      subst hj
      exact this
    · simp at hj

theorem operator_struct : ∃ f0 f1 f2 f3 : Field, Tryz.prog.underlying 72 = some (.struct #[f0, f1, f2, f3]) ∧ (f0.type = 22 ∧ f1.type = 22 ∧ f2.type = 22 ∧ f3.type = 3) ∧ f0.offset = 0 ∧ f1.offset = 1 ∧ f2.offset = 2 ∧ f3.offset = 3 :=
  ⟨_, _, _, _, Tryz.underlying72, ⟨rfl, rfl, rfl, rfl⟩, rfl, rfl, rfl, rfl⟩

set_option maxRecDepth 100000 in
theorem ops_of_trod {H : Type} {enc : TypeId × Value → H} {W : World} {v : Value} {fuel : Nat} {x : DataW H × List MemPlace}
    (hf : DataW.trod enc Tryz.prog W 0 (fun _ => true) true fuel 23 [v] = some x) : ∃ ops, OpsAt W v ops := by
  rcases open_slice Tryz.underlying23 hf with ⟨hcs, hx⟩ | ⟨a, len, cap, m, n, D, Pl, hcs, hb, hl, hm, hmm, hx, each⟩
  · simp at hcs
    subst hcs
    exact ⟨[], none, 0, rfl, by simp, fun h => by simp at h⟩
  · simp at hcs
    subst hcs
    simp only [if_true] at hmm
    obtain ⟨f0, f1, f2, f3, hs, ⟨t0, t1, t2, t3⟩, s0, s1, s2, s3⟩ := operator_struct
    have all : ∀ i, i < len → ∃ (o : Opr) (va vb vc : Value), W.cell? (a.add (i * 4)) = some va ∧ W.cell? (a.add (i * 4 + 1)) = some vb ∧ W.cell? (a.add (i * 4 + 2)) = some vc ∧ W.cell? (a.add (i * 4 + 3)) = some (.int .i64 o.cost) ∧ Ints W va o.pre ∧ Ints W vb o.add ∧ Ints W vc o.del := by
      intro i hi
      obtain ⟨cs', h1, h2⟩ := each i (by omega)
      rw [cells_operator] at h1
      obtain ⟨_, hlen, hcell⟩ := World.cells?_some h1
      obtain ⟨xs, k, hk, hxy, _, hxl, hff⟩ := DataW.trod_struct hs h2
      match xs, hxl, cs', hlen with
      | [y0, y1, y2, y3], _, [v0, v1, v2, v3], _ =>
        have g0 := hff 0 f0 rfl
        have g1 := hff 1 f1 rfl
        have g2 := hff 2 f2 rfl
        have g3 := hff 3 f3 rfl
        simp [t0, t1, t2, t3, s0, s1, s2, s3, cells_int, cells_ints] at g0 g1 g2 g3
        obtain ⟨l0, e0⟩ := ints_of_trod g0
        obtain ⟨l1, e1⟩ := ints_of_trod g1
        obtain ⟨l2, e2⟩ := ints_of_trod g2
        obtain ⟨x3, e3, _⟩ := DataW.trod_int Tryz.underlying3 g3
        simp at e3
        subst e3
        have c0 := hcell 0 (by omega)
        have c1 := hcell 1 (by omega)
        have c2 := hcell 2 (by omega)
        have c3 := hcell 3 (by omega)
        rw [add_add] at c0 c1 c2 c3
        exact ⟨⟨l0, l1, l2, x3⟩, v0, v1, v2, by simpa using c0, by simpa using c1, by simpa using c2, by simpa using c3, e0, e1, e2⟩
    have hops : ∀ n, n ≤ len → ∃ ops : List Opr, ops.length = n ∧ ∀ i o, ops[i]? = some o → ∃ va vb vc : Value, W.cell? (a.add (i * 4)) = some va ∧ W.cell? (a.add (i * 4 + 1)) = some vb ∧ W.cell? (a.add (i * 4 + 2)) = some vc ∧ W.cell? (a.add (i * 4 + 3)) = some (.int .i64 o.cost) ∧ Ints W va o.pre ∧ Ints W vb o.add ∧ Ints W vc o.del := by
      intro n
      induction n with
      | zero => intro _; exact ⟨[], rfl, by simp⟩
      | succ n ih =>
        intro hn
        obtain ⟨ops, h1, h2⟩ := ih (by omega)
        obtain ⟨o, ho⟩ := all n (by omega)
        refine ⟨ops ++ [o], by simp [h1], fun i o' hi => ?_⟩
        by_cases hin : i < ops.length
        · rw [List.getElem?_append_left hin] at hi
          exact h2 i o' hi
        · rw [List.getElem?_append_right (by omega)] at hi
          have hz : i - ops.length = 0 := by
            have := (List.getElem?_eq_some_iff.1 hi).1; simp at this; omega
          rw [hz] at hi
          simp at hi
          subst hi
          have : i = n := by omega
          subst this
          exact ho
    obtain ⟨ops, hlen, hcells⟩ := hops len (Nat.le_refl _)
    refine ⟨ops, some a, cap, by rw [hlen], by rw [hlen]; omega, fun h => ?_⟩
    obtain ⟨o, va, vb, vc, ho, _⟩ := all 0 (by omega)
    obtain ⟨b, off, spot⟩ := a
    have hspot : spot = none := by simpa [Addr.add] using World.cell?_spot ho
    subst hspot
    refine ⟨b, off, rfl, fun i o' hi => ?_⟩
    obtain ⟨va, vb, vc, g0, g1, g2, g3, g4⟩ := hcells i o' hi
    rw [add_plain] at g0 g1 g2 g3
    exact ⟨va, vb, vc, g0, g1, g2, g3, g4⟩

set_option maxRecDepth 100000 in
theorem task_struct : ∃ f0 f1 f2 f3 : Field, Tryz.prog.underlying 25 = some (.struct #[f0, f1, f2, f3]) ∧ (f0.type = 3 ∧ f1.type = 22 ∧ f2.type = 22 ∧ f3.type = 23) ∧ oneCellFields Tryz.prog #[f0, f1, f2, f3] = true :=
  ⟨_, _, _, _, Tryz.underlying25, ⟨rfl, rfl, rfl, rfl⟩, by kernel_rfl⟩

set_option maxRecDepth 100000 in
theorem opened_task {H : Type} {enc : TypeId × Value → H} {W : World} {v : Value} {d0 : DataW H} {p : List MemPlace} {r : Go.Reach} {b0 : Nat}
    (h0 : DataW.Trod enc Tryz.prog W 0 (fun _ => true) true 25 v d0 p) (hv : Value.okWide Tryz.prog W r b0 25 v) : ∃ (t : Tsk) (vi vg vo : Value), v = .agg #[.int .i64 t.n, vi, vg, vo] ∧ TaskAt W vi vg vo t := by
  obtain ⟨f0, f1, f2, f3, hs, ⟨t0, t1, t2, t3⟩, hone⟩ := task_struct
  obtain ⟨v0, v1, v2, v3, y0, y1, y2, y3, n, rfl, _, _, h1, h2, h3, h4⟩ := Joins.open_agg4 hs hone cells_task hv h0
  rw [t0] at h1; rw [t1] at h2; rw [t2] at h3; rw [t3] at h4
  obtain ⟨x0, e0, _⟩ := DataW.trod_int Tryz.underlying3 h1
  simp at e0
  subst e0
  obtain ⟨l1, k1⟩ := ints_of_trod h2
  obtain ⟨l2, k2⟩ := ints_of_trod h3
  obtain ⟨ops, k3⟩ := ops_of_trod h4
  exact ⟨⟨x0, l1, l2, ops⟩, v1, v2, v3, rfl, k1, k2, k3⟩

theorem godebug_own : ownKnob Tryz.prog.godebug = none := by kernel_rfl
theorem laidOut : laidOutB Tryz.prog = true := by kernel_rfl

end Go.Proofs.YtjcgkmodmjckjaaGreat

namespace Go.Proofs.YtjcgkmodmjckjaaGreat
open Go.RowKit

/-- A key of three numbers. -/
abbrev K3 := Nat × Nat × Nat
def k3 (x : K3) : Value := .agg #[.int .i64 (x.1 : Int), .int .i64 (x.2.1 : Int), .int .i64 (x.2.2 : Int)]
/-- What the type of such a key does. -/
structure Key3 (P : Program) (k : TypeId) : Prop where
  check : ∀ (em : Bool) (x : K3) (w : World), (Instr.checkKey em 10000 k (k3 x)).run P w = .ok () w
  eq : ∀ (x y : K3) (w : World), (Op.equal k (k3 x) (k3 y)).run P w = .ok (decide (x = y)) w
  find : ∀ (x : K3) (es : List MapEntry) (w : World), (Instr.findKey k (k3 x) es).run P w = (Instr.findAsking k (k3 x) es).run P w

/-- Block b is a map with such keys, as a function that is not defined everywhere. -/
def TMap (w : World) (b : Nat) (f : K3 → Option Nat) : Prop :=
  ∃ es c, w.heap[b]? = some (.map es c) ∧ ∃ l : List (K3 × Nat), es.toList.map (fun e => (e.key, e.val)) = l.map (fun p => (k3 p.1, Value.int .i64 (p.2 : Int))) ∧ (l.map Prod.fst).Nodup ∧ ∀ x v, f x = some v ↔ (x, v) ∈ l

theorem TMap.keeps {S : Nat → Prop} {w w' : World} {b : Nat} {f : K3 → Option Nat} (h : TMap w b f) (hk : Keeps S w w') (hs : ¬ S b) : TMap w' b f := by
  obtain ⟨es, c, hb, h2⟩ := h; exact ⟨es, c, hk.heap hb hs, h2⟩
theorem TMap.lt {w : World} {b : Nat} {f : K3 → Option Nat} (h : TMap w b f) : b < w.heap.size := by obtain ⟨es, c, hb, _⟩ := h; exact lt_of_heap hb
theorem TMap.map_block {w : World} {b : Nat} {f : K3 → Option Nat} (h : TMap w b f) : ∃ es c, w.heap[b]? = some (.map es c) := by obtain ⟨es, c, hb, _⟩ := h; exact ⟨es, c, hb⟩
theorem TMap.ne_cells {w : World} {b : Nat} {f : K3 → Option Nat} (h : TMap w b f) {g : Nat} {cs : Array Value} {T : TypeId} {fr : Nat × Nat} (hg : w.heap[g]? = some (.cells cs T fr)) : b ≠ g := fun e => by
  obtain ⟨es, c, hb⟩ := h.map_block
  rw [e, hg] at hb; cases hb
theorem TMap.made (w : World) : TMap (w.alloc (.map #[] 0)) w.heap.size (fun _ => none) := ⟨#[], 0, (MapKept.heap_alloc w _).1, [], by simp, by simp, fun x v => by simp⟩

theorem asking_none {P : Program} {k : TypeId} (hk : Key3 P k) {x : K3} (w : World) : ∀ {es : List MapEntry} {l : List (K3 × Nat)} (i : Nat), es.map (fun e => (e.key, e.val)) = l.map (fun p => (k3 p.1, Value.int .i64 (p.2 : Int))) → (∀ p ∈ l, p.1 ≠ x) →
    (Instr.findAsking k (k3 x) es i).run P w = .ok none w
  | [], _, _, _, _ => rfl
  | e :: es, [], _, h, _ => by simp at h
  | e :: es, p :: l, i, h, hx => by
    simp only [List.map_cons, List.cons.injEq, Prod.mk.injEq] at h
    obtain ⟨⟨h1, h2⟩, h3⟩ := h
    have hp : p.1 ≠ x := hx p (by simp)
    have hd : decide (x = p.1) = false := by simpa using fun e => hp e.symm
    have ih := asking_none hk w (x := x) (i + 1) h3 (fun q hq => hx q (by simp [hq]))
    simp only [Instr.findAsking, Sem.run_bind, h1, hk.eq, hd, Result.andThen_ok]
    simpa using ih
theorem asking_some {P : Program} {k : TypeId} (hk : Key3 P k) {x : K3} {v : Nat} (w : World) : ∀ {es : List MapEntry} {l : List (K3 × Nat)} (i j : Nat), es.map (fun e => (e.key, e.val)) = l.map (fun p => (k3 p.1, Value.int .i64 (p.2 : Int))) → l[j]? = some (x, v) → (∀ q p, q < j → l[q]? = some p → p.1 ≠ x) →
    (Instr.findAsking k (k3 x) es i).run P w = .ok (some (i + j, .int .i64 (v : Int))) w
  | [], l, _, _, h, hj, _ => by
    have : l = [] := by simpa using h.symm
    subst this; simp at hj
  | e :: es, [], _, _, h, _, _ => by simp at h
  | e :: es, p :: l, i, 0, h, hj, _ => by
    simp only [List.map_cons, List.cons.injEq, Prod.mk.injEq] at h
    obtain ⟨⟨h1, h2⟩, h3⟩ := h
    simp at hj
    subst hj
    simp [Instr.findAsking, h1, h2, hk.eq, Result.andThen]
  | e :: es, p :: l, i, j + 1, h, hj, hx => by
    simp only [List.map_cons, List.cons.injEq, Prod.mk.injEq] at h
    obtain ⟨⟨h1, h2⟩, h3⟩ := h
    have hp : p.1 ≠ x := hx 0 p (by omega) rfl
    have hd : decide (x = p.1) = false := by simpa using fun e => hp e.symm
    have ih := asking_some hk w (x := x) (v := v) (i + 1) j h3 (by simpa using hj) (fun k q hk hq => hx (k + 1) q (by omega) (by simpa using hq))
    simp only [Instr.findAsking, Sem.run_bind, h1, hk.eq, hd, Result.andThen_ok]
    rw [show i + (j + 1) = i + 1 + j from by omega]
    simpa using ih
theorem first3 {l : List (K3 × Nat)} (hn : (l.map Prod.fst).Nodup) {j : Nat} {x : K3} {v : Nat} (hj : l[j]? = some (x, v)) : ∀ k p, k < j → l[k]? = some p → p.1 ≠ x := by
  intro k p hk hp e
  have h1 : (l.map Prod.fst)[k]? = some x := by rw [List.getElem?_map, hp]; simp [e]
  have h2 : (l.map Prod.fst)[j]? = some x := by rw [List.getElem?_map, hj]; rfl
  have lj : j < (l.map Prod.fst).length := (List.getElem?_eq_some_iff.1 h2).1
  have := (List.getElem?_inj (by omega) hn).1 (h1.trans h2.symm)
  omega

section
variable {P : Program} {w : World} {b : Nat} {f : K3 → Option Nat} {t k e : TypeId}
theorem TMap.look_some (h : TMap w b f) (ht : P.underlying t = some (.map k e)) (hk : Key3 P k) {x : K3} {v : Nat} (hx : f x = some v) :
    (Instr.lookup t (.map (some b)) (k3 x) true).run P w = .ok (.tuple #[.int .i64 (v : Int), .bool true]) w := by
  obtain ⟨es, c, hb, l, he, hn, hl⟩ := h
  obtain ⟨j, hj⟩ := List.mem_iff_getElem?.1 ((hl x v).1 hx)
  have hf := (hk.find x es.toList w).trans (asking_some hk w 0 j he hj (first3 hn hj))
  simp [Instr.lookup, run_underlying ht, MapKept.run_getObj_map hb, hk.check, hf, Result.andThen]
theorem TMap.look_none (h : TMap w b f) (ht : P.underlying t = some (.map k e)) (hk : Key3 P k) {z : Value} (hz : (zeroValue e).run P w = .ok z w) {x : K3} (hx : f x = none) :
    (Instr.lookup t (.map (some b)) (k3 x) true).run P w = .ok (.tuple #[z, .bool false]) w := by
  obtain ⟨es, c, hb, l, he, hn, hl⟩ := h
  have hf := (hk.find x es.toList w).trans (asking_none hk w 0 he (fun p hp e => by
    have h2 := (hl p.1 p.2).2 hp
    rw [e, hx] at h2; cases h2))
  simp [Instr.lookup, run_underlying ht, MapKept.run_getObj_map hb, hk.check, hf, hz, Result.andThen]
/-- The map behind a store. -/
def put3 (f : K3 → Option Nat) (x : K3) (v : Nat) : K3 → Option Nat := fun y => if y = x then some v else f y
theorem TMap.put (h : TMap w b f) (ht : P.underlying t = some (.map k e)) (hk : Key3 P k) (x : K3) (v : Nat) :
    ∃ w', (Instr.mapUpdate t (.map (some b)) (k3 x) (.int .i64 (v : Int))).run P w = .ok () w' ∧ TMap w' b (put3 f x v) ∧ Keeps (fun j => j = b) w w' := by
  obtain ⟨es, c, hb, l, he, hn, hl⟩ := h
  cases hx : f x with
  | none =>
    have hmiss : ∀ p ∈ l, p.1 ≠ x := fun p hp e => by
      have h2 := (hl p.1 p.2).2 hp
      rw [e, hx] at h2; cases h2
    have hf := (hk.find x es.toList w).trans (asking_none hk w 0 he hmiss)
    refine ⟨{ w with heap := w.heap.setIfInBounds b (.map (es.push { key := k3 x, val := .int .i64 (v : Int), born := c }) (c + 1)) }, ?_, ⟨_, _, heap_setObj hb, l ++ [(x, v)], by simp [he], ?_, fun y u => ?_⟩, keeps_setObj _ _ _⟩
    · simp [Instr.mapUpdate, run_underlying ht, MapKept.run_getObj_map hb, hk.check, hf, MapKept.run_setObj_map _ hb, Result.andThen]
    · rw [List.map_append, List.nodup_append]
      refine ⟨hn, by simp, fun a ha c hc hac => ?_⟩
      simp only [List.map_cons, List.map_nil, List.mem_singleton] at hc
      obtain ⟨q, hq, rfl⟩ := List.mem_map.1 ha
      exact hmiss q hq (hac.trans hc)
    · unfold put3
      by_cases hy : y = x
      · subst hy
        rw [if_pos rfl, List.mem_append]
        constructor
        · intro h; cases h; exact .inr (by simp)
        · rintro (h | h)
          · exact absurd rfl (hmiss _ h)
          · simp at h; rw [h]
      · rw [if_neg hy, hl y u, List.mem_append]
        constructor
        · exact .inl
        · rintro (h | h)
          · exact h
          · simp at h; exact absurd h.1 hy
  | some u0 =>
    obtain ⟨j, hj⟩ := List.mem_iff_getElem?.1 ((hl x u0).1 hx)
    have hf := (hk.find x es.toList w).trans (asking_some hk w 0 j he hj (first3 hn hj))
    have lj : j < l.length := (List.getElem?_eq_some_iff.1 hj).1
    have ls : es.size = l.length := by have := congrArg List.length he; simpa using this
    have hkey : ((es[j]?).map (·.key)).getD (k3 x) = k3 x := by
      have : (es.toList.map (fun e => (e.key, e.val)))[j]? = some (k3 x, .int .i64 (u0 : Int)) := by rw [he, List.getElem?_map, hj]; rfl
      rw [List.getElem?_map] at this
      simp at this
      obtain ⟨a, ha, hb, hc⟩ := this
      simp [ha, hb]
    have hstay : (Instr.keyThatStays (k3 x) (k3 x)).run P w = .ok (k3 x) w := by
      have : Instr.sameBits (9998 + 1 + 1) (k3 x) (k3 x) = true := by simp [k3, Instr.sameBits]
      unfold Instr.keyThatStays
      rw [if_pos this]; rfl
    rw [Nat.zero_add] at hf
    refine ⟨{ w with heap := w.heap.setIfInBounds b (.map (es.modify j fun e => { e with key := k3 x, val := .int .i64 (v : Int) }) c) }, ?_, ⟨_, _, heap_setObj hb, l.set j (x, v), ?_, ?_, fun y u => ?_⟩, keeps_setObj _ _ _⟩
    · simp [Instr.mapUpdate, run_underlying ht, MapKept.run_getObj_map hb, hk.check, hf, hkey, hstay, MapKept.run_setObj_map _ hb, Result.andThen]
    · apply List.ext_getElem?
      intro i
      have hi : (es.toList.map (fun e => (e.key, e.val)))[i]? = (l.map (fun p => (k3 p.1, Value.int .i64 (p.2 : Int))))[i]? := by rw [he]
      simp only [List.getElem?_map, Array.getElem?_toList] at hi ⊢
      rw [Array.getElem?_modify, List.getElem?_set]
      by_cases hij : j = i
      · subst hij
        simp [lj]
        exact ⟨_, Array.getElem?_eq_getElem (by omega)⟩
      · simp [hij]
        simpa using hi
    · have hkeys : (l.set j (x, v)).map Prod.fst = l.map Prod.fst := by
        apply List.ext_getElem?
        intro n
        rw [List.getElem?_map, List.getElem?_map]
        by_cases hn : n = j
        · subst hn; rw [List.getElem?_set_self lj, hj]; rfl
        · rw [List.getElem?_set_ne (fun e => hn e.symm)]
      rw [hkeys]; exact hn
    · unfold put3
      have hfirst : ∀ (i : Nat) (p : K3 × Nat), l[i]? = some p → p.1 = x → i = j := by
        intro i p hp e
        have h1 : (l.map Prod.fst)[i]? = some x := by rw [List.getElem?_map, hp]; simp [e]
        have h2 : (l.map Prod.fst)[j]? = some x := by rw [List.getElem?_map, hj]; rfl
        have li : i < (l.map Prod.fst).length := (List.getElem?_eq_some_iff.1 h1).1
        exact (List.getElem?_inj li hn).1 (h1.trans h2.symm)
      by_cases hy : y = x
      · subst hy
        rw [if_pos rfl]
        constructor
        · intro h; cases h; exact List.mem_iff_getElem?.2 ⟨j, List.getElem?_set_self lj⟩
        · intro h
          obtain ⟨i, hi⟩ := List.mem_iff_getElem?.1 h
          by_cases hij : i = j
          · subst hij; rw [List.getElem?_set_self lj] at hi; cases hi; rfl
          · rw [List.getElem?_set_ne (fun e => hij e.symm)] at hi
            exact absurd (hfirst i _ hi rfl) hij
      · rw [if_neg hy, hl y u]
        constructor
        · intro h
          obtain ⟨i, hi⟩ := List.mem_iff_getElem?.1 h
          have hij : i ≠ j := fun e => by subst e; rw [hj] at hi; cases hi; exact hy rfl
          exact List.mem_iff_getElem?.2 ⟨i, by rw [List.getElem?_set_ne (fun e => hij e.symm)]; exact hi⟩
        · intro h
          obtain ⟨i, hi⟩ := List.mem_iff_getElem?.1 h
          by_cases hij : i = j
          · subst hij; rw [List.getElem?_set_self lj] at hi; cases hi; exact absurd rfl hy
          · rw [List.getElem?_set_ne (fun e => hij e.symm)] at hi
            exact List.mem_iff_getElem?.2 ⟨i, hi⟩
end

end Go.Proofs.YtjcgkmodmjckjaaGreat

namespace Go.Proofs.YtjcgkmodmjckjaaGreat
open Go.RowKit

theorem part3 (a b c : Nat) (j : Nat) (v : Value) (h : #[Value.int .i64 (a : Int), .int .i64 (b : Int), .int .i64 (c : Int)][j]? = some v) (w : World) :
    (part 3 #[Value.int .i64 (a : Int), .int .i64 (b : Int), .int .i64 (c : Int)] j).run Tryz.prog w = .ok v w := run_part_plain w (by kernel_rfl) h
theorem eqInt (d : Nat) (u v : Nat) (w : World) : (Op.equalIn (d + 1) 3 (.int .i64 (u : Int)) (.int .i64 (v : Int))).run Tryz.prog w = .ok (decide (u = v)) w := by
  rw [run_equalIn_int w d 3 .i64 .i64 (u : Int) (v : Int) Tryz.underlying3]
  congr 1
  rw [Bool.eq_iff_iff]; simp; omega
theorem checkInt (em : Bool) (d : Nat) (u : Int) (w : World) : (Instr.checkKey em (d + 1) 3 (.int .i64 u)).run Tryz.prog w = .ok () w := run_checkKey_int' Tryz.underlying3 em d u w
theorem checkNode (em : Bool) (d a b c : Nat) (w : World) : (Instr.checkKey em (d + 1 + 1) 110 (k3 (a, b, c))).run Tryz.prog w = .ok () w := by
  have ne : ("Level" : String) ≠ "_" ∧ ("Low" : String) ≠ "_" ∧ ("High" : String) ≠ "_" := by decide
  have p0 := part3 a b c 0 (.int .i64 (a : Int)) rfl w
  have p1 := part3 a b c 1 (.int .i64 (b : Int)) rfl w
  have p2 := part3 a b c 2 (.int .i64 (c : Int)) rfl w
  have e := fun u => checkInt em d u w
  unfold k3
  rw [Instr.checkKey]
  simp only [Sem.run_bind, run_underlying Tryz.underlying110, Result.andThen_ok]
  simp [p0, p1, p2, ne, e]
theorem checkArr (em : Bool) (d a b c : Nat) (w : World) : (Instr.checkKey em (d + 1 + 1) 164 (k3 (a, b, c))).run Tryz.prog w = .ok () w := by
  have hs : (sizeOf 3).run Tryz.prog w = .ok 1 w := by kernel_rfl
  have p0 := part3 a b c 0 (.int .i64 (a : Int)) rfl w
  have p1 := part3 a b c 1 (.int .i64 (b : Int)) rfl w
  have p2 := part3 a b c 2 (.int .i64 (c : Int)) rfl w
  have e := fun u => checkInt em d u w
  unfold k3
  rw [Instr.checkKey]
  simp only [Sem.run_bind, run_underlying Tryz.underlying164, Result.andThen_ok]
  rw [Std.Legacy.Range.forIn_eq_forIn_range']
  simp [List.range', hs, p0, p1, p2, e]
theorem key3_node : Key3 Tryz.prog 110 := by
  have ne : ("Level" : String) ≠ "_" ∧ ("Low" : String) ≠ "_" ∧ ("High" : String) ≠ "_" := by decide
  refine ⟨fun em x w => ?_, fun x y w => ?_, fun x es w => run_findKey_eq w (by rw [Tryz.underlying110]) _ _⟩
  · obtain ⟨a, b, c⟩ := x
    exact checkNode em 9998 a b c w
  · obtain ⟨a, b, c⟩ := x
    obtain ⟨a', b', c'⟩ := y
    have hf : Tryz.prog.fieldsOf 110 = #[{ name := "Level", type := 3, offset := 0, embedded := false, tag := "", pkgPath := "", byteOffset := 0 }, { name := "Low", type := 3, offset := 1, embedded := false, tag := "", pkgPath := "", byteOffset := 8 }, { name := "High", type := 3, offset := 2, embedded := false, tag := "", pkgPath := "", byteOffset := 16 }] := by
      unfold Program.fieldsOf; rw [Tryz.underlying110]
    have h1 := run_equalIn_struct (P := Tryz.prog) w 9999 110 #[.int .i64 (a : Int), .int .i64 (b : Int), .int .i64 (c : Int)] #[.int .i64 (a' : Int), .int .i64 (b' : Int), .int .i64 (c' : Int)] (by rw [hf]; exact Tryz.underlying110) (by kernel_rfl)
    unfold Op.equal k3
    refine (show _ = _ from h1).trans ?_
    rw [hf]
    have p0 := part3 a b c 0 (.int .i64 (a : Int)) rfl w
    have p1 := part3 a b c 1 (.int .i64 (b : Int)) rfl w
    have p2 := part3 a b c 2 (.int .i64 (c : Int)) rfl w
    have q0 := part3 a' b' c' 0 (.int .i64 (a' : Int)) rfl w
    have q1 := part3 a' b' c' 1 (.int .i64 (b' : Int)) rfl w
    have q2 := part3 a' b' c' 2 (.int .i64 (c' : Int)) rfl w
    have e' : ∀ (u v : Nat), (Op.equalIn 9999 3 (.int .i64 (u : Int)) (.int .i64 (v : Int))).run Tryz.prog w = .ok (decide (u = v)) w := fun u v => eqInt 9998 u v w
    simp only [Op.eqFields, ne.1, ne.2.1, ne.2.2, ne_eq, not_false_eq_true, if_true, Sem.run_bind, p0, p1, p2, q0, q1, q2, Result.andThen_ok, e', Sem.run_ite, Sem.run_pure, Prod.mk.injEq]
    by_cases h0 : a = a'
    · by_cases h1 : b = b'
      · by_cases h2 : c = c' <;> simp [h0, h1, h2]
      · simp [h0, h1]
    · simp [h0]
theorem eqArr (d a b c a' b' c' : Nat) (w : World) : (Op.equalIn (d + 1 + 1) 164 (k3 (a, b, c)) (k3 (a', b', c'))).run Tryz.prog w = .ok (decide ((a, b, c) = (a', b', c'))) w := by
  have hs : (sizeOf 3).run Tryz.prog w = .ok 1 w := by kernel_rfl
  have p0 := part3 a b c 0 (.int .i64 (a : Int)) rfl w
  have p1 := part3 a b c 1 (.int .i64 (b : Int)) rfl w
  have p2 := part3 a b c 2 (.int .i64 (c : Int)) rfl w
  have q0 := part3 a' b' c' 0 (.int .i64 (a' : Int)) rfl w
  have q1 := part3 a' b' c' 1 (.int .i64 (b' : Int)) rfl w
  have q2 := part3 a' b' c' 2 (.int .i64 (c' : Int)) rfl w
  have e' := fun u v => eqInt d u v w
  unfold k3
  rw [Op.equalIn]
  simp only [Sem.run_bind, run_underlying Tryz.underlying164, Result.andThen_ok, hs]
  rw [Std.Legacy.Range.forIn_eq_forIn_range']
  by_cases h0 : a = a'
  · subst h0
    by_cases h1 : b = b'
    · subst h1
      by_cases h2 : c = c'
      · subst h2; simp [List.range', p0, p1, p2, e']
      · simp [List.range', p0, p1, p2, q0, q1, q2, e', h2]
    · simp [List.range', p0, p1, q0, q1, e', h1]
  · simp [List.range', p0, q0, e', h0]
theorem key3_arr : Key3 Tryz.prog 164 := by
  refine ⟨fun em x w => ?_, fun x y w => ?_, fun x es w => run_findKey_eq w (by rw [Tryz.underlying164]) _ _⟩
  · obtain ⟨a, b, c⟩ := x
    exact checkArr em 9998 a b c w
  · obtain ⟨a, b, c⟩ := x
    obtain ⟨a', b', c'⟩ := y
    exact eqArr 9998 a b c a' b' c' w

end Go.Proofs.YtjcgkmodmjckjaaGreat

namespace Go.Proofs.YtjcgkmodmjckjaaGreat

/-- A node: its level and its two sides. -/
structure Dn where
  lv : Nat
  lo : Nat
  hi : Nat

/-- The level of a node's number. -/
def lev (L : Nat) (N : List Dn) (k : Nat) : Nat := if k < 2 then L else ((N[k - 2]?).map Dn.lv).getD L
/-- What a store's nodes must be. -/
structure DgOk (L : Nat) (N : List Dn) : Prop where
  lv : ∀ (i : Nat) (n : Dn), N[i]? = some n → n.lv < L
  lo : ∀ (i : Nat) (n : Dn), N[i]? = some n → n.lo < i + 2
  hi : ∀ (i : Nat) (n : Dn), N[i]? = some n → n.hi < i + 2
  ne : ∀ (i : Nat) (n : Dn), N[i]? = some n → n.lo ≠ n.hi
  llo : ∀ (i : Nat) (n : Dn), N[i]? = some n → n.lv < lev L N n.lo
  lhi : ∀ (i : Nat) (n : Dn), N[i]? = some n → n.lv < lev L N n.hi
  un : ∀ (i j : Nat) (n : Dn), N[i]? = some n → N[j]? = some n → i = j
/-- How many nodes have levels below 19. -/
def lvAt (N : List Dn) (i : Nat) : Nat := ((N[i]?).map Dn.lv).getD 0
def low (N : List Dn) : Nat := ((List.range N.length).filter fun i => decide (lvAt N i < 19)).length
def hic (N : List Dn) (t : Nat) : Nat := ((List.range N.length).filter fun i => decide (t ≤ lvAt N i)).length
def nb (l : Nat) : Nat := if l < 19 then 1 else 0
def lowB (L l : Nat) : Nat := 2 ^ (min L 19 - l) - 1
/-- What a node says of a set, with fuel. -/
def evF (N : List Dn) (m : Nat) : Nat → Nat → Bool
  | 0, k => k == 1
  | f + 1, k => if k < 2 then k == 1 else
    match N[k - 2]? with
    | some n => evF N m f (if m.testBit n.lv then n.hi else n.lo)
    | none => false
def dv (N : List Dn) (k m : Nat) : Bool := evF N m k k
/-- More nodes. -/
def DgLe (N N' : List Dn) : Prop := ∃ X, N' = N ++ X

theorem DgOk.nil (L : Nat) : DgOk L [] := ⟨fun i n h => by simp at h, fun i n h => by simp at h, fun i n h => by simp at h, fun i n h => by simp at h, fun i n h => by simp at h, fun i n h => by simp at h, fun i j n h => by simp at h⟩
theorem split_len {α : Type} (l : List α) (p : α → Bool) : l.length = (l.filter p).length + (l.filter fun x => !p x).length := by
  have h := (List.filter_append_perm p l).length_eq
  rw [List.length_append] at h
  exact h.symm
theorem lvAt_app {N : List Dn} {n : Dn} {i : Nat} (h : i < N.length) : lvAt (N ++ [n]) i = lvAt N i := by unfold lvAt; rw [List.getElem?_append_left h]
theorem low_snoc (N : List Dn) (n : Dn) : low (N ++ [n]) = low N + nb n.lv := by
  unfold low
  rw [List.length_append, List.length_singleton, List.range_succ, List.filter_append, List.length_append]
  congr 1
  · congr 1
    refine List.filter_congr (fun i hi => ?_)
    rw [lvAt_app (List.mem_range.1 hi)]
  · have h : lvAt (N ++ [n]) N.length = n.lv := by unfold lvAt; simp
    rw [List.filter_cons, h]
    unfold nb
    by_cases hl : n.lv < 19
    · rw [if_pos hl]; simp [hl]
    · rw [if_neg hl]; simp [hl]
theorem low_hic (N : List Dn) : N.length = low N + hic N 19 := by
  have h := split_len (List.range N.length) (fun i => decide (lvAt N i < 19))
  rw [List.length_range] at h
  have e : ((List.range N.length).filter fun i => !decide (lvAt N i < 19)) = (List.range N.length).filter fun i => decide (19 ≤ lvAt N i) := List.filter_congr (fun i _ => by by_cases h : lvAt N i < 19 <;> simp [h] <;> omega)
  rw [e] at h
  exact h
theorem DgLe.refl (N : List Dn) : DgLe N N := ⟨[], by simp⟩
theorem DgLe.trans {A B C : List Dn} (h : DgLe A B) (g : DgLe B C) : DgLe A C := by
  obtain ⟨X, rfl⟩ := h; obtain ⟨Y, rfl⟩ := g; exact ⟨X ++ Y, by simp⟩
theorem DgLe.len {N N' : List Dn} (h : DgLe N N') : N.length ≤ N'.length := by obtain ⟨X, rfl⟩ := h; simp
theorem DgLe.get {N N' : List Dn} (h : DgLe N N') {i : Nat} {n : Dn} (g : N[i]? = some n) : N'[i]? = some n := by
  obtain ⟨X, rfl⟩ := h
  rw [List.getElem?_append_left (List.getElem?_eq_some_iff.1 g).1, g]
theorem DgLe.get' {N N' : List Dn} (h : DgLe N N') {i : Nat} (g : i < N.length) : N'[i]? = N[i]? := by
  obtain ⟨X, rfl⟩ := h
  rw [List.getElem?_append_left g]
theorem lev_lt {L : Nat} {N : List Dn} {k : Nat} (h : k < 2) : lev L N k = L := by unfold lev; rw [if_pos h]
theorem lev_node {L : Nat} {N : List Dn} {i : Nat} {n : Dn} (h : N[i]? = some n) : lev L N (i + 2) = n.lv := by
  unfold lev; rw [if_neg (by omega), Nat.add_sub_cancel, h]; rfl
theorem DgOk.lev_le {L : Nat} {N : List Dn} (ok : DgOk L N) (k : Nat) : lev L N k ≤ L := by
  unfold lev
  split
  · omega
  · cases h : N[k - 2]? with
    | none => simp
    | some n => have := ok.lv _ _ h; simp; omega
theorem DgLe.lev {L : Nat} {N N' : List Dn} (h : DgLe N N') {k : Nat} (g : k < N.length + 2) : lev L N' k = lev L N k := by
  unfold Go.Proofs.YtjcgkmodmjckjaaGreat.lev
  by_cases h2 : k < 2
  · rw [if_pos h2, if_pos h2]
  · rw [if_neg h2, if_neg h2, h.get' (by omega)]
theorem evF_fuel {L : Nat} {N : List Dn} (ok : DgOk L N) (m : Nat) : ∀ (f g k : Nat), k ≤ f → k ≤ g → evF N m f k = evF N m g k := by
  intro f
  induction f with
  | zero =>
    intro g k h1 _
    have : k = 0 := by omega
    subst this
    cases g <;> simp [evF]
  | succ f ih =>
    intro g k h1 h2
    cases g with
    | zero =>
      have : k = 0 := by omega
      subst this; simp [evF]
    | succ g =>
      unfold evF
      by_cases h : k < 2
      · rw [if_pos h, if_pos h]
      · rw [if_neg h, if_neg h]
        cases hn : N[k - 2]? with
        | none => rfl
        | some n =>
          have a1 := ok.lo _ _ hn; have a2 := ok.hi _ _ hn
          simp only
          apply ih <;> split <;> omega
theorem dv_lt {N : List Dn} {k : Nat} (m : Nat) (h : k < 2) : dv N k m = (k == 1) := by
  unfold dv
  rcases (by omega : k = 0 ∨ k = 1) with rfl | rfl <;> simp [evF]
theorem dv_zero {N : List Dn} (m : Nat) : dv N 0 m = false := dv_lt m (by omega)
theorem dv_one {N : List Dn} (m : Nat) : dv N 1 m = true := dv_lt m (by omega)
theorem dv_node {L : Nat} {N : List Dn} (ok : DgOk L N) {i : Nat} {n : Dn} (h : N[i]? = some n) (m : Nat) : dv N (i + 2) m = dv N (if m.testBit n.lv then n.hi else n.lo) m := by
  have a1 := ok.lo _ _ h; have a2 := ok.hi _ _ h
  unfold dv
  rw [show evF N m (i + 2) (i + 2) = evF N m (i + 1) (if m.testBit n.lv then n.hi else n.lo) from by
    rw [evF, if_neg (by omega), Nat.add_sub_cancel, h]]
  apply evF_fuel ok <;> split <;> omega
theorem evF_le {L : Nat} {N N' : List Dn} (ok : DgOk L N) (h : DgLe N N') (m : Nat) : ∀ (f k : Nat), k < N.length + 2 → evF N' m f k = evF N m f k := by
  intro f
  induction f with
  | zero => intro k _; rfl
  | succ f ih =>
    intro k hk
    unfold evF
    by_cases h2 : k < 2
    · rw [if_pos h2, if_pos h2]
    · rw [if_neg h2, if_neg h2, h.get' (by omega)]
      cases hn : N[k - 2]? with
      | none => rfl
      | some n =>
        have a1 := ok.lo _ _ hn; have a2 := ok.hi _ _ hn
        have a3 := (List.getElem?_eq_some_iff.1 hn).1
        simp only
        apply ih; split <;> omega
theorem DgLe.dv {L : Nat} {N N' : List Dn} (ok : DgOk L N) (h : DgLe N N') {k : Nat} (hk : k < N.length + 2) (m : Nat) : dv N' k m = dv N k m := evF_le ok h m k k hk
/-- A node says nothing of the facts above its level. -/
theorem dv_indep {L : Nat} {N : List Dn} (ok : DgOk L N) {m m' : Nat} : ∀ (k : Nat), k < N.length + 2 → (∀ j, lev L N k ≤ j → j < L → m.testBit j = m'.testBit j) → dv N k m = dv N k m' := by
  intro k
  induction k using Nat.strongRecOn with
  | _ k ih =>
    intro hk h
    by_cases h2 : k < 2
    · rw [dv_lt m h2, dv_lt m' h2]
    · obtain ⟨i, rfl⟩ : ∃ i, k = i + 2 := ⟨k - 2, by omega⟩
      obtain ⟨n, hn⟩ : ∃ n, N[i]? = some n := ⟨N[i]'(by omega), List.getElem?_eq_getElem (by omega)⟩
      have a0 := ok.lv _ _ hn; have a1 := ok.lo _ _ hn; have a2 := ok.hi _ _ hn; have a3 := ok.llo _ _ hn; have a4 := ok.lhi _ _ hn
      rw [lev_node hn] at h
      rw [dv_node ok hn, dv_node ok hn, ← h n.lv (by omega) a0]
      cases m.testBit n.lv with
      | true => exact ih n.hi (by omega) (by omega) (fun j h1 h2 => h j (by omega) h2)
      | false => exact ih n.lo (by omega) (by omega) (fun j h1 h2 => h j (by omega) h2)
/-- A node other than 0 is true for some set. -/
theorem dv_some {L : Nat} {N : List Dn} (ok : DgOk L N) : ∀ (k : Nat), k < N.length + 2 → k ≠ 0 → ∃ m, m < 2 ^ L ∧ (∀ j, j < lev L N k → m.testBit j = false) ∧ dv N k m = true := by
  intro k
  induction k using Nat.strongRecOn with
  | _ k ih =>
    intro hk h0
    by_cases h2 : k < 2
    · have : k = 1 := by omega
      subst this
      exact ⟨0, Nat.two_pow_pos L, fun j _ => Nat.zero_testBit j, dv_one 0⟩
    · obtain ⟨i, rfl⟩ : ∃ i, k = i + 2 := ⟨k - 2, by omega⟩
      obtain ⟨n, hn⟩ : ∃ n, N[i]? = some n := ⟨N[i]'(by omega), List.getElem?_eq_getElem (by omega)⟩
      have a0 := ok.lv _ _ hn; have a1 := ok.lo _ _ hn; have a2 := ok.hi _ _ hn; have a3 := ok.llo _ _ hn; have a4 := ok.lhi _ _ hn; have a5 := ok.ne _ _ hn
      rw [lev_node hn]
      by_cases hl : n.lo = 0
      · obtain ⟨m, g1, g2, g3⟩ := ih n.hi (by omega) (by omega) (by omega)
        have e : (m ||| 2 ^ n.lv).testBit n.lv = true := by simp
        refine ⟨m ||| 2 ^ n.lv, Nat.or_lt_two_pow g1 (Nat.pow_lt_pow_right (by omega) a0), fun j hj => ?_, ?_⟩
        · rw [Nat.testBit_or, g2 j (by omega), Nat.testBit_two_pow_of_ne (by omega)]; rfl
        · rw [dv_node ok hn, e]
          simp only [if_true]
          rw [← g3]
          refine dv_indep ok n.hi (by omega) (fun j h1 _ => ?_)
          rw [Nat.testBit_or, Nat.testBit_two_pow_of_ne (by omega), Bool.or_false]
      · obtain ⟨m, g1, g2, g3⟩ := ih n.lo (by omega) (by omega) hl
        refine ⟨m, g1, fun j hj => g2 j (by omega), ?_⟩
        rw [dv_node ok hn, g2 n.lv a3]
        exact g3

/-- What an operation hands back: more nodes, at most b, and a node that says S, of level l or deeper. -/
structure DgPost (L : Nat) (N N' : List Dn) (k b l : Nat) (S : Nat → Bool) : Prop where
  le : DgLe N N'
  ok : DgOk L N'
  lt : k < N'.length + 2
  val : ∀ m, dv N' k m = S m
  lev : l ≤ lev L N' k
  cnt : low N' ≤ low N + b

theorem DgPost.same {L : Nat} {N : List Dn} (ok : DgOk L N) {k b l : Nat} {S : Nat → Bool} (hk : k < N.length + 2) (hv : ∀ m, dv N k m = S m) (hl : l ≤ Go.Proofs.YtjcgkmodmjckjaaGreat.lev L N k) : DgPost L N N k b l S := ⟨DgLe.refl N, ok, hk, hv, hl, by omega⟩
theorem DgPost.weak {L : Nat} {N N' : List Dn} {k b l b' l' : Nat} {S S' : Nat → Bool} (h : DgPost L N N' k b l S) (hb : b ≤ b') (hl : l' ≤ l) (hs : ∀ m, S m = S' m) : DgPost L N N' k b' l' S' := ⟨h.le, h.ok, h.lt, fun m => by rw [h.val, hs], by have := h.lev; omega, by have := h.cnt; omega⟩
theorem node_new {L : Nat} {N : List Dn} (ok : DgOk L N) {l lo hi : Nat} (hl : l < L) (h1 : lo < N.length + 2) (h2 : hi < N.length + 2) (hne : lo ≠ hi) (g1 : l < lev L N lo) (g2 : l < lev L N hi) (hun : ∀ i : Nat, N[i]? ≠ some (⟨l, lo, hi⟩ : Dn)) :
    DgPost L N (N ++ [⟨l, lo, hi⟩]) (N.length + 2) (nb l) l (fun m => dv N (if m.testBit l then hi else lo) m) := by
  have hle : DgLe N (N ++ [⟨l, lo, hi⟩]) := ⟨_, rfl⟩
  have hlast : (N ++ [(⟨l, lo, hi⟩ : Dn)])[N.length]? = some ⟨l, lo, hi⟩ := by simp
  have hcase : ∀ (i : Nat) (n : Dn), (N ++ [(⟨l, lo, hi⟩ : Dn)])[i]? = some n → N[i]? = some n ∨ (i = N.length ∧ n = ⟨l, lo, hi⟩) := by
    intro i n h
    by_cases hi' : i < N.length
    · rw [List.getElem?_append_left hi'] at h; exact .inl h
    · have hb := (List.getElem?_eq_some_iff.1 h).1
      simp at hb
      have : i = N.length := by omega
      subst this
      rw [hlast] at h
      exact .inr ⟨rfl, (Option.some.inj h).symm⟩
  have hok : DgOk L (N ++ [⟨l, lo, hi⟩]) := by
    constructor
    · intro i n h; rcases hcase i n h with h | ⟨rfl, rfl⟩
      · exact ok.lv i n h
      · exact hl
    · intro i n h; rcases hcase i n h with h | ⟨rfl, rfl⟩
      · exact ok.lo i n h
      · exact h1
    · intro i n h; rcases hcase i n h with h | ⟨rfl, rfl⟩
      · exact ok.hi i n h
      · exact h2
    · intro i n h; rcases hcase i n h with h | ⟨rfl, rfl⟩
      · exact ok.ne i n h
      · exact hne
    · intro i n h; rcases hcase i n h with h | ⟨rfl, rfl⟩
      · have := (List.getElem?_eq_some_iff.1 h).1; have := ok.lo i n h
        rw [hle.lev (by omega)]; exact ok.llo i n h
      · rw [hle.lev h1]; exact g1
    · intro i n h; rcases hcase i n h with h | ⟨rfl, rfl⟩
      · have := (List.getElem?_eq_some_iff.1 h).1; have := ok.hi i n h
        rw [hle.lev (by omega)]; exact ok.lhi i n h
      · rw [hle.lev h2]; exact g2
    · intro i j n hi hj
      rcases hcase i n hi with h | ⟨rfl, rfl⟩
      · rcases hcase j n hj with h' | ⟨rfl, rfl⟩
        · exact ok.un i j n h h'
        · exact absurd h (hun i)
      · rcases hcase j _ hj with h' | ⟨rfl, _⟩
        · exact absurd h' (hun j)
        · rfl
  refine ⟨hle, hok, by simp, fun m => ?_, ?_, by rw [low_snoc]; exact Nat.le_refl _⟩
  · rw [dv_node hok hlast]
    exact hle.dv ok (by split <;> assumption) m
  · rw [lev_node hlast]; exact Nat.le_refl _
theorem node_old {L : Nat} {N : List Dn} (ok : DgOk L N) {i l lo hi : Nat} (h : N[i]? = some ⟨l, lo, hi⟩) : DgPost L N N (i + 2) (nb l) l (fun m => dv N (if m.testBit l then hi else lo) m) := by
  have := (List.getElem?_eq_some_iff.1 h).1
  exact .same ok (by omega) (fun m => by rw [dv_node ok h]) (by rw [lev_node h]; exact Nat.le_refl _)
theorem node_eq {L : Nat} {N : List Dn} (ok : DgOk L N) {l lo : Nat} (h1 : lo < N.length + 2) (g1 : l < lev L N lo) : DgPost L N N lo (nb l) l (fun m => dv N (if m.testBit l then lo else lo) m) :=
  .same ok h1 (fun m => by simp) (by omega)
/-- Few nodes have the last levels. -/
def xs2 : Nat → Nat
  | 0 => 2
  | j + 1 => xs2 j * xs2 j
/-- The pairs of different elements. -/
def offs (A : List Nat) : List (Nat × Nat) := A.flatMap fun a => (A.erase a).map fun b => (a, b)
theorem mem_offs {A : List Nat} {a b : Nat} (ha : a ∈ A) (hb : b ∈ A) (hne : a ≠ b) : (a, b) ∈ offs A :=
  List.mem_flatMap.2 ⟨a, ha, List.mem_map.2 ⟨b, (List.mem_erase_of_ne (fun e => hne e.symm)).2 hb, rfl⟩⟩
theorem offs_len (A : List Nat) : (offs A).length ≤ A.length * (A.length - 1) := by
  unfold offs
  rw [List.length_flatMap]
  have h : ∀ B : List Nat, (∀ x ∈ B, x ∈ A) → (B.map fun a => ((A.erase a).map fun b => (a, b)).length).sum ≤ B.length * (A.length - 1) := by
    intro B
    induction B with
    | nil => intro _; simp
    | cons x r ih =>
      intro hB
      have h1 := ih (fun y hy => hB y (by simp [hy]))
      have h2 : ((A.erase x).map fun b => (x, b)).length = A.length - 1 := by rw [List.length_map, List.length_erase_of_mem (hB x (by simp))]
      rw [List.map_cons, List.sum_cons, h2, List.length_cons, Nat.succ_mul]
      omega
  exact h A (fun x hx => hx)
theorem nodup_sub {α : Type} [DecidableEq α] {l r : List α} (hl : l.Nodup) (h : ∀ x ∈ l, x ∈ r) : l.length ≤ r.length := by
  induction l generalizing r with
  | nil => simp
  | cons a q ih =>
    have hn := List.nodup_cons.1 hl
    have ha : a ∈ r := h a (by simp)
    have h1 := ih hn.2 (r := r.erase a) (fun x hx => (List.mem_erase_of_ne (fun e => hn.1 (by rw [← e]; exact hx))).2 (h x (by simp [hx])))
    rw [List.length_erase_of_mem ha] at h1
    have := List.length_pos_of_mem ha
    rw [List.length_cons]; omega
theorem hic_le {L : Nat} {N : List Dn} (ok : DgOk L N) : ∀ j t, t + j = L → hic N t + 2 ≤ xs2 j := by
  intro j
  induction j with
  | zero =>
    intro t ht
    have : hic N t = 0 := by
      unfold hic
      rw [List.length_eq_zero_iff, List.filter_eq_nil_iff]
      intro i hi
      rw [List.mem_range] at hi
      have h1 := ok.lv i _ (List.getElem?_eq_getElem hi)
      have h2 : lvAt N i = (N[i]'hi).lv := by unfold lvAt; rw [List.getElem?_eq_getElem hi]; rfl
      simp; omega
    rw [this]; exact Nat.le_refl _
  | succ j ih =>
    intro t ht
    have hb := ih (t + 1) (by omega)
    let A : List Nat := 0 :: 1 :: ((List.range N.length).filter fun i => decide (t + 1 ≤ lvAt N i)).map fun i => i + 2
    have hA : A.length = hic N (t + 1) + 2 := by simp [A, hic]
    have hAx : A.length ≤ xs2 j := by omega
    have hmem : ∀ k, k < N.length + 2 → t < lev L N k → k ∈ A := by
      intro k hk hl
      by_cases h0 : k = 0
      · subst h0; simp [A]
      · by_cases h1 : k = 1
        · subst h1; simp [A]
        · obtain ⟨i, rfl⟩ : ∃ i, k = i + 2 := ⟨k - 2, by omega⟩
          have hi : i < N.length := by omega
          rw [lev_node (List.getElem?_eq_getElem hi)] at hl
          have h2 : lvAt N i = (N[i]'hi).lv := by unfold lvAt; rw [List.getElem?_eq_getElem hi]; rfl
          exact List.mem_cons_of_mem _ (List.mem_cons_of_mem _ (List.mem_map.2 ⟨i, List.mem_filter.2 ⟨List.mem_range.2 hi, by simp; omega⟩, rfl⟩))
    let M : List Nat := (List.range N.length).filter fun i => decide (lvAt N i = t)
    let pr : Nat → Nat × Nat := fun i => (((N[i]?).map Dn.lo).getD 0, ((N[i]?).map Dn.hi).getD 0)
    have hMn : (M.map pr).Nodup := by
      refine List.pairwise_map.2 (List.Pairwise.imp_of_mem ?_ (List.nodup_range.filter _))
      intro a b ha hb hne he
      have ha' := List.mem_filter.1 ha; have hb' := List.mem_filter.1 hb
      have la := List.mem_range.1 ha'.1; have lb := List.mem_range.1 hb'.1
      have e1 : lvAt N a = (N[a]'la).lv := by unfold lvAt; rw [List.getElem?_eq_getElem la]; rfl
      have e2 : lvAt N b = (N[b]'lb).lv := by unfold lvAt; rw [List.getElem?_eq_getElem lb]; rfl
      have q1 := ha'.2; have q2 := hb'.2
      simp only [decide_eq_true_iff] at q1 q2
      simp only [pr, List.getElem?_eq_getElem la, List.getElem?_eq_getElem lb, Option.map_some, Option.getD_some, Prod.mk.injEq] at he
      have : N[a]'la = N[b]'lb := by
        cases h1 : N[a]'la with
        | mk x1 y1 z1 =>
          cases h2 : N[b]'lb with
          | mk x2 y2 z2 =>
            rw [h1] at e1 he; rw [h2] at e2 he
            simp only at e1 e2 he
            rw [Dn.mk.injEq]
            exact ⟨by omega, he.1, he.2⟩
      exact hne (ok.un a b _ (List.getElem?_eq_getElem la) (by rw [List.getElem?_eq_getElem lb, this]))
    have hM : M.length ≤ A.length * (A.length - 1) := by
      have h1 := nodup_sub hMn (r := offs A) (fun p hp => by
        obtain ⟨i, hi, rfl⟩ := List.mem_map.1 hp
        have hi' := List.mem_filter.1 hi
        have li := List.mem_range.1 hi'.1
        have q1 := hi'.2
        simp only [decide_eq_true_iff] at q1
        have e1 : lvAt N i = (N[i]'li).lv := by unfold lvAt; rw [List.getElem?_eq_getElem li]; rfl
        have g := List.getElem?_eq_getElem li
        simp only [pr, g, Option.map_some, Option.getD_some]
        have b1 := ok.lo _ _ g; have b2 := ok.hi _ _ g; have b3 := ok.llo _ _ g; have b4 := ok.lhi _ _ g
        exact mem_offs (hmem _ (by omega) (by omega)) (hmem _ (by omega) (by omega)) (ok.ne _ _ g))
      rw [List.length_map] at h1
      exact Nat.le_trans h1 (offs_len A)
    have hsum : hic N t = M.length + hic N (t + 1) := by
      unfold hic
      have h := split_len ((List.range N.length).filter fun i => decide (t ≤ lvAt N i)) (fun i => decide (lvAt N i = t))
      rw [List.filter_filter, List.filter_filter] at h
      rw [h]
      congr 1
      · congr 1
        exact List.filter_congr (fun i _ => by by_cases h : lvAt N i = t <;> simp [h])
      · congr 1
        exact List.filter_congr (fun i _ => by
          by_cases h : lvAt N i = t
          · simp [h]
          · by_cases h2 : t ≤ lvAt N i
            · have h3 : t + 1 ≤ lvAt N i := by omega
              simp [h, h2, h3]
            · have h3 : ¬ t + 1 ≤ lvAt N i := by omega
              simp [h, h2, h3])
    have hx : A.length * (A.length - 1) + A.length ≤ xs2 j * xs2 j := by
      have h1 : A.length * (A.length - 1) + A.length = A.length * A.length := by
        have : 0 < A.length := by omega
        obtain ⟨q, hq⟩ : ∃ q, A.length = q + 1 := ⟨A.length - 1, by omega⟩
        rw [hq, Nat.add_sub_cancel, ← Nat.mul_succ]
      rw [h1]; exact Nat.mul_le_mul hAx hAx
    unfold xs2
    omega
/-- A store of at most 24 levels has not many more nodes than those below level 19. -/
theorem dg_len {L : Nat} {N : List Dn} (ok : DgOk L N) (hL : L ≤ 24) : N.length ≤ low N + 4294967296 := by
  rw [low_hic N]
  by_cases h : 19 ≤ L
  · have h1 := hic_le ok (L - 19) 19 (by omega)
    have h2 : xs2 (L - 19) ≤ 4294967296 := by
      rcases (by omega : L - 19 = 0 ∨ L - 19 = 1 ∨ L - 19 = 2 ∨ L - 19 = 3 ∨ L - 19 = 4 ∨ L - 19 = 5) with h | h | h | h | h | h <;> rw [h] <;> decide
    omega
  · have : hic N 19 = 0 := by
      unfold hic
      rw [List.length_eq_zero_iff, List.filter_eq_nil_iff]
      intro i hi
      rw [List.mem_range] at hi
      have h1 := ok.lv i _ (List.getElem?_eq_getElem hi)
      have h2 : lvAt N i = (N[i]'hi).lv := by unfold lvAt; rw [List.getElem?_eq_getElem hi]; rfl
      simp; omega
    omega
theorem lowB_step {L l : Nat} (hl : l < L) : lowB L (l + 1) + lowB L (l + 1) + nb l ≤ lowB L l := by
  unfold lowB nb
  by_cases h : l < 19
  · rw [if_pos h]
    have e : min L 19 - l = (min L 19 - (l + 1)) + 1 := by omega
    have := Nat.two_pow_pos (min L 19 - (l + 1))
    rw [e, Nat.pow_succ]; omega
  · rw [if_neg h]
    have e1 : min L 19 - (l + 1) = 0 := by omega
    have e2 : min L 19 - l = 0 := by omega
    rw [e1, e2]; decide
theorem lowB_anti {L a b : Nat} (h : a ≤ b) : lowB L b ≤ lowB L a := by
  unfold lowB
  have := Nat.pow_le_pow_right (n := 2) (by omega) (show min L 19 - b ≤ min L 19 - a by omega)
  omega
theorem lowB_le (L l : Nat) : lowB L l ≤ 524287 := by
  unfold lowB
  have := Nat.pow_le_pow_right (n := 2) (by omega) (show min L 19 - l ≤ 19 by omega)
  have e : 2 ^ 19 = 524288 := by decide
  omega
theorem lowB_top {L l : Nat} (h : L ≤ l) : lowB L l = 0 := by
  unfold lowB
  rw [show min L 19 - l = 0 from by omega]
/-- The two sides of a node at a level. -/
def sideN (L : Nat) (N : List Dn) (k l : Nat) : Nat × Nat := if l < lev L N k then (k, k) else ((N[k - 2]?).map fun n => (n.lo, n.hi)).getD (k, k)
theorem side_ok {L : Nat} {N : List Dn} (ok : DgOk L N) {k l : Nat} (hk : k < N.length + 2) (hl : l ≤ lev L N k) (hL : l < L) :
    (sideN L N k l).1 < N.length + 2 ∧ (sideN L N k l).2 < N.length + 2 ∧ l < lev L N (sideN L N k l).1 ∧ l < lev L N (sideN L N k l).2 ∧ (sideN L N k l).1 ≤ k ∧ (sideN L N k l).2 ≤ k ∧
      ∀ m, dv N k m = dv N (if m.testBit l then (sideN L N k l).2 else (sideN L N k l).1) m := by
  unfold sideN
  by_cases h : l < lev L N k
  · rw [if_pos h]
    exact ⟨hk, hk, h, h, Nat.le_refl _, Nat.le_refl _, fun m => by simp⟩
  · rw [if_neg h]
    have he : l = lev L N k := by omega
    by_cases h2 : k < 2
    · rw [lev_lt h2] at he; omega
    · obtain ⟨i, rfl⟩ : ∃ i, k = i + 2 := ⟨k - 2, by omega⟩
      obtain ⟨n, hn⟩ : ∃ n, N[i]? = some n := ⟨N[i]'(by omega), List.getElem?_eq_getElem (by omega)⟩
      have a1 := ok.lo _ _ hn; have a2 := ok.hi _ _ hn; have a3 := ok.llo _ _ hn; have a4 := ok.lhi _ _ hn
      rw [lev_node hn] at he
      subst he
      rw [Nat.add_sub_cancel, hn]
      exact ⟨by simp; omega, by simp; omega, a3, a4, by simp; omega, by simp; omega, fun m => dv_node ok hn m⟩
/-- And and Or of a store. -/
def opB (op : Nat) (x y : Bool) : Bool := if op = 0 then x && y else x || y

/-- How many sets of n facts a test is true for. -/
def cn : Nat → (Nat → Bool) → Nat
  | 0, P => if P 0 = true then 1 else 0
  | n + 1, P => cn n (fun x => P (2 * x)) + cn n (fun x => P (2 * x + 1))
theorem cn_congr {n : Nat} {P Q : Nat → Bool} (h : ∀ x, x < 2 ^ n → P x = Q x) : cn n P = cn n Q := by
  induction n generalizing P Q with
  | zero => unfold cn; rw [h 0 (by simp)]
  | succ n ih =>
    unfold cn
    have e : 2 ^ (n + 1) = 2 * 2 ^ n := by rw [Nat.pow_succ, Nat.mul_comm]
    rw [ih (P := fun x => P (2 * x)) (Q := fun x => Q (2 * x)) (fun x hx => h _ (by omega)), ih (P := fun x => P (2 * x + 1)) (Q := fun x => Q (2 * x + 1)) (fun x hx => h _ (by omega))]
theorem cn_eq {n : Nat} {P : Nat → Bool} {S : List Nat} (hd : S.Nodup) (h : ∀ x, x ∈ S ↔ x < 2 ^ n ∧ P x = true) : cn n P = S.length := by
  induction n generalizing P S with
  | zero =>
    unfold cn
    by_cases hp : P 0 = true
    · rw [if_pos hp]
      have hm : 0 ∈ S := (h 0).2 ⟨by simp, hp⟩
      have hp2 : S.Perm [0] := (List.perm_ext_iff_of_nodup hd (by simp)).2 (fun x => by rw [h]; simp; intro h; subst h; exact hp)
      rw [hp2.length_eq]; rfl
    · rw [if_neg hp]
      cases S with
      | nil => rfl
      | cons a r =>
        have h1 := (h a).1 (by simp)
        have : a = 0 := by have := h1.1; simp at this; omega
        subst this
        exact absurd h1.2 hp
  | succ n ih =>
    have e : 2 ^ (n + 1) = 2 * 2 ^ n := by rw [Nat.pow_succ, Nat.mul_comm]
    unfold cn
    have hA : ((S.filter fun x => decide (x % 2 = 0)).map fun x => x / 2).Nodup := by
      refine (List.pairwise_map).2 ?_
      refine List.Pairwise.imp_of_mem ?_ (hd.filter _)
      intro a b ha hb hne he
      simp at ha hb
      omega
    have hB : ((S.filter fun x => !decide (x % 2 = 0)).map fun x => x / 2).Nodup := by
      refine (List.pairwise_map).2 ?_
      refine List.Pairwise.imp_of_mem ?_ (hd.filter _)
      intro a b ha hb hne he
      simp at ha hb
      omega
    rw [ih hA (P := fun x => P (2 * x)) (fun x => ?_), ih hB (P := fun x => P (2 * x + 1)) (fun x => ?_)]
    · rw [List.length_map, List.length_map]
      have hp := List.filter_append_perm (fun x => decide (x % 2 = 0)) S
      have := hp.length_eq
      rw [List.length_append] at this
      exact this
    · simp only [List.mem_map, List.mem_filter]
      constructor
      · rintro ⟨y, ⟨hy, h2⟩, rfl⟩
        have h3 := (h y).1 hy
        simp at h2
        have e2 : 2 * (y / 2) + 1 = y := by omega
        rw [e2]
        exact ⟨by omega, h3.2⟩
      · rintro ⟨h1, h2⟩
        exact ⟨2 * x + 1, ⟨(h _).2 ⟨by omega, h2⟩, by simp⟩, by omega⟩
    · simp only [List.mem_map, List.mem_filter]
      constructor
      · rintro ⟨y, ⟨hy, h2⟩, rfl⟩
        have h3 := (h y).1 hy
        simp at h2
        have e2 : 2 * (y / 2) = y := by omega
        rw [e2]
        exact ⟨by omega, h3.2⟩
      · rintro ⟨h1, h2⟩
        exact ⟨2 * x, ⟨(h _).2 ⟨by omega, h2⟩, by simp⟩, by omega⟩
/-- The number that Count's walk finds below a node, with fuel. -/
def cntF (L : Nat) (N : List Dn) : Nat → Nat → Nat
  | 0, k => k
  | f + 1, k => if k < 2 then k else
    match N[k - 2]? with
    | some n => cntF L N f n.lo * 2 ^ (lev L N n.lo - n.lv - 1) + cntF L N f n.hi * 2 ^ (lev L N n.hi - n.lv - 1)
    | none => 0
def cntN (L : Nat) (N : List Dn) (k : Nat) : Nat := cntF L N k k
theorem cntF_fuel {L : Nat} {N : List Dn} (ok : DgOk L N) : ∀ (f g k : Nat), k ≤ f → k ≤ g → cntF L N f k = cntF L N g k := by
  intro f
  induction f with
  | zero =>
    intro g k h1 _
    have : k = 0 := by omega
    subst this
    cases g <;> simp [cntF]
  | succ f ih =>
    intro g k h1 h2
    cases g with
    | zero =>
      have : k = 0 := by omega
      subst this; simp [cntF]
    | succ g =>
      unfold cntF
      by_cases h : k < 2
      · rw [if_pos h, if_pos h]
      · rw [if_neg h, if_neg h]
        cases hn : N[k - 2]? with
        | none => rfl
        | some n =>
          have a1 := ok.lo _ _ hn; have a2 := ok.hi _ _ hn
          simp only
          rw [ih g n.lo (by omega) (by omega), ih g n.hi (by omega) (by omega)]
theorem cntN_lt {L : Nat} {N : List Dn} {k : Nat} (h : k < 2) : cntN L N k = k := by
  unfold cntN
  rcases (by omega : k = 0 ∨ k = 1) with rfl | rfl <;> simp [cntF]
theorem cntN_node {L : Nat} {N : List Dn} (ok : DgOk L N) {i : Nat} {n : Dn} (h : N[i]? = some n) : cntN L N (i + 2) = cntN L N n.lo * 2 ^ (lev L N n.lo - n.lv - 1) + cntN L N n.hi * 2 ^ (lev L N n.hi - n.lv - 1) := by
  have a1 := ok.lo _ _ h; have a2 := ok.hi _ _ h
  unfold cntN
  rw [show cntF L N (i + 2) (i + 2) = cntF L N (i + 1) n.lo * 2 ^ (lev L N n.lo - n.lv - 1) + cntF L N (i + 1) n.hi * 2 ^ (lev L N n.hi - n.lv - 1) from by
    rw [cntF, if_neg (by omega), Nat.add_sub_cancel, h]]
  rw [cntF_fuel ok (i + 1) n.lo n.lo (by omega) (by omega), cntF_fuel ok (i + 1) n.hi n.hi (by omega) (by omega)]
theorem testBit_mul {x j i : Nat} : (x * 2 ^ j).testBit i = (decide (j ≤ i) && x.testBit (i - j)) := by
  rw [Nat.mul_comm, Nat.testBit_two_pow_mul]
theorem testBit_odd {y j i : Nat} : ((2 * y + 1) * 2 ^ j).testBit i = if i = j then true else (2 * y * 2 ^ j).testBit i := by
  rw [testBit_mul, testBit_mul]
  by_cases h : i = j
  · subst h; rw [if_pos rfl, Nat.sub_self]; simp
  · rw [if_neg h]
    by_cases h2 : j ≤ i
    · obtain ⟨d, hd⟩ : ∃ d, i - j = d + 1 := ⟨i - j - 1, by omega⟩
      rw [hd, Nat.testBit_succ, Nat.testBit_succ, show (2 * y + 1) / 2 = y from by omega, show 2 * y / 2 = y from by omega]
    · simp [h2]
/-- Count's number is that of the sets for which the diagram is true. -/
theorem cntN_is {L : Nat} {N : List Dn} (ok : DgOk L N) : ∀ (k : Nat), k < N.length + 2 → ∀ d j, j + d = lev L N k → cn (L - j) (fun x => dv N k (x * 2 ^ j)) = cntN L N k * 2 ^ d := by
  intro k
  induction k using Nat.strongRecOn with
  | _ k ih =>
    intro hk d
    induction d with
    | zero =>
      intro j hj
      by_cases h2 : k < 2
      · rw [lev_lt h2] at hj
        have : L - j = 0 := by omega
        rw [this, cntN_lt h2]
        unfold cn
        simp only [Nat.zero_mul]
        rw [dv_lt _ h2]
        rcases (by omega : k = 0 ∨ k = 1) with rfl | rfl <;> simp
      · obtain ⟨i, rfl⟩ : ∃ i, k = i + 2 := ⟨k - 2, by omega⟩
        obtain ⟨n, hn⟩ : ∃ n, N[i]? = some n := ⟨N[i]'(by omega), List.getElem?_eq_getElem (by omega)⟩
        have a0 := ok.lv _ _ hn; have a1 := ok.lo _ _ hn; have a2 := ok.hi _ _ hn; have a3 := ok.llo _ _ hn; have a4 := ok.lhi _ _ hn
        rw [lev_node hn] at hj
        have hj' : j = n.lv := by omega
        subst hj'
        obtain ⟨e, he⟩ : ∃ e, L - n.lv = e + 1 := ⟨L - n.lv - 1, by omega⟩
        have he' : L - (n.lv + 1) = e := by omega
        rw [he, cn, cntN_node ok hn, Nat.pow_zero, Nat.mul_one]
        have b1 := ih n.lo (by omega) (by omega) (lev L N n.lo - n.lv - 1) (n.lv + 1) (by omega)
        have b2 := ih n.hi (by omega) (by omega) (lev L N n.hi - n.lv - 1) (n.lv + 1) (by omega)
        rw [he'] at b1 b2
        rw [← b1, ← b2]
        have c1 : ∀ x : Nat, 2 * x * 2 ^ n.lv = x * 2 ^ (n.lv + 1) := fun x => by rw [Nat.pow_succ, Nat.mul_comm 2 x, Nat.mul_assoc, Nat.mul_comm 2]
        congr 1
        · refine cn_congr (fun x _ => ?_)
          rw [c1, dv_node ok hn, show (x * 2 ^ (n.lv + 1)).testBit n.lv = false from by rw [testBit_mul, show decide (n.lv + 1 ≤ n.lv) = false from by simp]; rfl]
          rfl
        · refine cn_congr (fun x _ => ?_)
          rw [dv_node ok hn, show ((2 * x + 1) * 2 ^ n.lv).testBit n.lv = true from by rw [testBit_odd, if_pos rfl]]
          simp only [if_true]
          refine dv_indep ok n.hi (by omega) (fun q h1 _ => ?_)
          rw [testBit_odd, if_neg (by omega), c1]
    | succ d ihd =>
      intro j hj
      have hle := ok.lev_le k
      obtain ⟨e, he⟩ : ∃ e, L - j = e + 1 := ⟨L - j - 1, by omega⟩
      have he' : L - (j + 1) = e := by omega
      have b := ihd (j + 1) (by omega)
      rw [he'] at b
      have c1 : ∀ x : Nat, 2 * x * 2 ^ j = x * 2 ^ (j + 1) := fun x => by rw [Nat.pow_succ, Nat.mul_comm 2 x, Nat.mul_assoc, Nat.mul_comm 2]
      rw [he, cn, Nat.pow_succ, ← Nat.mul_assoc, ← b]
      have d1 : cn e (fun x => dv N k (2 * x * 2 ^ j)) = cn e (fun x => dv N k (x * 2 ^ (j + 1))) := cn_congr (fun x _ => by rw [c1])
      have d2 : cn e (fun x => dv N k ((2 * x + 1) * 2 ^ j)) = cn e (fun x => dv N k (x * 2 ^ (j + 1))) := cn_congr (fun x _ => by
        refine dv_indep ok k hk (fun q h1 _ => ?_)
        rw [testBit_odd, if_neg (by omega), c1])
      rw [d1, d2]; omega
theorem count_is {L : Nat} {N : List Dn} (ok : DgOk L N) {k : Nat} (hk : k < N.length + 2) {S : List Nat} (hd : S.Nodup) (h : ∀ x, x ∈ S ↔ x < 2 ^ L ∧ dv N k x = true) : cntN L N k * 2 ^ lev L N k = S.length := by
  have h1 := cntN_is ok k hk (lev L N k) 0 (by omega)
  rw [← h1]
  simp only [Nat.sub_zero, Nat.pow_zero, Nat.mul_one]
  exact cn_eq hd h
theorem cn_le (n : Nat) (P : Nat → Bool) : cn n P ≤ 2 ^ n := by
  induction n generalizing P with
  | zero => unfold cn; split <;> simp
  | succ n ih =>
    unfold cn
    have h1 := ih (fun x => P (2 * x)); have h2 := ih (fun x => P (2 * x + 1))
    rw [Nat.pow_succ]; omega
theorem cntN_le {L : Nat} {N : List Dn} (ok : DgOk L N) {k : Nat} (hk : k < N.length + 2) : cntN L N k * 2 ^ lev L N k ≤ 2 ^ L := by
  have h1 := cntN_is ok k hk (lev L N k) 0 (by omega)
  rw [← h1]; exact cn_le _ _

end Go.Proofs.YtjcgkmodmjckjaaGreat

namespace Go.Proofs.YtjcgkmodmjckjaaGreat
open Go.RowKit

def dnCells (N : List Dn) : List Value := N.flatMap fun n => [.int .i64 (n.lv : Int), .int .i64 (n.lo : Int), .int .i64 (n.hi : Int)]
theorem dnCells_app (N M : List Dn) : dnCells (N ++ M) = dnCells N ++ dnCells M := by simp [dnCells]
theorem dnCells_get {N : List Dn} {j : Nat} {n : Dn} (h : N[j]? = some n) : (dnCells N)[j * 3]? = some (.int .i64 (n.lv : Int)) ∧ (dnCells N)[j * 3 + 1]? = some (.int .i64 (n.lo : Int)) ∧ (dnCells N)[j * 3 + 2]? = some (.int .i64 (n.hi : Int)) := by
  induction N generalizing j with
  | nil => simp at h
  | cons a r ih =>
    have e : dnCells (a :: r) = [.int .i64 (a.lv : Int), .int .i64 (a.lo : Int), .int .i64 (a.hi : Int)] ++ dnCells r := by simp [dnCells]
    cases j with
    | zero => simp at h; subst h; rw [e]; simp
    | succ j =>
      simp at h
      have := ih h
      rw [e, show (j + 1) * 3 = j * 3 + 3 by omega, show j * 3 + 3 + 1 = j * 3 + 1 + 3 by omega, show j * 3 + 3 + 2 = j * 3 + 2 + 3 by omega]
      simpa using this

/-- What an entry of the memory of pairs says. -/
structure PairOk (L : Nat) (N : List Dn) (op a b k : Nat) : Prop where
  la : a < N.length + 2
  lb : b < N.length + 2
  lk : k < N.length + 2
  lev : min (lev L N a) (lev L N b) ≤ lev L N k
  val : ∀ m, dv N k m = opB op (dv N a m) (dv N b m)
theorem PairOk.le {L : Nat} {N N' : List Dn} {op a b k : Nat} (h : PairOk L N op a b k) (ok : DgOk L N) (hl : DgLe N N') : PairOk L N' op a b k := by
  have := hl.len
  have ha := h.la; have hb := h.lb; have hk := h.lk
  refine ⟨by omega, by omega, by omega, ?_, fun m => ?_⟩
  · rw [hl.lev ha, hl.lev hb, hl.lev hk]; exact h.lev
  · rw [hl.dv ok ha, hl.dv ok hb, hl.dv ok hk]; exact h.val m
/-- The store's memory. -/
structure DgM (w : World) (sb mf mp L : Nat) (N : List Dn) (v : Value) (fm pm : K3 → Option Nat) : Prop where
  blk : w.heap[sb]? = some (.cells #[.int .i64 (L : Int), v, .map (some mf), .map (some mp)] 106 (0, 0))
  row : w.ownsRow 0 110 3 v N.length (dnCells N)
  f : TMap w mf fm
  p : TMap w mp pm
  fp : mf ≠ mp
  ok : DgOk L N
  fok : ∀ l lo hi k, fm (l, lo, hi) = some k ↔ 2 ≤ k ∧ N[k - 2]? = some ⟨l, lo, hi⟩
  pok : ∀ op a b k, pm (op, a, b) = some k → PairOk L N op a b k
theorem heap_row {w w' : World} {base : Nat} {e : TypeId} {size : Nat} {v : Value} {n : Nat} {xs : List Value} {S : Nat → Prop} (h : w.ownsRow base e size v n xs) (hk : Keeps S w w') (hs : ∀ k, v.ownBlock = some k → ¬ S k) : w'.ownsRow base e size v n xs := by
  rcases h with ⟨h1, ⟨rfl, rfl⟩ | ⟨g, cap, cur, rfl, h2, h3, h4⟩⟩
  · exact ⟨h1, .inl ⟨rfl, rfl⟩⟩
  · exact ⟨h1, .inr ⟨g, cap, cur, rfl, h2, hk.heap h3 (hs g rfl), h4⟩⟩
theorem DgM.keeps {S : Nat → Prop} {w w' : World} {sb mf mp L : Nat} {N : List Dn} {v : Value} {fm pm : K3 → Option Nat} (h : DgM w sb mf mp L N v fm pm) (hk : Keeps S w w') (h1 : ¬ S sb) (h2 : ¬ S mf) (h3 : ¬ S mp) (h4 : ∀ k, v.ownBlock = some k → ¬ S k) : DgM w' sb mf mp L N v fm pm :=
  ⟨hk.heap h.blk h1, heap_row h.row hk h4, h.f.keeps hk h2, h.p.keeps hk h3, h.fp, h.ok, h.fok, h.pok⟩
theorem DgM.row_ne {w : World} {sb mf mp L : Nat} {N : List Dn} {v : Value} {fm pm : K3 → Option Nat} (h : DgM w sb mf mp L N v fm pm) : ∀ k, v.ownBlock = some k → k ≠ sb ∧ k ≠ mf ∧ k ≠ mp ∧ k < w.heap.size := by
  intro k hk
  rcases h.row.2 with ⟨rfl, _⟩ | ⟨g, cap, cur, rfl, _, hg, _⟩
  · cases hk
  · cases hk
    refine ⟨?_, ?_, ?_, lt_of_heap hg⟩
    · rintro rfl
      have := h.blk.symm.trans hg
      simp only [Option.some.injEq, Obj.cells.injEq] at this
      exact absurd this.2.1 (by decide)
    · exact fun e => h.f.ne_cells hg e.symm
    · exact fun e => h.p.ne_cells hg e.symm
theorem DgM.ne {w : World} {sb mf mp L : Nat} {N : List Dn} {v : Value} {fm pm : K3 → Option Nat} (h : DgM w sb mf mp L N v fm pm) : mf ≠ sb ∧ mp ≠ sb ∧ sb < w.heap.size ∧ mf < w.heap.size ∧ mp < w.heap.size :=
  ⟨h.f.ne_cells h.blk, h.p.ne_cells h.blk, lt_of_heap h.blk, h.f.lt, h.p.lt⟩
/-- A store whose blocks are among G. -/
def Dg (w : World) (sb L : Nat) (N : List Dn) (G : Nat → Prop) : Prop := ∃ mf mp v fm pm, DgM w sb mf mp L N v fm pm ∧ (G sb ∧ G mf ∧ G mp ∧ ∀ k, v.ownBlock = some k → G k) ∧ ∀ k, G k → k < w.heap.size
theorem Dg.keeps {S : Nat → Prop} {w w' : World} {sb L : Nat} {N : List Dn} {G : Nat → Prop} (h : Dg w sb L N G) (hk : Keeps S w w') (hs : ∀ k, S k → ¬ G k) : Dg w' sb L N G := by
  obtain ⟨mf, mp, v, fm, pm, hm, ⟨g1, g2, g3, g4⟩, g5⟩ := h
  exact ⟨mf, mp, v, fm, pm, hm.keeps hk (fun h => hs _ h g1) (fun h => hs _ h g2) (fun h => hs _ h g3) (fun k hv h => hs _ h (g4 k hv)), ⟨g1, g2, g3, g4⟩, fun k h => Nat.lt_of_lt_of_le (g5 k h) hk.size⟩
theorem Dg.of {w : World} {sb mf mp L : Nat} {N : List Dn} {v : Value} {fm pm : K3 → Option Nat} {G : Nat → Prop} (h : DgM w sb mf mp L N v fm pm) (g : G sb ∧ G mf ∧ G mp ∧ ∀ k, v.ownBlock = some k → G k) : Dg w sb L N (fun k => G k ∧ k < w.heap.size) :=
  ⟨mf, mp, v, fm, pm, h, ⟨⟨g.1, h.ne.2.2.1⟩, ⟨g.2.1, h.ne.2.2.2.1⟩, ⟨g.2.2.1, h.ne.2.2.2.2⟩, fun k hk => ⟨g.2.2.2 k hk, (h.row_ne k hk).2.2.2⟩⟩, fun _ h => h.2⟩
theorem Dg.bnd {w : World} {sb L : Nat} {N : List Dn} {G : Nat → Prop} (h : Dg w sb L N G) : ∀ k, G k → k < w.heap.size := by obtain ⟨mf, mp, v, fm, pm, hm, _, h⟩ := h; exact h
theorem Dg.keeps0 {w w' : World} {sb L : Nat} {N : List Dn} {G : Nat → Prop} (h : Dg w sb L N G) (hk : Keeps (fun _ => False) w w') : Dg w' sb L N G := h.keeps hk (fun _ h => h.elim)
theorem Dg.ok {w : World} {sb L : Nat} {N : List Dn} {G : Nat → Prop} (h : Dg w sb L N G) : DgOk L N := by obtain ⟨mf, mp, v, fm, pm, hm, _⟩ := h; exact hm.ok
theorem Dg.lt {w : World} {sb L : Nat} {N : List Dn} {G : Nat → Prop} (h : Dg w sb L N G) : sb < w.heap.size := by obtain ⟨mf, mp, v, fm, pm, hm, _⟩ := h; exact hm.ne.2.2.1
/-- What an operation of a store hands back. -/
def DgR (w : World) (sb L : Nat) (N : List Dn) (G : Nat → Prop) (b l : Nat) (S : Nat → Bool) (e : Ending) (w' : World) : Prop :=
  ∃ (k : Nat) (N' : List Dn) (G' : Nat → Prop), e = .returned (.int .i64 (k : Int)) ∧ DgPost L N N' k b l S ∧ Dg w' sb L N' G' ∧ Keeps G w w' ∧ ∀ q, G' q → G q ∨ w.heap.size ≤ q

/-- The cells of a store's node. -/
theorem DgM.node {w : World} {sb mf mp L : Nat} {N : List Dn} {v : Value} {fm pm : K3 → Option Nat} (h : DgM w sb mf mp L N v fm pm) {i : Nat} {n : Dn} (hn : N[i]? = some n) :
    ∃ g cap, v = .slice (some ⟨g, 0, none⟩) N.length cap ∧ w.cell? ⟨g, i * 3, none⟩ = some (.int .i64 (n.lv : Int)) ∧ w.cell? ⟨g, i * 3 + 1, none⟩ = some (.int .i64 (n.lo : Int)) ∧ w.cell? ⟨g, i * 3 + 2, none⟩ = some (.int .i64 (n.hi : Int)) ∧ N.length ≤ maxLen := by
  have hi := (List.getElem?_eq_some_iff.1 hn).1
  rcases h.row.2 with ⟨_, h0⟩ | ⟨g, cap, cur, rfl, _, _, hc, hm, _⟩
  · omega
  · obtain ⟨c1, c2, c3⟩ := dnCells_get hn
    refine ⟨g, cap, rfl, ?_, ?_, ?_, by omega⟩
    · rw [h.row.cellAt (i * 3) (by omega)]; exact c1
    · rw [h.row.cellAt (i * 3 + 1) (by omega)]; exact c2
    · rw [h.row.cellAt (i * 3 + 2) (by omega)]; exact c3

set_option maxRecDepth 100000 in
theorem level_any (w : World) (sb mf mp L : Nat) (N : List Dn) (v : Value) (fm pm : K3 → Option Nat) (k : Nat) (h : DgM w sb mf mp L N v fm pm) (hk : k < N.length + 2) :
    Calls Tryz.prog 67 #[.pointer (some ⟨sb, 0, none⟩), .int .i64 (k : Int)] w fun e w' => e = .returned (.int .i64 (lev L N k : Int)) ∧ w' = w := by
  have hb := h.blk
  have c0 : w.cell? ⟨sb, 0, none⟩ = some (.int .i64 (L : Int)) := by simp [World.cell?, hb]
  have c1 : w.cell? ⟨sb, 1, none⟩ = some v := by simp [World.cell?, hb]
  have hl := lt_of_heap hb
  by_cases h2 : k < 2
  · have q : decide ((k : Int) < 2) = true := by simp; omega
    rw [lev_lt h2]
    clear hb h hk h2
    go_enter Tryz.func67, Tryz.ntmps67
    go_wp2_with fail
    go_ret
    exact ⟨rfl, rfl⟩
  · obtain ⟨i, rfl⟩ : ∃ i, k = i + 2 := ⟨k - 2, by omega⟩
    obtain ⟨n, hn⟩ : ∃ n, N[i]? = some n := ⟨N[i]'(by omega), List.getElem?_eq_getElem (by omega)⟩
    have hi : i < N.length := by omega
    obtain ⟨g, cap, rfl, d0, d1, d2, hmx⟩ := h.node hn
    rw [lev_node hn]
    have q : decide (((i + 2 : Nat) : Int) < 2) = false := by simp; omega
    have hmx' : N.length ≤ 9223372036854775807 := by unfold maxLen at hmx; omega
    have i1 : (((i + 2 : Nat) : Int) - 2) = (i : Int) := by omega
    have i2 : (0 : Int) ≤ (i : Int) := by omega
    have i3 : (i : Int) < (N.length : Int) := by omega
    clear hb h hk h2 hn hmx
    go_enter Tryz.func67, Tryz.ntmps67
    go_wp2_with fail
    go_ret
    exact ⟨rfl, rfl⟩

set_option maxRecDepth 100000 in
theorem sides_any (w : World) (sb mf mp L : Nat) (N : List Dn) (v : Value) (fm pm : K3 → Option Nat) (k l : Nat) (h : DgM w sb mf mp L N v fm pm) (hk : k < N.length + 2) (hl : l ≤ lev L N k) (hL : l < L) :
    Calls Tryz.prog 94 #[.pointer (some ⟨sb, 0, none⟩), .int .i64 (k : Int), .int .i64 (l : Int)] w fun e w' => e = .returned (.tuple #[.int .i64 ((sideN L N k l).1 : Int), .int .i64 ((sideN L N k l).2 : Int)]) ∧ Keeps (fun _ => False) w w' := by
  have hlev := level_any w sb mf mp L N v fm pm k h hk
  have hb := h.blk
  have c1 : w.cell? ⟨sb, 1, none⟩ = some v := by simp [World.cell?, hb]
  have hlt := lt_of_heap hb
  have HLV := Lib.hid hlev
  clear hlev
  by_cases hg : l < lev L N k
  · have q : decide (l < lev L N k) = true := by simp; omega
    have q' : decide ((l : Int) < (lev L N k : Int)) = true := by simp; omega
    have e : sideN L N k l = (k, k) := by unfold sideN; rw [if_pos hg]
    rw [e]
    clear hb h hk hg hl hL e
    go_enter Tryz.func94, Tryz.ntmps94
    go_wp2_with fail
    refine HLV.out.mono ?_; rintro en w2 ⟨rfl, rfl⟩
    go_wp2_with fail
    refine bodyPost_ret (results_tmp2 rfl _ _ _) rfl ?_
    exact ⟨rfl, Keeps.refl _ _⟩
  · have q : decide (l < lev L N k) = false := by simp; omega
    have q' : decide ((l : Int) < (lev L N k : Int)) = false := by simp; omega
    have h2 : ¬ k < 2 := fun h2 => by rw [lev_lt h2] at hg; omega
    obtain ⟨i, rfl⟩ : ∃ i, k = i + 2 := ⟨k - 2, by omega⟩
    obtain ⟨n, hn⟩ : ∃ n, N[i]? = some n := ⟨N[i]'(by omega), List.getElem?_eq_getElem (by omega)⟩
    have hi : i < N.length := by omega
    obtain ⟨g, cap, rfl, d0, d1, d2, hmx⟩ := h.node hn
    have e : sideN L N (i + 2) l = (n.lo, n.hi) := by unfold sideN; rw [if_neg hg, Nat.add_sub_cancel, hn]; rfl
    rw [e]
    have hmx' : N.length ≤ 9223372036854775807 := by unfold maxLen at hmx; omega
    have i1 : (((i + 2 : Nat) : Int) - 2) = (i : Int) := by omega
    have i2 : (0 : Int) ≤ (i : Int) := by omega
    have i3 : (i : Int) < (N.length : Int) := by omega
    have KA := (Keeps.refl (fun _ => False) w).alloc (.cells #[.int .i64 (n.lv : Int), .int .i64 (n.lo : Int), .int .i64 (n.hi : Int)] 110)
    have HKA := Lib.hid KA
    have HX := Lib.hid (heap_alloc_new w (.cells #[.int .i64 (n.lv : Int), .int .i64 (n.lo : Int), .int .i64 (n.hi : Int)] 110))
    clear hb h hk hg hl hL e hn hmx KA h2
    go_enter Tryz.func94, Tryz.ntmps94
    go_wp2_with fail
    refine HLV.out.mono ?_; rintro en w2 ⟨rfl, rfl⟩
    go_upto_region 4 with fail
    generalize (w2.alloc (.cells #[.int .i64 (n.lv : Int), .int .i64 (n.lo : Int), .int .i64 (n.hi : Int)] 110)) = w3 at HKA HX ⊢
    have x1 : w3.cell? ⟨w2.heap.size, 1, none⟩ = some (.int .i64 (n.lo : Int)) := by simp [World.cell?, HX.out]
    have x2 : w3.cell? ⟨w2.heap.size, 2, none⟩ = some (.int .i64 (n.hi : Int)) := by simp [World.cell?, HX.out]
    have xl := lt_of_heap HX.out
    go_quiet (fail)
    go_wp2_with fail
    refine bodyPost_ret (results_tmp2 rfl _ _ _) rfl ?_
    exact ⟨rfl, HKA.out.drewN _⟩

end Go.Proofs.YtjcgkmodmjckjaaGreat

namespace Go.Proofs.YtjcgkmodmjckjaaGreat
open Go.RowKit

theorem info_node : (Tryz.prog.info? 110).map (fun i => (i.zero, i.size, i.bytes)) = some (some (.agg #[.int .i64 0, .int .i64 0, .int .i64 0]), 3, 24) := by kernel_rfl

/-- The store behind a new node. -/
theorem DgM.snoc {w w5 w6 : World} {sb mf mp L : Nat} {N : List Dn} {v v' : Value} {fm pm : K3 → Option Nat} {l lo hi : Nat} {S : Nat → Prop} (h : DgM w sb mf mp L N v fm pm)
    (hok : DgOk L (N ++ [⟨l, lo, hi⟩])) (hun : ∀ i : Nat, N[i]? ≠ some (⟨l, lo, hi⟩ : Dn))
    (hb : w5.heap[sb]? = some (.cells #[.int .i64 (L : Int), v', .map (some mf), .map (some mp)] 106 (0, 0)))
    (hr : w5.ownsRow 0 110 3 v' (N.length + 1) (dnCells N ++ [.int .i64 (l : Int), .int .i64 (lo : Int), .int .i64 (hi : Int)]))
    (hk : Keeps S w w5) (hs2 : ¬ S mp) (hs3 : ¬ S mf) (hm : TMap w6 mf (put3 fm (l, lo, hi) (N.length + 2))) (hk6 : Keeps (fun j => j = mf) w5 w6) :
    DgM w6 sb mf mp L (N ++ [⟨l, lo, hi⟩]) v' (put3 fm (l, lo, hi) (N.length + 2)) pm := by
  have hne := h.ne
  have hrow : w5.ownsRow 0 110 3 v' (N ++ [(⟨l, lo, hi⟩ : Dn)]).length (dnCells (N ++ [⟨l, lo, hi⟩])) := by
    rw [dnCells_app, List.length_append]; exact hr
  refine ⟨hk6.heap hb (fun e => hne.1 e.symm), heap_row hrow hk6 (fun k hv e => ?_), hm, (h.p.keeps hk hs2).keeps hk6 (fun e => h.fp e.symm), h.fp, hok, ?_, fun op a b k hp => (h.pok op a b k hp).le h.ok ⟨_, rfl⟩⟩
  · rcases hrow.2 with ⟨rfl, _⟩ | ⟨g, cap, cur, rfl, _, hg, _⟩
    · cases hv
    · cases hv
      obtain ⟨es, c, hmb⟩ := hm.map_block
      subst e
      obtain ⟨es1, c1, h3⟩ := h.f.map_block
      rw [hk.heap h3 hs3] at hg; cases hg
  · intro l' lo' hi' k
    unfold put3
    by_cases he : (l', lo', hi') = (l, lo, hi)
    · simp only [Prod.mk.injEq] at he
      obtain ⟨rfl, rfl, rfl⟩ := he
      rw [if_pos rfl]
      constructor
      · intro h1; cases h1; exact ⟨by omega, by simp⟩
      · rintro ⟨h1, h2⟩
        have h3 := hok.un (k - 2) N.length _ h2 (by simp)
        congr 1; omega
    · rw [if_neg he, h.fok]
      constructor
      · rintro ⟨h1, h2⟩
        exact ⟨h1, DgLe.get ⟨_, rfl⟩ h2⟩
      · rintro ⟨h1, h2⟩
        refine ⟨h1, ?_⟩
        by_cases hlt : k - 2 < N.length
        · rw [List.getElem?_append_left hlt] at h2; exact h2
        · have h3 := (List.getElem?_eq_some_iff.1 h2).1
          rw [List.length_append, List.length_singleton] at h3
          have h4 : k - 2 = N.length := by omega
          rw [h4, List.getElem?_append_right (Nat.le_refl _)] at h2
          simp at h2
          exact absurd (by rw [h2.1, h2.2.1, h2.2.2]) he

theorem keepsCell {w : World} (B j : Nat) (c : Value) : Keeps (fun b => b = B) w (w.setCell ⟨B, j, none⟩ c) := (Keeps.refl (fun b => b = B) w).setCell (p := ⟨B, j, none⟩) (.inl rfl) _

set_option maxRecDepth 100000 in
set_option maxHeartbeats 2000000 in
theorem node_any (w : World) (sb L : Nat) (N : List Dn) (G : Nat → Prop) (l lo hi : Nat) (h : Dg w sb L N G) (hL : L ≤ 24) (hl : l < L) (h1 : lo < N.length + 2) (h2 : hi < N.length + 2) (g1 : l < lev L N lo) (g2 : l < lev L N hi) (hbig : low N ≤ 5800000000000) :
    Calls Tryz.prog 64 #[.pointer (some ⟨sb, 0, none⟩), .int .i64 (l : Int), .int .i64 (lo : Int), .int .i64 (hi : Int)] w (DgR w sb L N G (nb l) l (fun m => dv N (if m.testBit l then hi else lo) m)) := by
  by_cases heq : lo = hi
  · subst heq
    have HX := Lib.hid (node_eq h.ok h1 g1)
    have HD := Lib.hid h
    have q : ((lo : Int) == (lo : Int)) = true := by simp
    clear h hL hl h1 h2 g1 g2 hbig
    go_enter Tryz.func64, Tryz.ntmps64
    go_wp2_with fail
    go_ret
    exact ⟨lo, N, G, rfl, HX.out, HD.out, Keeps.refl _ _, fun q h => .inl h⟩
  have HBD := Lib.hid h.bnd
  obtain ⟨mf, mp, v, fm, pm, hm, ⟨q1, q2, q3, q4⟩, q5⟩ := h
  have hlen := dg_len hm.ok hL
  have q : ((lo : Int) == (hi : Int)) = false := by simp; omega
  have HQ := Lib.hid (show G sb ∧ G mf ∧ G mp ∧ ∀ k, v.ownBlock = some k → G k from ⟨q1, q2, q3, q4⟩)
  have KA := (Keeps.refl (fun _ => False) w).alloc (.cells #[.int .i64 (l : Int), .int .i64 (lo : Int), .int .i64 (hi : Int)] 110)
  have HKA := Lib.hid KA
  have HM := Lib.hid (hm.keeps KA (fun h => h) (fun h => h) (fun h => h) (fun _ _ h => h))
  have HX := Lib.hid (heap_alloc_new w (.cells #[.int .i64 (l : Int), .int .i64 (lo : Int), .int .i64 (hi : Int)] 110))
  have HSB := Lib.hid (show sb ≠ w.heap.size ∧ ∀ k, v.ownBlock = some k → k ≠ w.heap.size from ⟨by have := hm.ne.2.2.1; omega, fun k hk => by have := (hm.row_ne k hk).2.2.2; omega⟩)
  have HN := Lib.hid (show ∀ (hun : ∀ i : Nat, N[i]? ≠ some (⟨l, lo, hi⟩ : Dn)), DgPost L N (N ++ [⟨l, lo, hi⟩]) (N.length + 2) (nb l) l (fun m => dv N (if m.testBit l then hi else lo) m) from fun hun => node_new hm.ok hl h1 h2 heq g1 g2 hun)
  have HO := Lib.hid (show ∀ i, N[i]? = some (⟨l, lo, hi⟩ : Dn) → DgPost L N N (i + 2) (nb l) l (fun m => dv N (if m.testBit l then hi else lo) m) from fun i hi => node_old hm.ok hi)
  have hnn : N.length ≤ 5804294967296 := by omega
  clear KA hm q1 q2 q3 q4 q5 hlen hL hl h1 h2 g1 g2 hbig heq
  go_enter Tryz.func64, Tryz.ntmps64
  go_upto_region 4 with fail
  generalize (w.alloc (.cells #[.int .i64 (l : Int), .int .i64 (lo : Int), .int .i64 (hi : Int)] 110)) = w1 at HKA HM HX ⊢
  generalize w.heap.size = bx at HX HSB ⊢
  have hb := HM.out.blk
  have c1 : w1.cell? ⟨sb, 1, none⟩ = some v := by simp [World.cell?, hb]
  have c2 : w1.cell? ⟨sb, 2, none⟩ = some (.map (some mf)) := by simp [World.cell?, hb]
  have hlt := lt_of_heap hb
  have x0 : w1.cell? ⟨bx, 0, none⟩ = some (.int .i64 (l : Int)) := by simp [World.cell?, HX.out]
  have x1 : w1.cell? ⟨bx, 1, none⟩ = some (.int .i64 (lo : Int)) := by simp [World.cell?, HX.out]
  have x2 : w1.cell? ⟨bx, 2, none⟩ = some (.int .i64 (hi : Int)) := by simp [World.cell?, HX.out]
  have xl := lt_of_heap HX.out
  clear hb
  have hz : ∀ w : World, (zeroValue 3).run Tryz.prog w = .ok (.int .i64 0) w := fun w => by kernel_rfl
  cases hf : fm (l, lo, hi) with
  | some k =>
    have hlk : ∀ nd, (Instr.lookup 103 (.map (some mf)) (.agg #[.int .i64 (l : Int), .int .i64 (lo : Int), .int .i64 (hi : Int)]) true).run Tryz.prog (w1.drewN nd) = .ok (.tuple #[.int .i64 (k : Int), .bool true]) (w1.drewN nd) := fun nd =>
      (HM.out.f.keeps ((Keeps.refl (fun _ => False) w1).drewN nd) (fun h => h)).look_some Tryz.underlying103 key3_node hf
    have HF := Lib.hid ((HM.out.fok l lo hi k).1 hf)
    clear hf
    go_quiet (fail)
    go_wp2_with fail
    go_ret
    refine ⟨k, N, G, rfl, ?_, ⟨mf, mp, v, fm, pm, HM.out.keeps ((Keeps.refl (fun _ => False) w1).drewN _) (fun h => h) (fun h => h) (fun h => h) (fun _ _ h => h), HQ.out, fun q h => Nat.lt_of_lt_of_le (HBD.out q h) HKA.out.size⟩, (HKA.out.drewN _).mono (fun _ _ h => h.elim), fun q h => .inl h⟩
    obtain ⟨h2, h3⟩ := HF.out
    have h4 := HO.out (k - 2) h3
    rw [show k - 2 + 2 = k from by omega] at h4
    exact h4
  | none =>
    have hlk : ∀ nd, (Instr.lookup 103 (.map (some mf)) (.agg #[.int .i64 (l : Int), .int .i64 (lo : Int), .int .i64 (hi : Int)]) true).run Tryz.prog (w1.drewN nd) = .ok (.tuple #[.int .i64 0, .bool false]) (w1.drewN nd) := fun nd =>
      (HM.out.f.keeps ((Keeps.refl (fun _ => False) w1).drewN nd) (fun h => h)).look_none Tryz.underlying103 key3_node (hz _) hf
    have HUN := Lib.hid (show ∀ i : Nat, N[i]? ≠ some (⟨l, lo, hi⟩ : Dn) from fun i hi2 => by
      have := (HM.out.fok l lo hi (i + 2)).2 ⟨by omega, by rw [Nat.add_sub_cancel]; exact hi2⟩
      rw [hf] at this; cases this)
    clear hf
    go_quiet (fail)
    have KD := (Keeps.refl (fun _ => False) w1).drewN nq
    have HM2 := Lib.hid (HM.out.keeps KD (fun h => h) (fun h => h) (fun h => h) (fun _ _ h => h)); have HX2 := Lib.hid (KD.heap HX.out (fun h => h)); have HK2 := Lib.hid (HKA.out.trans KD)
    clear KD HM HX HKA hlk c1 c2 hlt x0 x1 x2 xl HO
    go_upto_region 6 with fail
    generalize w1.drewN nq = w2 at HM2 HX2 HK2 ⊢
    obtain ⟨ao, cp, rfl⟩ : ∃ ao cp, v = .slice ao N.length cp := by
      rcases HM2.out.row.2 with ⟨rfl, h0⟩ | ⟨g, cap, cur, rfl, _⟩
      · rw [h0]; exact ⟨_, _, rfl⟩
      · exact ⟨_, _, rfl⟩
    have HROW := Lib.hid HM2.out.row; have HRN := Lib.hid HM2.out.row_ne
    have hb := HM2.out.blk
    have c1 : w2.cell? ⟨sb, 1, none⟩ = some (.slice ao N.length cp) := by simp [World.cell?, hb]
    have hlt := lt_of_heap hb
    have x0 : w2.cell? ⟨bx, 0, none⟩ = some (.int .i64 (l : Int)) := by simp [World.cell?, HX2.out]
    have x1 : w2.cell? ⟨bx, 1, none⟩ = some (.int .i64 (lo : Int)) := by simp [World.cell?, HX2.out]
    have x2 : w2.cell? ⟨bx, 2, none⟩ = some (.int .i64 (hi : Int)) := by simp [World.cell?, HX2.out]
    have xl := lt_of_heap HX2.out
    clear hb
    obtain ⟨i0, hi0, hz0, hz1, hz2⟩ := info_parts info_node
    go_region_law ((refine step_append_lies _ (by rfl) _ _ _ (by rfl) 0 110 i0 _ 3 24 Tryz.underlying102 hi0 hz0 hz1 hz2 rfl (by omega) _ N.length (dnCells N) (by rfl) (((World.ownsRow.alloc (o := .cells #[.int .i64 (l : Int), .int .i64 (lo : Int), .int .i64 (hi : Int)] 110) HROW.out)).drew) ⟨w2.heap.size, 0, none⟩ 1 1 [.int .i64 (l : Int), .int .i64 (lo : Int), .int .i64 (hi : Int)] (by rfl) (by rfl) (World.news_of_block (cs := #[.int .i64 (l : Int), .int .i64 (lo : Int), .int .i64 (hi : Int)]) (t := 110) (fr := (0, 0)) (heap_alloc_new w2 _)) (by simp [Value.oneCell']) (by omega) (by unfold maxLen; omega) (by omega) (by omega) (w2.heap.size + 1) (by simp) ?_; intro g cap2 w4 hown hgrow hat hlt4; have hk4 : Keeps (fun k => (Value.slice ao N.length cp).ownBlock = some k) w2 w4 := ((((Keeps.refl (fun _ => False) w2).alloc (.cells #[.int .i64 (l : Int), .int .i64 (lo : Int), .int .i64 (hi : Int)] 110)).drew).mono (fun _ _ h => h.elim)).trans (steady_keeps hgrow); have hb4 := hk4.heap HM2.out.blk (fun h => (HRN.out _ h).1 rfl); have c4 : w4.cell? ⟨sb, 1, none⟩ = some (.slice ao N.length cp) := (cell_of_blk hb4).trans rfl; have f4 : w4.frozen? ⟨sb, 1, none⟩ = false := frozen_of_blk hb4; have l4 := lt_of_heap hb4; have HK4 := Lib.hid hk4; have HB4 := Lib.hid hb4; have HOWN := Lib.hid hown; have HAT := Lib.hid hat; clear hown hgrow hat hk4 hb4))
    all_goals
      have HB5 := Lib.hid (show (w4.setCell ⟨sb, 1, none⟩ (.slice (some ⟨g, 0, none⟩) (N.length + 1) cap2)).heap[sb]? = some (.cells #[.int .i64 (L : Int), .slice (some ⟨g, 0, none⟩) (N.length + 1) cap2, .map (some mf), .map (some mp)] 106 (0, 0)) from by rw [blk_set_same HB4.out]; rfl)
      have hgs : g ≠ sb := by
        rcases HAT.out with h | h
        · exact (HRN.out g h).1
        · omega
      have hks := keepsCell (w := w4) sb 1 (.slice (some ⟨g, 0, none⟩) (N.length + 1) cap2)
      have HR5 := Lib.hid (heap_row HOWN.out hks (fun k hk e => by cases hk; exact hgs e))
      have HK5 := Lib.hid (show Keeps (fun k => k = sb ∨ (Value.slice ao N.length cp).ownBlock = some k) w2 (w4.setCell ⟨sb, 1, none⟩ (.slice (some ⟨g, 0, none⟩) (N.length + 1) cap2)) from (HK4.out.mono (fun _ _ h => .inr h)).trans' hks (fun _ h => .inl (.inl h)))
      have HAG := Lib.hid (show (Value.slice ao N.length cp).ownBlock = some g ∨ w2.heap.size ≤ g from HAT.out.imp (fun h => h) (fun h => by omega))
      clear hks hgs HK4 HB4 HOWN HAT c4 f4 l4
      go_upto_region 7 with fail
      generalize (w4.setCell ⟨sb, 1, none⟩ (.slice (some ⟨g, 0, none⟩) (N.length + 1) cap2)) = w5 at HB5 HR5 HK5 ⊢
      clear c1 hlt x0 x1 x2 xl
      have hb := HB5.out
      have c1 : w5.cell? ⟨sb, 1, none⟩ = some (.slice (some ⟨g, 0, none⟩) (N.length + 1) cap2) := by simp [World.cell?, hb]
      have c2 : w5.cell? ⟨sb, 2, none⟩ = some (.map (some mf)) := by simp [World.cell?, hb]
      have hlt := lt_of_heap hb
      clear hb
      have HX5 := Lib.hid (HK5.out.heap HX2.out (fun h => h.elim (fun e => HSB.out.1 e.symm) (fun h => HSB.out.2 _ h rfl)))
      have x0 : w5.cell? ⟨bx, 0, none⟩ = some (.int .i64 (l : Int)) := by simp [World.cell?, HX5.out]
      have x1 : w5.cell? ⟨bx, 1, none⟩ = some (.int .i64 (lo : Int)) := by simp [World.cell?, HX5.out]
      have x2 : w5.cell? ⟨bx, 2, none⟩ = some (.int .i64 (hi : Int)) := by simp [World.cell?, HX5.out]
      have xl := lt_of_heap HX5.out
      have HNM := Lib.hid (show ¬ (fun k => k = sb ∨ (Value.slice ao N.length cp).ownBlock = some k) mf ∧ ¬ (fun k => k = sb ∨ (Value.slice ao N.length cp).ownBlock = some k) mp from ⟨fun h => h.elim HM2.out.ne.1 (fun h => (HRN.out _ h).2.1 rfl), fun h => h.elim HM2.out.ne.2.1 (fun h => (HRN.out _ h).2.2.1 rfl)⟩)
      have HF5 := Lib.hid (HM2.out.f.keeps HK5.out HNM.out.1)
      go_upto_region 8 with fail
      obtain ⟨w6, hr6, hm6, hk6⟩ := (HF5.out.keeps ((Keeps.refl (fun _ => False) w5).drew) (fun h => h)).put (P := Tryz.prog) Tryz.underlying103 key3_node (l, lo, hi) (N.length + 2)
      have e2 : ((N.length + 2 : Nat) : Int) = (N.length : Int) + 1 + 1 := by omega
      rw [e2] at hr6
      replace hr6 : (Instr.mapUpdate 103 (.map (some mf)) (.agg #[.int .i64 (l : Int), .int .i64 (lo : Int), .int .i64 (hi : Int)]) (.int .i64 ((N.length : Int) + 1 + 1))).run Tryz.prog w5.drew = .ok () w6 := hr6
      have HM6 := Lib.hid hm6; have HK6 := Lib.hid hk6
      clear hm6 hk6
      go_region
      all_goals
        go_wp2_with fail
        go_ret
        have hk56 := ((Keeps.refl (fun j => j = mf) w5).drew).trans HK6.out
        have hpost := HN.out HUN.out
        have hm := HM2.out.snoc hpost.ok HUN.out HB5.out HR5.out HK5.out HNM.out.2 HNM.out.1 HM6.out hk56
        refine ⟨N.length + 2, N ++ [⟨l, lo, hi⟩], fun k => (G k ∨ k = g) ∧ k < w6.heap.size, (by congr 2), hpost, Dg.of (G := fun k => G k ∨ k = g) hm ⟨.inl HQ.out.1, .inl HQ.out.2.1, .inl HQ.out.2.2.1, fun k hk => .inr (by cases hk; rfl)⟩, ?_, ?_⟩
        · refine ((HK2.out.mono (fun _ _ h => h.elim)).trans' HK5.out (fun k h => .inl (h.elim (fun e => e ▸ HQ.out.1) (fun h => HQ.out.2.2.2 k h)))).trans' hk56 (fun k h => .inl (by rw [h]; exact HQ.out.2.1))
        · rintro k ⟨h | rfl, _⟩
          · exact .inl h
          · rcases HAG.out with h | h
            · exact .inl (HQ.out.2.2.2 k h)
            · exact .inr (Nat.le_trans HK2.out.size h)

end Go.Proofs.YtjcgkmodmjckjaaGreat
