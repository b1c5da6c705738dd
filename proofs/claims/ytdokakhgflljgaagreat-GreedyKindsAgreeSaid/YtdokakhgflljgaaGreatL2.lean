/- Tasks in memory; strips.operator, strips.Validate. The rows' frame: arguments of type api.Task and []int, read. Words of facts: space.Word, space.Facts, the reference's Word. strips.Validate. The reference's Word, Subset, StateOk, Applies. space.Of: the words of a task. The reference's ReachedFrom: the breadth-first list of states. (*space.Words).Start, Goal, Steps, and the iterator that Steps returns. The tree of a breadth-first search and the least of the shortest plans. Nothing here speaks of one program. The plain law of the reference's arcs, steps to go and shortest ways. Nothing here speaks of one program. The rows' frame: arguments of type [][]int. The reference's Arcs. The reference's ToGo. No condition beyond what each theorem says. -/
import Derived.Test.YtdokakhgflljgaaGreatL1
import Derived.Test.YtdokakhgflljgaaGreatRows
import Derived.ProofKit
import Derived.Deep.SlicePairs
import Derived.Lib.SmallJoins
import Derived.RangeFuncNested
import Derived.RangeFuncBound
import Derived.RangeFuncCalls
import Derived.RangeFuncLeaves
import Derived.Shelf.Abstract
import Derived.Shelf.RegionOpen
import Derived.OwnWalkIn
import Derived.TacticsInMore
import Derived.LoopNIn
import Derived.LoopIn
import Derived.IntWalk

namespace Go.Proofs.YtdokakhgflljgaaGreat
open Go.RowKit

/-- A slice of operators. -/
def OpsAt (w : World) (v : Value) (ops : List Opr) : Prop :=
  ∃ ao cap, v = .slice ao ops.length cap ∧ ops.length ≤ maxLen ∧ (0 < ops.length → ∃ b off, ao = some ⟨b, off, none⟩ ∧ ∀ i o, ops[i]? = some o →
    ∃ va vb vc, w.cell? ⟨b, off + i * 4, none⟩ = some va ∧ w.cell? ⟨b, off + i * 4 + 1, none⟩ = some vb ∧ w.cell? ⟨b, off + i * 4 + 2, none⟩ = some vc ∧ w.cell? ⟨b, off + i * 4 + 3, none⟩ = some (.int .i64 o.cost) ∧
      Ints w va o.pre ∧ Ints w vb o.add ∧ Ints w vc o.del)

theorem OpsAt.keeps0 {w w' : World} {v : Value} {ops : List Opr} (h : OpsAt w v ops) (hk : Keeps (fun _ => False) w w') : OpsAt w' v ops := by
  obtain ⟨ao, cap, hv, hm, hc⟩ := h
  refine ⟨ao, cap, hv, hm, fun h0 => ?_⟩
  obtain ⟨b, off, ha, hx⟩ := hc h0
  refine ⟨b, off, ha, fun i o ho => ?_⟩
  obtain ⟨va, vb, vc, h1, h2, h3, h4, h5, h6, h7⟩ := hx i o ho
  exact ⟨va, vb, vc, hk.cell h1 (fun h => h), hk.cell h2 (fun h => h), hk.cell h3 (fun h => h), hk.cell h4 (fun h => h), h5.keeps0 hk, h6.keeps0 hk, h7.keeps0 hk⟩

theorem OpsAt.form {w : World} {v : Value} {ops : List Opr} (h : OpsAt w v ops) : ∃ ao cap, v = .slice ao ops.length cap ∧ ops.length ≤ 9223372036854775807 := by
  obtain ⟨ao, cap, hv, hm, _⟩ := h
  unfold maxLen at hm
  exact ⟨ao, cap, hv, by omega⟩

theorem OpsAt.cell {w : World} {v : Value} {ops : List Opr} (h : OpsAt w v ops) {ao : Option Addr} {n cap : Nat} (hv : v = .slice ao n cap) (hn : 0 < ops.length) :
    ∃ b off, ao = some ⟨b, off, none⟩ ∧ ∀ i o, ops[i]? = some o →
    ∃ va vb vc, w.cell? ⟨b, off + i * 4, none⟩ = some va ∧ w.cell? ⟨b, off + i * 4 + 1, none⟩ = some vb ∧ w.cell? ⟨b, off + i * 4 + 2, none⟩ = some vc ∧ w.cell? ⟨b, off + i * 4 + 3, none⟩ = some (.int .i64 o.cost) ∧
      Ints w va o.pre ∧ Ints w vb o.add ∧ Ints w vc o.del := by
  obtain ⟨ao', cap', hv', hm, hc⟩ := h
  rw [hv'] at hv
  simp only [Value.slice.injEq] at hv
  obtain ⟨rfl, _, _⟩ := hv
  exact hc hn

/-- The four values of a task. -/
structure TaskAt (w : World) (vi vg vo : Value) (t : Tsk) : Prop where
  init : Ints w vi t.init
  goal : Ints w vg t.goal
  ops : OpsAt w vo t.ops

theorem TaskAt.keeps0 {w w' : World} {vi vg vo : Value} {t : Tsk} (h : TaskAt w vi vg vo t) (hk : Keeps (fun _ => False) w w') : TaskAt w' vi vg vo t := ⟨h.init.keeps0 hk, h.goal.keeps0 hk, h.ops.keeps0 hk⟩

/-- A block of four cells. -/
structure Four (w : World) (b : Nat) (x0 x1 x2 x3 : Value) : Prop where
  c0 : w.cell? ⟨b, 0, none⟩ = some x0
  c1 : w.cell? ⟨b, 1, none⟩ = some x1
  c2 : w.cell? ⟨b, 2, none⟩ = some x2
  c3 : w.cell? ⟨b, 3, none⟩ = some x3
theorem Four.keeps0 {w w' : World} {b : Nat} {x0 x1 x2 x3 : Value} (h : Four w b x0 x1 x2 x3) (hk : Keeps (fun _ => False) w w') : Four w' b x0 x1 x2 x3 :=
  ⟨hk.cell h.c0 (fun h => h), hk.cell h.c1 (fun h => h), hk.cell h.c2 (fun h => h), hk.cell h.c3 (fun h => h)⟩
theorem Four.new (w : World) (x0 x1 x2 x3 : Value) (T : TypeId) : Four (w.alloc (.cells #[x0, x1, x2, x3] T)) w.heap.size x0 x1 x2 x3 := by
  have h := heap_alloc_new w (.cells #[x0, x1, x2, x3] T)
  exact ⟨by rw [cell_of_blk h]; rfl, by rw [cell_of_blk h]; rfl, by rw [cell_of_blk h]; rfl, by rw [cell_of_blk h]; rfl⟩
theorem Four.lt {w : World} {b : Nat} {x0 x1 x2 x3 : Value} (h : Four w b x0 x1 x2 x3) : b < w.heap.size := by
  have := World.block_lt_of_cell? w _ h.c0; simpa using this

theorem setFrom_length {n : Int} {l : List Int} : ∀ {lo : Int}, setFrom n lo l = true → l = [] ∨ lo + l.length ≤ n := by
  induction l with
  | nil => intro lo _; exact .inl rfl
  | cons x r ih =>
    intro lo h
    simp only [setFrom, Bool.and_eq_true, decide_eq_true_eq] at h
    right
    rcases ih h.2 with rfl | h'
    · simp; omega
    · simp only [List.length_cons]; omega
theorem isSet_length {n : Int} {l : List Int} (h : isSetB l n = true) (hn : n ≤ 1000) : l.length ≤ 1000 := by
  rcases setFrom_length h with rfl | h
  · simp
  · omega

theorem sIsSet_val {w : World} {v : Value} {l : List Int} {n : Int} {b : Bool} (h : Ints w v l) (hb : isSetB l n = b) :
    Calls Tryz.prog 82 #[v, .int .i64 n] w fun e w' => e = .returned (.bool b) ∧ w = w' := by rw [← hb]; exact sIsSet_any w v l n h

theorem operator_any (w : World) (va vb vc : Value) (o : Opr) (n : Int) (ha : Ints w va o.pre) (hb : Ints w vb o.add) (hc : Ints w vc o.del) (hn : n ≤ 1000) :
    Calls Tryz.prog 83 #[.agg #[va, vb, vc, .int .i64 o.cost], .int .i64 n] w fun e w' => e = .returned (.int .i64 (opCode o n)) ∧ Keeps (fun _ => False) w w' := by
  have HA := Lib.hid (ha.keeps0 ((Keeps.refl _ w).alloc (.cells #[va, vb, vc, .int .i64 o.cost] 80)))
  have HB := Lib.hid (hb.keeps0 ((Keeps.refl _ w).alloc (.cells #[va, vb, vc, .int .i64 o.cost] 80)))
  have HC := Lib.hid (hc.keeps0 ((Keeps.refl _ w).alloc (.cells #[va, vb, vc, .int .i64 o.cost] 80)))
  have K0 := Lib.hid ((Keeps.refl (fun _ => False) w).alloc (.cells #[va, vb, vc, .int .i64 o.cost] 80))
  obtain ⟨ao1, ca1, h1, _⟩ := ha.form
  obtain ⟨ao2, ca2, h2, _⟩ := hb.form
  obtain ⟨ao3, ca3, h3, _⟩ := hc.form
  subst h1 h2 h3
  clear ha hb hc
  cases b1 : isSetB o.pre n with
  | false =>
    have hr : Hid (opCode o n = 5) := by unfold Hid opCode; simp [b1]
    have B1 := Lib.hid b1; clear b1
    go_enter Tryz.func83, Tryz.ntmps83
    go_wp2_with fail
    refine (sIsSet_val HA.out B1.out).mono ?_; rintro e w1 ⟨rfl, rfl⟩
    go_wp2_with fail
    go_ret
    exact ⟨congrArg (fun u : Int => Ending.returned (Value.int .i64 u)) hr.out.symm, K0.out⟩
  | true =>
    cases b2 : isSetB o.add n with
    | false =>
      have hr : Hid (opCode o n = 5) := by unfold Hid opCode; simp [b2]
      have B1 := Lib.hid b1; have B2 := Lib.hid b2; clear b1 b2
      go_enter Tryz.func83, Tryz.ntmps83
      go_wp2_with fail
      refine (sIsSet_val HA.out B1.out).mono ?_; rintro e w1 ⟨rfl, rfl⟩
      go_wp2_with fail
      refine (sIsSet_val HB.out B2.out).mono ?_; rintro e w1 ⟨rfl, rfl⟩
      go_wp2_with fail
      go_ret
      exact ⟨congrArg (fun u : Int => Ending.returned (Value.int .i64 u)) hr.out.symm, K0.out⟩
    | true =>
      cases b3 : isSetB o.del n with
      | false =>
        have hr : Hid (opCode o n = 5) := by unfold Hid opCode; simp [b3]
        have B1 := Lib.hid b1; have B2 := Lib.hid b2; have B3 := Lib.hid b3; clear b1 b2 b3
        go_enter Tryz.func83, Tryz.ntmps83
        go_wp2_with fail
        refine (sIsSet_val HA.out B1.out).mono ?_; rintro e w1 ⟨rfl, rfl⟩
        go_wp2_with fail
        refine (sIsSet_val HB.out B2.out).mono ?_; rintro e w1 ⟨rfl, rfl⟩
        go_wp2_with fail
        refine (sIsSet_val HC.out B3.out).mono ?_; rintro e w1 ⟨rfl, rfl⟩
        go_wp2_with fail
        go_ret
        exact ⟨congrArg (fun u : Int => Ending.returned (Value.int .i64 u)) hr.out.symm, K0.out⟩
      | true =>
        have hl := isSet_length b3 hn
        have HM := Lib.hid (meets_any _ _ _ _ _ HB.out HC.out (isSet_iff.1 b3).2 (by omega))
        cases b4 : disjB o.add o.del with
        | false =>
          have hr : Hid (opCode o n = 5) := by unfold Hid opCode; simp [b4]
          have B1 := Lib.hid b1; have B2 := Lib.hid b2; have B3 := Lib.hid b3; have B4 := Lib.hid b4; clear b1 b2 b3 b4
          go_enter Tryz.func83, Tryz.ntmps83
          go_wp2_with fail
          refine (sIsSet_val HA.out B1.out).mono ?_; rintro e w1 ⟨rfl, rfl⟩
          go_wp2_with fail
          refine (sIsSet_val HB.out B2.out).mono ?_; rintro e w1 ⟨rfl, rfl⟩
          go_wp2_with fail
          refine (sIsSet_val HC.out B3.out).mono ?_; rintro e w1 ⟨rfl, rfl⟩
          go_wp2_with fail
          refine HM.out.mono ?_; rintro e w1 ⟨rfl, hk⟩
          rw [B4.out]
          have KF := Lib.hid (K0.out.trans hk)
          clear hk
          go_wp2_with fail
          go_ret
          exact ⟨congrArg (fun u : Int => Ending.returned (Value.int .i64 u)) hr.out.symm, KF.out⟩
        | true =>
          have HO : Hid (opCode o n = if 0 ≤ o.cost ∧ o.cost ≤ 100 then 0 else 3) := by unfold Hid opCode; simp [b1, b2, b3, b4]
          have B1 := Lib.hid b1; have B2 := Lib.hid b2; have B3 := Lib.hid b3; have B4 := Lib.hid b4; clear b1 b2 b3 b4
          have HF := Lib.hid (Four.new w (.slice ao1 o.pre.length ca1) (.slice ao2 o.add.length ca2) (.slice ao3 o.del.length ca3) (.int .i64 o.cost) 80)
          go_enter Tryz.func83, Tryz.ntmps83
          go_wp2_with fail
          refine (sIsSet_val HA.out B1.out).mono ?_; rintro e w1 ⟨rfl, rfl⟩
          go_wp2_with fail
          refine (sIsSet_val HB.out B2.out).mono ?_; rintro e w1 ⟨rfl, rfl⟩
          go_wp2_with fail
          refine (sIsSet_val HC.out B3.out).mono ?_; rintro e w1 ⟨rfl, rfl⟩
          go_wp2_with fail
          refine HM.out.mono ?_; rintro e w1 ⟨rfl, hk⟩
          rw [B4.out]
          have KF := Lib.hid (K0.out.trans hk)
          have c3 := (HF.out.keeps0 hk).c3
          have l3 := (HF.out.keeps0 hk).lt
          clear hk
          by_cases h0 : o.cost < 0
          · have hr : Hid (opCode o n = 3) := by unfold Hid; rw [HO.out, if_neg (by omega)]
            go_wp2_with fail
            go_ret
            exact ⟨congrArg (fun u : Int => Ending.returned (Value.int .i64 u)) hr.out.symm, KF.out⟩
          · have h0' : 0 ≤ o.cost := by omega
            clear h0
            by_cases h1 : 100 < o.cost
            · have hr : Hid (opCode o n = 3) := by unfold Hid; rw [HO.out, if_neg (by omega)]
              go_wp2_with fail
              go_ret
              exact ⟨congrArg (fun u : Int => Ending.returned (Value.int .i64 u)) hr.out.symm, KF.out⟩
            · have h1' : o.cost ≤ 100 := by omega
              clear h1
              have hr : Hid (opCode o n = 0) := by unfold Hid; rw [HO.out, if_pos ⟨h0', h1'⟩]
              go_wp2_with fail
              go_ret
              exact ⟨congrArg (fun u : Int => Ending.returned (Value.int .i64 u)) hr.out.symm, KF.out⟩

end Go.Proofs.YtdokakhgflljgaaGreat

namespace Go.Proofs.YtdokakhgflljgaaGreat
open Go.ChangeShapes Go.WideShapes Go.ChangeAt Go.RowKit Go.Deep

theorem cells_int : Tryz.prog.cellsOf 3 = 1 := by kernel_rfl
theorem cells_operator : Tryz.prog.cellsOf 80 = 4 := by kernel_rfl
theorem cells_task : Tryz.prog.cellsOf 25 = 4 := by kernel_rfl
theorem cells_ints : Tryz.prog.cellsOf 22 = 1 := by kernel_rfl

theorem ints_of_trod {H : Type} {enc : TypeId × Value → H} {W : World} {v : Value} {fuel : Nat} {x : DataW H × List MemPlace}
    (hf : DataW.trod enc Tryz.prog W 0 (fun _ => true) true fuel 22 [v] = some x) : ∃ l, Ints W v l := by
  rcases open_ints Tryz.underlying22 Tryz.underlying3 cells_int hf with ⟨hcs, hx⟩ | ⟨a, len, cap, zs, hcs, _, hl, hm, hz, hx, hcell, hwz⟩
  · simp at hcs
    subst hcs
    exact ⟨[], none, 0, rfl, by simp, fun h => by simp at h⟩
  · simp at hcs
    subst hcs
    simp only [if_true] at hz
    have hlt : (zs.take len).length = len := by simp; omega
    refine ⟨zs.take len, some a, cap, by rw [hlt], by rw [hlt]; omega, fun h => ?_⟩
    rw [hlt] at h
    obtain ⟨b, off, spot⟩ := a
    have hspot : spot = none := by simpa [Addr.add] using World.cell?_spot (hcell 0 (by omega))
    subst hspot
    refine ⟨b, off, rfl, fun j x hj => ?_⟩
    rw [List.getElem?_map, List.getElem?_take] at hj
    split at hj
    · have := hcell j (by omega)
      rw [add_plain] at this
      rw [List.getD_eq_getElem?_getD] at this
      obtain ⟨y, hy⟩ : ∃ y, zs[j]? = some y := ⟨_, List.getElem?_eq_getElem (by omega)⟩
      rw [hy] at this hj
      simp at hj this
      subst hj
      exact this
    · simp at hj

theorem operator_struct : ∃ f0 f1 f2 f3 : Field, Tryz.prog.underlying 80 = some (.struct #[f0, f1, f2, f3]) ∧ (f0.type = 22 ∧ f1.type = 22 ∧ f2.type = 22 ∧ f3.type = 3) ∧ f0.offset = 0 ∧ f1.offset = 1 ∧ f2.offset = 2 ∧ f3.offset = 3 :=
  ⟨_, _, _, _, Tryz.underlying80, ⟨rfl, rfl, rfl, rfl⟩, rfl, rfl, rfl, rfl⟩

set_option maxRecDepth 100000 in
theorem ops_of_trod {H : Type} {enc : TypeId × Value → H} {W : World} {v : Value} {fuel : Nat} {x : DataW H × List MemPlace}
    (hf : DataW.trod enc Tryz.prog W 0 (fun _ => true) true fuel 23 [v] = some x) : ∃ ops, OpsAt W v ops := by
  rcases open_slice Tryz.underlying23 hf with ⟨hcs, hx⟩ | ⟨a, len, cap, m, n, D, Pl, hcs, hb, hl, hm, hmm, hx, each⟩
  · simp at hcs
    subst hcs
    exact ⟨[], none, 0, rfl, by simp, fun h => by simp at h⟩
  · simp at hcs
    subst hcs
    simp only [if_true] at hmm
    obtain ⟨f0, f1, f2, f3, hs, ⟨t0, t1, t2, t3⟩, s0, s1, s2, s3⟩ := operator_struct
    have all : ∀ i, i < len → ∃ (o : Opr) (va vb vc : Value), W.cell? (a.add (i * 4)) = some va ∧ W.cell? (a.add (i * 4 + 1)) = some vb ∧ W.cell? (a.add (i * 4 + 2)) = some vc ∧ W.cell? (a.add (i * 4 + 3)) = some (.int .i64 o.cost) ∧ Ints W va o.pre ∧ Ints W vb o.add ∧ Ints W vc o.del := by
      intro i hi
      obtain ⟨cs', h1, h2⟩ := each i (by omega)
      rw [cells_operator] at h1
      obtain ⟨_, hlen, hcell⟩ := World.cells?_some h1
      obtain ⟨xs, k, hk, hxy, _, hxl, hff⟩ := DataW.trod_struct hs h2
      match xs, hxl, cs', hlen with
      | [y0, y1, y2, y3], _, [v0, v1, v2, v3], _ =>
        have g0 := hff 0 f0 rfl
        have g1 := hff 1 f1 rfl
        have g2 := hff 2 f2 rfl
        have g3 := hff 3 f3 rfl
        simp [t0, t1, t2, t3, s0, s1, s2, s3, cells_int, cells_ints] at g0 g1 g2 g3
        obtain ⟨l0, e0⟩ := ints_of_trod g0
        obtain ⟨l1, e1⟩ := ints_of_trod g1
        obtain ⟨l2, e2⟩ := ints_of_trod g2
        obtain ⟨x3, e3, _⟩ := DataW.trod_int Tryz.underlying3 g3
        simp at e3
        subst e3
        have c0 := hcell 0 (by omega)
        have c1 := hcell 1 (by omega)
        have c2 := hcell 2 (by omega)
        have c3 := hcell 3 (by omega)
        rw [add_add] at c0 c1 c2 c3
        exact ⟨⟨l0, l1, l2, x3⟩, v0, v1, v2, by simpa using c0, by simpa using c1, by simpa using c2, by simpa using c3, e0, e1, e2⟩
    have hops : ∀ n, n ≤ len → ∃ ops : List Opr, ops.length = n ∧ ∀ i o, ops[i]? = some o → ∃ va vb vc : Value, W.cell? (a.add (i * 4)) = some va ∧ W.cell? (a.add (i * 4 + 1)) = some vb ∧ W.cell? (a.add (i * 4 + 2)) = some vc ∧ W.cell? (a.add (i * 4 + 3)) = some (.int .i64 o.cost) ∧ Ints W va o.pre ∧ Ints W vb o.add ∧ Ints W vc o.del := by
      intro n
      induction n with
      | zero => intro _; exact ⟨[], rfl, by simp⟩
      | succ n ih =>
        intro hn
        obtain ⟨ops, h1, h2⟩ := ih (by omega)
        obtain ⟨o, ho⟩ := all n (by omega)
        refine ⟨ops ++ [o], by simp [h1], fun i o' hi => ?_⟩
        by_cases hin : i < ops.length
        · rw [List.getElem?_append_left hin] at hi
          exact h2 i o' hi
        · rw [List.getElem?_append_right (by omega)] at hi
          have hz : i - ops.length = 0 := by
            have := (List.getElem?_eq_some_iff.1 hi).1; simp at this; omega
          rw [hz] at hi
          simp at hi
          subst hi
          have : i = n := by omega
          subst this
          exact ho
    obtain ⟨ops, hlen, hcells⟩ := hops len (Nat.le_refl _)
    refine ⟨ops, some a, cap, by rw [hlen], by rw [hlen]; omega, fun h => ?_⟩
    obtain ⟨o, va, vb, vc, ho, _⟩ := all 0 (by omega)
    obtain ⟨b, off, spot⟩ := a
    have hspot : spot = none := by simpa [Addr.add] using World.cell?_spot ho
    subst hspot
    refine ⟨b, off, rfl, fun i o' hi => ?_⟩
    obtain ⟨va, vb, vc, g0, g1, g2, g3, g4⟩ := hcells i o' hi
    rw [add_plain] at g0 g1 g2 g3
    exact ⟨va, vb, vc, g0, g1, g2, g3, g4⟩

set_option maxRecDepth 100000 in
theorem task_struct : ∃ f0 f1 f2 f3 : Field, Tryz.prog.underlying 25 = some (.struct #[f0, f1, f2, f3]) ∧ (f0.type = 3 ∧ f1.type = 22 ∧ f2.type = 22 ∧ f3.type = 23) ∧ oneCellFields Tryz.prog #[f0, f1, f2, f3] = true :=
  ⟨_, _, _, _, Tryz.underlying25, ⟨rfl, rfl, rfl, rfl⟩, by kernel_rfl⟩

set_option maxRecDepth 100000 in
theorem opened_task {H : Type} {enc : TypeId × Value → H} {W : World} {v : Value} {d0 : DataW H} {p : List MemPlace} {r : Go.Reach} {b0 : Nat}
    (h0 : DataW.Trod enc Tryz.prog W 0 (fun _ => true) true 25 v d0 p) (hv : Value.okWide Tryz.prog W r b0 25 v) : ∃ (t : Tsk) (vi vg vo : Value), v = .agg #[.int .i64 t.n, vi, vg, vo] ∧ TaskAt W vi vg vo t := by
  obtain ⟨f0, f1, f2, f3, hs, ⟨t0, t1, t2, t3⟩, hone⟩ := task_struct
  obtain ⟨v0, v1, v2, v3, y0, y1, y2, y3, n, rfl, _, _, h1, h2, h3, h4⟩ := Joins.open_agg4 hs hone cells_task hv h0
  rw [t0] at h1; rw [t1] at h2; rw [t2] at h3; rw [t3] at h4
  obtain ⟨x0, e0, _⟩ := DataW.trod_int Tryz.underlying3 h1
  simp at e0
  subst e0
  obtain ⟨l1, k1⟩ := ints_of_trod h2
  obtain ⟨l2, k2⟩ := ints_of_trod h3
  obtain ⟨ops, k3⟩ := ops_of_trod h4
  exact ⟨⟨x0, l1, l2, ops⟩, v1, v2, v3, rfl, k1, k2, k3⟩

theorem godebug_own : ownKnob Tryz.prog.godebug = none := by kernel_rfl
theorem laidOut : laidOutB Tryz.prog = true := by kernel_rfl

end Go.Proofs.YtdokakhgflljgaaGreat

namespace Go.Proofs.YtdokakhgflljgaaGreat
open Go.RowKit

theorem u32_bits {a b : Nat} (ha : a < 4294967296) (hb : b < 4294967296) : bits .and .u32 (a : Int) (b : Int) = ((a &&& b : Nat) : Int) ∧ bits .or .u32 (a : Int) (b : Int) = ((a ||| b : Nat) : Int) :=
  bits_nat .u32 32 (by decide) (fun n h0 h1 => by rw [IntKind.wrap_u32]; omega) a b (by omega) (by omega)

theorem wd_lt32 {l : List Int} {n : Int} (hn : n ≤ 32) (h : isSetB l n = true) : wd l < 4294967296 :=
  wd_lt (n := 32) (fun x hx => by have := (isSet_iff.1 h).1 x hx; omega)

theorem pow_cast {p : Nat} (hp : p < 32) : (2 : Int) ^ p % 4294967296 = ((2 ^ p : Nat) : Int) := by
  have h : (2 : Nat) ^ p < 2 ^ 32 := Nat.pow_lt_pow_right (by decide) hp
  have e : ((2 : Int) ^ p) = ((2 ^ p : Nat) : Int) := by simp
  rw [e]
  have h' : (2 : Nat) ^ p < 4294967296 := h
  generalize (2 : Nat) ^ p = q at h' ⊢
  omega

theorem or_pow {u p : Nat} (hu : u < 4294967296) (hp : p < 32) : bits .or .u32 (u : Int) (2 ^ p % 4294967296) = ((u ||| 2 ^ p : Nat) : Int) := by
  rw [pow_cast hp]
  exact (u32_bits hu (by have := Nat.pow_lt_pow_right (a := 2) (by decide) hp; omega)).2

theorem wd_append (a b : List Int) : wd (a ++ b) = wd b ||| wd a := by
  induction a with
  | nil => simp [wd]
  | cons x r ih => rw [List.cons_append, wd, ih, wd, Nat.or_assoc]

theorem wd_take_lt {l : List Int} (h : ∀ x ∈ l, 0 ≤ x ∧ x < 32) (k : Nat) : wd (l.take k) < 4294967296 :=
  wd_lt (n := 32) (fun x hx => h x (List.mem_of_mem_take hx))

set_option maxHeartbeats 1000000 in
theorem word_any (w : World) (v : Value) (l : List Int) (h : Ints w v l) (hl : ∀ x ∈ l, 0 ≤ x ∧ x < 32) :
    Calls Tryz.prog 84 #[v] w fun e w' => e = .returned (.int .u32 (wd l : Nat)) ∧ w = w' := by
  obtain ⟨ao, ca, hv, ma⟩ := h.form
  have CA := Lib.hid (h.cell hv)
  have HL := Lib.hid hl
  subst hv
  clear h hl
  go_enter Tryz.func84, Tryz.ntmps84
  go_wp2_with fail
  go_loop [3, 8] (fun u i => ∃ k : Nat, k ≤ l.length ∧ i = .int .i64 (k : Int) ∧ u = .int .u32 (wd (l.take k) : Nat)) (fun _ i => l.length - (intOf i).toNat)
  case atStart => exact ⟨0, Nat.zero_le _, rfl, rfl⟩
  case round =>
    obtain ⟨k, hk, rfl, rfl⟩ := hrel
    by_cases hlt : k < l.length
    · obtain ⟨ba, oa, rfl, ha'⟩ := CA.out (by omega)
      obtain ⟨x, hx⟩ : ∃ x, l[k]? = some x := ⟨_, List.getElem?_eq_getElem hlt⟩
      have ha1 := ha' k _ hx
      have hb := HL.out x (List.mem_of_getElem? hx)
      have e2 : wd (l.take (k + 1)) = wd (l.take k) ||| 2 ^ x.toNat := by
        rw [take_getS hx, wd_append, Nat.or_comm]; simp [wd]
      have e3 := or_pow (wd_take_lt HL.out k) (by omega : x.toNat < 32)
      rw [← e2] at e3
      have HE := Lib.hid e3
      have hb0 := hb.1
      clear ha' hx e2 e3
      go_wp2_with fail
      go_round
      case rel => exact ⟨k + 1, by omega, by go_num, by rw [HE.out]⟩
      case measure => simp [intOf]; omega
    · have hf : Hid (wd (l.take k) = wd l) := by unfold Hid; rw [List.take_of_length_le (by omega)]
      go_wp2_with fail
      go_ret
      exact ⟨congrArg (fun u : Nat => Ending.returned (Value.int .u32 (u : Int))) hf.out, rfl⟩

/-! ### Facts -/
theorem and_one {x k : Nat} : bits .and .u32 ((x : Int) / 2 ^ k) 1 = if x.testBit k then 1 else 0 := by
  have e : ((x : Int) / 2 ^ k) = ((x / 2 ^ k : Nat) : Int) := by simp
  rw [e]
  generalize hy : x / 2 ^ k = y
  have ht : x.testBit k = decide (y % 2 = 1) := by rw [Nat.testBit_eq_decide_div_mod_eq, hy]
  rw [ht]
  have e1 : bits .and .u32 (y : Int) 1 = ((y % 2 : Nat) : Int) := by
    have hm : (y % 4294967296) % 2 = y % 2 := by omega
    have hB : ∀ (a b : BitVec 32), a.toNat = y % 4294967296 → b.toNat = 1 → IntKind.u32.wrap ((a &&& b).toNat : Int) = ((y % 2 : Nat) : Int) := by
      intro a b ha hb
      rw [BitVec.toNat_and, ha, hb, Nat.and_one_is_mod, hm, IntKind.wrap_u32]
      omega
    exact hB (BitVec.ofInt 32 (y : Int)) (BitVec.ofInt 32 1) (by rw [BitVec.ofInt_natCast, BitVec.toNat_ofNat]) (by decide)
  rw [e1]
  by_cases h : y % 2 = 1
  · simp [h]
  · have : y % 2 = 0 := by omega
    simp [this]

theorem own_grown {e : TypeId} {size n : Nat} {xs : List Value} {w2 wr Wa w4 : World} {v : Value} (h : wr.ownsRow w2.heap.size e size v n xs) (hk : Keeps (fun _ => False) w2 wr) (hWa : Keeps (fun _ => False) wr Wa) (hgrow : Wa.grownBy w4 v.ownBlock) : Keeps (fun _ => False) w2 w4 :=
  (hk.trans hWa).trans' ((Keeps.refl (fun k => v.ownBlock = some k) Wa).grown hgrow (fun _ hk => .inl hk)) (fun b hb => .inr (World.ownsRow.lt h b hb).1)

/-- The facts of a word below a bound. -/
def factsTo (x k : Nat) : List Int := ((List.range k).filter fun p => x.testBit p).map fun p : Nat => (p : Int)
theorem factsTo_succ (x k : Nat) : factsTo x (k + 1) = if x.testBit k then factsTo x k ++ [(k : Int)] else factsTo x k := by
  unfold factsTo
  rw [List.range_succ, List.filter_append, List.map_append]
  cases h : x.testBit k <;> simp [h]
theorem factsTo_le (x k : Nat) : (factsTo x k).length ≤ k := by
  unfold factsTo
  rw [List.length_map]
  have := List.length_filter_le (fun p => x.testBit p) (List.range k)
  simpa using this

set_option maxRecDepth 100000 in
theorem facts_any (w : World) (x : Nat) :
    Calls Tryz.prog 60 #[.int .u32 (x : Int)] w fun e w' => ∃ v, e = .returned v ∧ w'.ownsRow w.heap.size 3 1 v (facts x).length ((facts x).map (Value.int .i64)) ∧ Keeps (fun _ => False) w w' ∧ w.drawn ≤ w'.drawn := by
  obtain ⟨i0, hi0, hz0, hz1, hz2⟩ := info_parts Tryz.info3
  go_enter Tryz.func60, Tryz.ntmps60
  go_wp2_with fail
  go_loopw [3, 5] (fun v i wr => ∃ k : Nat, k ≤ 32 ∧ i = .int .i64 (k : Int) ∧ wr.ownsRow w.heap.size 3 1 v (factsTo x k).length ((factsTo x k).map (Value.int .i64)) ∧ Keeps (fun _ => False) w wr ∧ w.drawn ≤ wr.drawn) (fun _ i _ => 32 - (intOf i).toNat)
  case atStart => exact ⟨0, by omega, rfl, World.ownsRow_nil _ _ _ _, Keeps.refl _ _, Nat.le_refl _⟩
  case round =>
    obtain ⟨k, hk, rfl, hown, hkw, hd⟩ := hrel
    have HO := Lib.hid hown; clear hown
    have KW := Lib.hid hkw; clear hkw
    by_cases hlt : k < 32
    · have hle := factsTo_le x k
      have hsz := KW.out.size
      by_cases ht : x.testBit k = true
      · have hb : (bits .and .u32 ((x : Int) / 2 ^ k) 1 == 1) = true := by rw [and_one, if_pos ht]; rfl
        have HS : Hid (factsTo x (k + 1) = factsTo x k ++ [(k : Int)]) := by unfold Hid; rw [factsTo_succ, if_pos ht]
        clear ht
        obtain ⟨av, cv, hv⟩ := ownsRow_form1 HO.out
        subst hv
        go_wp2_with (at_builtin; refine wpList_append_d rfl _ _ _ rfl w.heap.size 3 i0 _ 1 8 Tryz.underlying22 hi0 hz0 hz1 hz2 rfl (by omega) _ (factsTo x k).length ((factsTo x k).map (Value.int .i64)) (by rfl) (World.ownsRow.alloc HO.out (.cells #[.int .i64 (k : Int)] 3)) ⟨wr.heap.size, 0, none⟩ 1 1 [.int .i64 (k : Int)] (by rfl) (by rfl) ?hnews ?hone (by omega) (by unfold maxLen; omega) (by omega) (by simp; omega) (wr.heap.size + 1) (by simp) ?_)
        case hnews => exact World.news_of_block (cs := #[.int .i64 (k : Int)]) (t := 3) (fr := (0, 0)) (heap_alloc_new _ _)
        case hone => simp [Value.oneCell']
        intro g cap2 w4 hown hgrow hat hlt4 hd4
        have HN := Lib.hid (show w4.ownsRow w.heap.size 3 1 (.slice (some ⟨g, 0, none⟩) ((factsTo x k).length + 1) cap2) (factsTo x (k + 1)).length ((factsTo x (k + 1)).map (Value.int .i64)) by
          rw [HS.out, List.map_append, List.length_append]; exact hown)
        have HKN := Lib.hid (own_grown HO.out KW.out ((Keeps.refl _ wr).alloc (.cells #[.int .i64 (k : Int)] 3)) hgrow)
        have hd5 : w.drawn ≤ w4.drawn := Nat.le_trans hd hd4
        clear hown hgrow hat hd4
        go_wp2_with fail
        go_roundw
        case rel => exact ⟨k + 1, by omega, by go_num, HN.out, HKN.out, hd5⟩
        case measure => simp [intOf]; omega
      · have hb : (bits .and .u32 ((x : Int) / 2 ^ k) 1 == 1) = false := by rw [and_one, if_neg ht]; rfl
        have HS : Hid (factsTo x (k + 1) = factsTo x k) := by unfold Hid; rw [factsTo_succ, if_neg ht]
        clear ht
        go_wp2_with fail
        go_roundw
        case rel => exact ⟨k + 1, by omega, by go_num, by rw [HS.out]; exact HO.out, KW.out, hd⟩
        case measure => simp [intOf]; omega
    · obtain rfl : k = 32 := by omega
      go_wp2_with fail
      go_ret
      exact ⟨_, rfl, HO.out, KW.out, hd⟩

end Go.Proofs.YtdokakhgflljgaaGreat

namespace Go.Proofs.YtdokakhgflljgaaGreat
open Go.RowKit

theorem opsFault_get {n i : Int} {l : List Opr} {k : Nat} {o : Opr} (h : l[k]? = some o) : opsFault n i (l.drop k) = if opCode o n = 0 then opsFault n (i + 1) (l.drop (k + 1)) else (opCode o n, i) := by
  obtain ⟨h1, h2⟩ := List.getElem?_eq_some_iff.1 h
  rw [List.drop_eq_getElem_cons h1, h2, opsFault]

/-- What a function that keeps its fault in a block of its own knows of that block. -/
structure Flt (w w1 : World) (F : Nat) (T : TypeId) : Prop where
  blk : w1.heap[F]? = some (.cells #[.int .i64 0, .int .i64 0] T (0, 0))
  base : w.heap.size ≤ F
  keep : Keeps (fun _ => False) w w1
theorem Flt.keeps0 {w w1 w2 : World} {F : Nat} {T : TypeId} (h : Flt w w1 F T) (hk : Keeps (fun _ => False) w1 w2) : Flt w w2 F T := ⟨hk.heap h.blk (fun h => h), h.base, h.keep.trans hk⟩
theorem Flt.cells {w w1 : World} {F : Nat} {T : TypeId} (h : Flt w w1 F T) : w1.cell? ⟨F, 0, none⟩ = some (.int .i64 0) ∧ w1.cell? ⟨F, 1, none⟩ = some (.int .i64 0) ∧ w1.frozen? ⟨F, 0, none⟩ = false ∧ w1.frozen? ⟨F, 1, none⟩ = false ∧ F < w1.heap.size :=
  ⟨by rw [cell_of_blk h.blk]; rfl, by rw [cell_of_blk h.blk]; rfl, frozen_of_blk h.blk, frozen_of_blk h.blk, lt_of_heap h.blk⟩
theorem Flt.set {w w1 : World} {F : Nat} {T : TypeId} (h : Flt w w1 F T) (c n : Value) : ((w1.setCell ⟨F, 0, none⟩ c).setCell ⟨F, 1, none⟩ n).heap[F]? = some (.cells #[c, n] T (0, 0)) ∧ Keeps (fun _ => False) w ((w1.setCell ⟨F, 0, none⟩ c).setCell ⟨F, 1, none⟩ n) :=
  ⟨pair_set h.blk c n, h.keep.trans' (keeps_pair F c n) (fun i hi => .inr (by have := h.base; omega))⟩

set_option maxHeartbeats 1000000 in
theorem validate_any (w : World) (vi vg vo : Value) (t : Tsk) (h : TaskAt w vi vg vo t) :
    Calls Tryz.prog 65 #[.agg #[.int .i64 t.n, vi, vg, vo]] w fun e w' => e = .returned (.agg #[.int .i64 (taskFault t).1, .int .i64 (taskFault t).2]) ∧ Keeps (fun _ => False) w w' := by
  obtain ⟨ai, ci, h1, _⟩ := h.init.form
  obtain ⟨ag, cg, h2, _⟩ := h.goal.form
  obtain ⟨ao, co, h3, hmo⟩ := h.ops.form
  subst h1 h2 h3
  have K1 := (Keeps.refl (fun _ => False) w).alloc (.cells #[.int .i64 t.n, .slice ai t.init.length ci, .slice ag t.goal.length cg, .slice ao t.ops.length co] 25)
  have HT := h.keeps0 (K1.alloc (.cells #[.int .i64 0, .int .i64 0] 31))
  have HB := (Four.new w (.int .i64 t.n) (.slice ai t.init.length ci) (.slice ag t.goal.length cg) (.slice ao t.ops.length co) 25).keeps0 ((Keeps.refl _ _).alloc (.cells #[.int .i64 0, .int .i64 0] 31))
  have HF : Flt w ((w.alloc (.cells #[.int .i64 t.n, .slice ai t.init.length ci, .slice ag t.goal.length cg, .slice ao t.ops.length co] 25)).alloc (.cells #[.int .i64 0, .int .i64 0] 31)) (w.heap.size + 1) 31 :=
    ⟨by have := heap_alloc_new (w.alloc (.cells #[.int .i64 t.n, .slice ai t.init.length ci, .slice ag t.goal.length cg, .slice ao t.ops.length co] 25)) (.cells #[.int .i64 0, .int .i64 0] 31); rwa [World.size_alloc] at this, by omega, K1.alloc _⟩
  replace HT := Lib.hid HT; replace HB := Lib.hid HB; replace HF := Lib.hid HF
  clear h K1
  go_enter Tryz.func65, Tryz.ntmps65
  go_upto_region 1 with fail
  generalize ((w.alloc (.cells #[.int .i64 t.n, .slice ai t.init.length ci, .slice ag t.goal.length cg, .slice ao t.ops.length co] 25)).alloc (.cells #[.int .i64 0, .int .i64 0] 31)) = w1 at HT HB HF ⊢
  obtain ⟨d0, d1, d2, d3⟩ := HB.out
  obtain ⟨e0, e1, z0, z1, hF⟩ := HF.out.cells
  by_cases hn : t.n < 0 ∨ 24 < t.n
  · have HP : Hid (taskFault t = (3, -1)) := by unfold Hid taskFault; rw [if_pos (by omega)]
    rcases hn with hn | hn
    all_goals
      go_wp2_with fail
      refine bodyPost_ret (results_cell_row rfl _ _ (w.heap.size + 1) 31 _ (0, 0) _ rfl (HF.out.set (.int .i64 3) (.int .i64 (-1))).1 Tryz.underlying31 rfl (by kernel_rfl)) rfl ?_
      exact ⟨by rw [HP.out], (HF.out.set _ _).2⟩
  · have hn0 : 0 ≤ t.n := by omega
    have hn1 : t.n ≤ 24 := by omega
    have hn2 : ¬ t.n < 0 := by omega
    have hn3 : ¬ 24 < t.n := by omega
    clear hn
    have P1 : taskFault t = if isSetB t.init t.n = false then (5, -2) else
      if isSetB t.goal t.n = false then (5, -3) else
      if 40 < t.ops.length then (2, -1) else opsFault t.n 0 t.ops := by unfold taskFault; rw [if_neg (by omega)]
    cases b1 : isSetB t.init t.n with
    | false =>
      have HP : Hid (taskFault t = (5, -2)) := by unfold Hid; rw [P1, if_pos b1]
      have B1 := Lib.hid b1
      clear b1 P1
      go_wp2_with fail
      refine (sIsSet_val HT.out.init B1.out).mono ?_; rintro e w2 ⟨rfl, rfl⟩
      go_wp2_with fail
      refine bodyPost_ret (results_cell_row rfl _ _ (w.heap.size + 1) 31 _ (0, 0) _ rfl (HF.out.set (.int .i64 5) (.int .i64 (-2))).1 Tryz.underlying31 rfl (by kernel_rfl)) rfl ?_
      exact ⟨by rw [HP.out], (HF.out.set _ _).2⟩
    | true =>
      rw [if_neg (by simp [b1])] at P1
      cases b2 : isSetB t.goal t.n with
      | false =>
        have HP : Hid (taskFault t = (5, -3)) := by unfold Hid; rw [P1, if_pos b2]
        have B1 := Lib.hid b1; have B2 := Lib.hid b2
        clear b1 b2 P1
        go_wp2_with fail
        refine (sIsSet_val HT.out.init B1.out).mono ?_; rintro e w2 ⟨rfl, rfl⟩
        go_wp2_with fail
        refine (sIsSet_val HT.out.goal B2.out).mono ?_; rintro e w2 ⟨rfl, rfl⟩
        go_wp2_with fail
        refine bodyPost_ret (results_cell_row rfl _ _ (w.heap.size + 1) 31 _ (0, 0) _ rfl (HF.out.set (.int .i64 5) (.int .i64 (-3))).1 Tryz.underlying31 rfl (by kernel_rfl)) rfl ?_
        exact ⟨by rw [HP.out], (HF.out.set _ _).2⟩
      | true =>
        rw [if_neg (by simp [b2])] at P1
        have B1 := Lib.hid b1; have B2 := Lib.hid b2
        clear b1 b2
        by_cases h40 : 40 < t.ops.length
        · have HP : Hid (taskFault t = (2, -1)) := by unfold Hid; rw [P1, if_pos h40]
          clear P1
          go_wp2_with fail
          refine (sIsSet_val HT.out.init B1.out).mono ?_; rintro e w2 ⟨rfl, rfl⟩
          go_wp2_with fail
          refine (sIsSet_val HT.out.goal B2.out).mono ?_; rintro e w2 ⟨rfl, rfl⟩
          go_wp2_with fail
          refine bodyPost_ret (results_cell_row rfl _ _ (w.heap.size + 1) 31 _ (0, 0) _ rfl (HF.out.set (.int .i64 2) (.int .i64 (-1))).1 Tryz.underlying31 rfl (by kernel_rfl)) rfl ?_
          exact ⟨by rw [HP.out], (HF.out.set _ _).2⟩
        · rw [if_neg h40] at P1
          have HQ := Lib.hid P1
          have HC := Lib.hid (HT.out.ops.cell rfl)
          clear P1
          go_wp2_with fail
          refine (sIsSet_val HT.out.init B1.out).mono ?_; rintro e w2 ⟨rfl, rfl⟩
          go_wp2_with fail
          refine (sIsSet_val HT.out.goal B2.out).mono ?_; rintro e w2 ⟨rfl, rfl⟩
          go_wp2_with fail
          go_loopw [41] (fun i wr => ∃ k : Nat, k ≤ t.ops.length ∧ i = .int .i64 (k : Int) ∧ opsFault t.n 0 t.ops = opsFault t.n (k : Int) (t.ops.drop k) ∧ Keeps (fun _ => False) w1 wr) (fun i _ => t.ops.length - (intOf i).toNat)
          case atStart => exact ⟨0, Nat.zero_le _, rfl, rfl, Keeps.refl _ _⟩
          case round =>
            obtain ⟨k, hk, rfl, ht, hkw⟩ := hrel
            have HTL := Lib.hid ht; clear ht
            have KW := Lib.hid hkw; clear hkw
            obtain ⟨d0, d1, d2, d3⟩ := HB.out.keeps0 KW.out
            have hbx := (HB.out.keeps0 KW.out).lt
            obtain ⟨e0, e1, z0, z1, hF⟩ := (HF.out.keeps0 KW.out).cells
            by_cases hlt : k < t.ops.length
            · obtain ⟨bo, oo, rfl, hcell⟩ := HC.out (by omega)
              obtain ⟨o, ho⟩ : ∃ o, t.ops[k]? = some o := ⟨_, List.getElem?_eq_getElem hlt⟩
              obtain ⟨va, vb, vc, p0, p1, p2, p3, i1, i2, i3⟩ := hcell k o ho
              have q0 := KW.out.cell p0 (fun h => h)
              have q1 := KW.out.cell p1 (fun h => h)
              have q2 := KW.out.cell p2 (fun h => h)
              have q3 := KW.out.cell p3 (fun h => h)
              have I1 := Lib.hid (i1.keeps0 KW.out); have I2 := Lib.hid (i2.keeps0 KW.out); have I3 := Lib.hid (i3.keeps0 KW.out)
              have HG := Lib.hid (opsFault_get (n := t.n) (i := (k : Int)) ho)
              obtain ⟨a1, k1, f1, _⟩ := i1.form
              obtain ⟨a2, k2, f2, _⟩ := i2.form
              obtain ⟨a3, k3, f3, _⟩ := i3.form
              subst f1 f2 f3
              clear hcell ho p0 p1 p2 p3 i1 i2 i3
              have KA := Lib.hid ((Keeps.refl (fun _ => False) wr).alloc (.cells #[.slice a1 o.pre.length k1, .slice a2 o.add.length k2, .slice a3 o.del.length k3, .int .i64 o.cost] 80))
              have HOP := Lib.hid (fun (w' : World) => operator_any w' (.slice a1 o.pre.length k1) (.slice a2 o.add.length k2) (.slice a3 o.del.length k3) o t.n)
              go_wp2_with fail
              refine (HOP.out _ (I1.out.keeps0 KA.out) (I2.out.keeps0 KA.out) (I3.out.keeps0 KA.out) (by omega)).mono ?_; rintro e w3 ⟨rfl, hk3⟩
              have K3 := Lib.hid (KA.out.trans hk3)
              clear hk3
              by_cases hz : opCode o t.n = 0
              · have HN : Hid (opsFault t.n 0 t.ops = opsFault t.n ((k + 1 : Nat) : Int) (t.ops.drop (k + 1))) := by
                  unfold Hid; rw [HTL.out, HG.out, if_pos hz]; rfl
                have hz' : (opCode o t.n != 0) = false := by simpa using hz
                clear hz
                generalize opCode o t.n = c at hz' ⊢
                go_wp2_with fail
                go_roundw
                case rel => exact ⟨k + 1, by omega, by go_num, HN.out, KW.out.trans K3.out⟩
                case measure => simp [intOf]; omega
              · have HP : Hid (taskFault t = (opCode o t.n, (k : Int))) := by unfold Hid; rw [HQ.out, HTL.out, HG.out, if_neg hz]
                have hz' : (opCode o t.n != 0) = true := by simpa using hz
                clear hz
                have HF4 := Lib.hid ((HF.out.keeps0 KW.out).keeps0 K3.out)
                obtain ⟨e0, e1, z0, z1, hF⟩ := HF4.out.cells
                generalize opCode o t.n = c at hz' HP ⊢
                go_wp2_with fail
                refine bodyPost_ret (results_cell_row rfl _ _ (w.heap.size + 1) 31 _ (0, 0) _ rfl (HF4.out.set (.int .i64 c) (.int .i64 (k : Int))).1 Tryz.underlying31 rfl (by kernel_rfl)) rfl ?_
                exact ⟨by rw [HP.out], (HF4.out.set _ _).2⟩
            · have HP : Hid (taskFault t = (0, 0)) := by unfold Hid; rw [HQ.out, HTL.out, List.drop_of_length_le (by omega)]; rfl
              have HF4 := Lib.hid (HF.out.keeps0 KW.out)
              go_wp2_with fail
              refine bodyPost_ret (results_cell_row rfl _ _ (w.heap.size + 1) 31 _ (0, 0) _ rfl (HF4.out.set (.int .i64 0) (.int .i64 0)).1 Tryz.underlying31 rfl (by kernel_rfl)) rfl ?_
              exact ⟨by rw [HP.out], (HF4.out.set _ _).2⟩

end Go.Proofs.YtdokakhgflljgaaGreat

namespace Go.Proofs.YtdokakhgflljgaaGreat
open Go.RowKit

/-! ### Subset -/
def subB (a b : List Int) : Bool := a.all fun x => b.contains x

/-! ### Applies -/
end Go.Proofs.YtdokakhgflljgaaGreat

/- The reference's After. -/
namespace Go.Proofs.YtdokakhgflljgaaGreat
open Go.RowKit

end Go.Proofs.YtdokakhgflljgaaGreat

namespace Go.Proofs.YtdokakhgflljgaaGreat
open Go.RowKit

theorem Tryz.info_mask : (Tryz.prog.info? 157).map (fun i => (i.zero, i.size, i.bytes)) = some (some (.agg #[.int .u32 0, .int .u32 0, .int .u32 0, .int .i64 0]), 4, 24) := by kernel_rfl

def wopCells (ops : List Wop) : List Value := ops.flatMap fun o => [.int .u32 (o.pre : Int), .int .u32 (o.add : Int), .int .u32 (o.del : Int), .int .i64 o.cost]
def wordsOf (ops : List Opr) : List Wop := ops.map Opr.word

theorem wopCells_append (a b : List Wop) : wopCells (a ++ b) = wopCells a ++ wopCells b := by unfold wopCells; exact List.flatMap_append

theorem word_still {w : World} {v : Value} {l : List Int} (h : Ints w v l) (hl : ∀ x ∈ l, 0 ≤ x ∧ x < 32) :
    Calls Tryz.prog 84 #[v] w fun e w' => e = .returned (.int .u32 (wd l : Nat)) ∧ w' = w :=
  (word_any w v l h hl).mono fun _ _ ⟨he, hw⟩ => ⟨he, hw.symm⟩

theorem set_bound {l : List Int} {n : Int} (h : isSetB l n = true) (hn : n ≤ 24) : ∀ x ∈ l, 0 ≤ x ∧ x < 32 := fun x hx => by have := (isSet_iff.1 h).1 x hx; omega

/-- A block that holds the words of a task. -/
structure WordsAt (w : World) (base b : Nat) (s g : Nat) (v : Value) (ops : List Wop) : Prop where
  blk : w.heap[b]? = some (.cells #[.int .u32 (s : Int), .int .u32 (g : Int), v] 114 (0, 0))
  own : w.ownsRow base 157 4 v ops.length (wopCells ops)
  low : base ≤ b
  ne : v.ownBlock ≠ some b

set_option maxHeartbeats 1000000 in
theorem grown_cell {w4 w5 : World} {o : Obj} {row : Option Nat} (hg : ((w4.alloc o).drew).grownBy w5 row) {b j : Nat} {x : Value} (h : w4.cell? ⟨b, j, none⟩ = some x) (hne : row ≠ some b) : w5.cell? ⟨b, j, none⟩ = some x :=
  hg.cell (a := ⟨b, j, none⟩) (((Keeps.refl (fun _ => False) w4).alloc o).drew.cell h (fun h => h)) (fun e => hne e.symm)
theorem grown_heap {w4 w5 : World} {o o' : Obj} {row : Option Nat} (hg : ((w4.alloc o).drew).grownBy w5 row) {b : Nat} (h : w4.heap[b]? = some o') (hne : row ≠ some b) : w5.heap[b]? = some o' := by
  have h1 := (((Keeps.refl (fun _ => False) w4).alloc o).drew).heap h (fun h => h)
  exact (hg.block b (lt_of_heap h1) (fun e => hne e.symm)).trans h1

theorem ownsRow_mono4 {w : World} {base base' : Nat} {e : TypeId} {size : Nat} {v : Value} {n : Nat} {xs : List Value} (h : w.ownsRow base e size v n xs) (hb : base' ≤ base) : w.ownsRow base' e size v n xs := ownsRow_mono h hb

theorem WordsAt.keeps0 {w w' : World} {base b s g : Nat} {v : Value} {ops : List Wop} (h : WordsAt w base b s g v ops) (hk : Keeps (fun _ => False) w w') : WordsAt w' base b s g v ops :=
  ⟨hk.heap h.blk (fun h => h), hk.ownsRow h.own (fun _ _ h => h), h.low, h.ne⟩

theorem WordsAt.push {w4 w5 : World} {base bb s g n cap gg : Nat} {v : Value} {ops : List Wop} {o : Obj} {p : Wop} (h : WordsAt w4 base bb s g v ops) (hg : ((w4.alloc o).drew).grownBy w5 v.ownBlock) (hn : n = ops.length + 1)
    (hown : w5.ownsRow base 157 4 (.slice (some ⟨gg, 0, none⟩) n cap) n (wopCells ops ++ [.int .u32 (p.pre : Int), .int .u32 (p.add : Int), .int .u32 (p.del : Int), .int .i64 p.cost])) (hat : v.ownBlock = some gg ∨ gg = w4.heap.size + 1) :
    WordsAt (w5.setCell ⟨bb, 2, none⟩ (.slice (some ⟨gg, 0, none⟩) n cap)) base bb s g (.slice (some ⟨gg, 0, none⟩) n cap) (ops ++ [p]) := by
  have hb := grown_heap (w4 := w4) hg h.blk h.ne
  have hne : gg ≠ bb := by
    rcases hat with e | e
    · intro e'; exact h.ne (by rw [e, e'])
    · have := lt_of_heap h.blk; omega
  refine ⟨by rw [blk_set_same hb]; rfl, ?_, h.low, by simpa [Value.ownBlock] using hne⟩
  have hk : Keeps (fun b => b = bb) w5 (w5.setCell ⟨bb, 2, none⟩ (.slice (some ⟨gg, 0, none⟩) n cap)) := (Keeps.refl (fun b => b = bb) w5).setCell (p := ⟨bb, 2, none⟩) (.inl rfl) _
  have h2 : w5.ownsRow base 157 4 (.slice (some ⟨gg, 0, none⟩) n cap) (ops ++ [p]).length (wopCells (ops ++ [p])) := by
    rw [wopCells_append, List.length_append, show ops.length + [p].length = n by simp [hn]]; exact hown
  exact hk.ownsRow h2 (fun k hk e => by simp [Value.ownBlock] at hk; omega)

theorem WordsAt.pushKeeps {w2 w4 w5 : World} {bb s g : Nat} {v : Value} {ops : List Wop} {o : Obj} (h : WordsAt w4 bb bb s g v ops) (hg : ((w4.alloc o).drew).grownBy w5 v.ownBlock) (hb : w2.heap.size = bb) (hk : Keeps (fun _ => False) w2 w4) (u : Value) : Keeps (fun _ => False) w2 (w5.setCell ⟨bb, 2, none⟩ u) := by
  have h1 : Keeps (fun b => v.ownBlock = some b) (w4.alloc o).drew w5 := (Keeps.refl _ _).grown hg (fun k hk => .inl hk)
  have h2 : Keeps (fun _ => False) w2 w5 := (hk.trans ((Keeps.refl _ w4).alloc o).drew).trans' h1 (fun b e => .inr (by have := (World.ownsRow.lt h.own b e).1; omega))
  exact h2.setCell (p := ⟨bb, 2, none⟩) (.inr (by simp only; omega)) u

set_option maxHeartbeats 4000000 in
set_option maxRecDepth 100000 in
theorem of_any (w : World) (vi vg vo : Value) (t : Tsk) (h : TaskAt w vi vg vo t) (ok : t.Ok) :
    Calls Tryz.prog 66 #[.agg #[.int .i64 t.n, vi, vg, vo]] w fun e w' => ∃ b v, e = .returned (.pointer (some ⟨b, 0, none⟩)) ∧ WordsAt w' w.heap.size b (wd t.init) (wd t.goal) v (wordsOf t.ops) ∧ Keeps (fun _ => False) w w' := by
  obtain ⟨ai, ci, h1, _⟩ := h.init.form
  obtain ⟨ag, cg, h2, _⟩ := h.goal.form
  obtain ⟨ao, co, h3, hmo⟩ := h.ops.form
  subst h1 h2 h3
  have K1 := (Keeps.refl (fun _ => False) w).alloc (.cells #[.int .i64 t.n, .slice ai t.init.length ci, .slice ag t.goal.length cg, .slice ao t.ops.length co] 25)
  have HT := h.keeps0 K1
  have HB := Four.new w (.int .i64 t.n) (.slice ai t.init.length ci) (.slice ag t.goal.length cg) (.slice ao t.ops.length co) 25
  replace HT := Lib.hid HT; replace HB := Lib.hid HB; have OK := Lib.hid ok; have K1 := Lib.hid K1
  clear h ok
  go_enter Tryz.func66, Tryz.ntmps66
  go_upto_region 1 with fail
  generalize (w.alloc (.cells #[.int .i64 t.n, .slice ai t.init.length ci, .slice ag t.goal.length cg, .slice ao t.ops.length co] 25)) = w1 at HT HB K1 ⊢
  obtain ⟨d0, d1, d2, d3⟩ := HB.out
  have hbx := HB.out.lt
  have BI := Lib.hid (set_bound OK.out.init OK.out.n1); have BG := Lib.hid (set_bound OK.out.goal OK.out.n1)
  go_still_tail 7, (by kernel_rfl)
  still_call (word_still (HT.out.init.keeps0 ((Keeps.refl _ _).drew)) BI.out)
  repeat still_step
  still_call (word_still (HT.out.goal.keeps0 ((Keeps.refl _ _).drew)) BG.out)
  repeat still_step
  refine wpStill_nil ?_
  change wpList _ _ _ _ _ w1.drew
  have K2 := Lib.hid (K1.out.drew)
  have HT2 := Lib.hid (HT.out.keeps0 ((Keeps.refl _ _).drew))
  have HB2 := Lib.hid (HB.out.keeps0 ((Keeps.refl _ _).drew))
  generalize w1.drew = w2 at K2 HT2 HB2 ⊢
  clear d0 d1 d2 d3 hbx
  obtain ⟨d0, d1, d2, d3⟩ := HB2.out
  have hbx := HB2.out.lt
  obtain ⟨i0, hi0, hz0, hz1, hz2⟩ := info_parts Tryz.info_mask
  have HC := Lib.hid (HT2.out.ops.cell rfl)
  go_wp2_with fail
  obtain ⟨bb, hbb⟩ : ∃ bb, w2.heap.size = bb := ⟨_, rfl⟩
  have HS : Hid (WordsAt (w2.alloc (.cells #[.int .u32 ((wd t.init : Nat) : Int), .int .u32 ((wd t.goal : Nat) : Int), .slice none 0 0] 114)) bb bb (wd t.init) (wd t.goal) (.slice none 0 0) (wordsOf (t.ops.take 0)) ∧ Keeps (fun _ => False) w2 (w2.alloc (.cells #[.int .u32 ((wd t.init : Nat) : Int), .int .u32 ((wd t.goal : Nat) : Int), .slice none 0 0] 114))) :=
    ⟨⟨by rw [← hbb]; exact heap_alloc_new _ _, World.ownsRow_nil _ _ _ _, Nat.le_refl _, by simp [Value.ownBlock]⟩, (Keeps.refl _ _).alloc _⟩
  rw [hbb]
  have HBB := Lib.hid hbb
  clear hbb
  generalize (w2.alloc (.cells #[.int .u32 ((wd t.init : Nat) : Int), .int .u32 ((wd t.goal : Nat) : Int), .slice none 0 0] 114)) = w3 at HS ⊢
  go_loopw [17] (fun i wr => ∃ k : Nat, k ≤ t.ops.length ∧ i = .int .i64 (k : Int) ∧ (∃ v, WordsAt wr bb bb (wd t.init) (wd t.goal) v (wordsOf (t.ops.take k))) ∧ Keeps (fun _ => False) w2 wr) (fun i _ => t.ops.length - (intOf i).toNat)
  case atStart => exact ⟨0, Nat.zero_le _, rfl, ⟨_, HS.out.1⟩, HS.out.2⟩
  case round =>
    obtain ⟨k, hk, rfl, ⟨v, hw⟩, hkw⟩ := hrel
    have HW := Lib.hid hw; have KW := Lib.hid hkw
    clear hw hkw
    by_cases hlt : k < t.ops.length
    · obtain ⟨bo, oo, rfl, hcell⟩ := HC.out (by omega)
      obtain ⟨o, ho⟩ : ∃ o, t.ops[k]? = some o := ⟨_, List.getElem?_eq_getElem hlt⟩
      obtain ⟨va, vb, vc, p0, p1, p2, p3, i1, i2, i3⟩ := hcell k o ho
      have hom := OK.out.ops o (List.mem_of_getElem? ho)
      have U1 := Lib.hid (set_bound hom.pre OK.out.n1); have U2 := Lib.hid (set_bound hom.add OK.out.n1); have U3 := Lib.hid (set_bound hom.del OK.out.n1)
      have HTK := Lib.hid (take_getS ho)
      have q0 := KW.out.cell p0 (fun h => h)
      have q1 := KW.out.cell p1 (fun h => h)
      have q2 := KW.out.cell p2 (fun h => h)
      have q3 := KW.out.cell p3 (fun h => h)
      obtain ⟨a1, k1, f1, _⟩ := i1.form
      obtain ⟨a2, k2, f2, _⟩ := i2.form
      obtain ⟨a3, k3, f3, _⟩ := i3.form
      subst f1 f2 f3
      have K4 := (Keeps.refl (fun _ => False) wr).alloc (.cells #[.slice a1 o.pre.length k1, .slice a2 o.add.length k2, .slice a3 o.del.length k3, .int .i64 o.cost] 80)
      have HO4 := Four.new wr (.slice a1 o.pre.length k1) (.slice a2 o.add.length k2) (.slice a3 o.del.length k3) (.int .i64 o.cost) 80
      have I1 := Lib.hid (i1.keeps0 (KW.out.trans K4)); have I2 := Lib.hid (i2.keeps0 (KW.out.trans K4)); have I3 := Lib.hid (i3.keeps0 (KW.out.trans K4))
      clear hcell ho hom p0 p1 p2 p3 i1 i2 i3
      go_upto_region 5 with fail
      have KW4 := Lib.hid (KW.out.trans K4)
      have HO4' := Lib.hid HO4
      have HW4 := Lib.hid (HW.out.keeps0 K4)
      clear K4 HO4
      obtain ⟨b4, hb4⟩ : ∃ b4, wr.heap.size = b4 := ⟨_, rfl⟩
      rw [hb4] at HO4' ⊢
      have hv4 : v.ownBlock ≠ some b4 := fun e => by have := (World.ownsRow.lt HW.out.own b4 e).2; omega
      have hbb4 : b4 ≠ bb := by have := lt_of_heap HW.out.blk; omega
      have HNE := Lib.hid hbb4
      clear q0 q1 q2 q3 hb4 hbb4
      generalize (wr.alloc (.cells #[.slice a1 o.pre.length k1, .slice a2 o.add.length k2, .slice a3 o.del.length k3, .int .i64 o.cost] 80)) = w4 at KW4 HO4' HW4 I1 I2 I3 ⊢
      obtain ⟨c0, c1, c2, c3⟩ := HO4'.out
      have g2 : w4.cell? ⟨bb, 2, none⟩ = some v := by rw [cell_of_blk HW4.out.blk]; rfl
      have gz : w4.frozen? ⟨bb, 2, none⟩ = false := frozen_of_blk HW4.out.blk
      have gl := lt_of_heap HW4.out.blk
      have hg4 := HO4'.out.lt
      have hbb4 := HNE.out
      have J1 := Lib.hid (word_still (I1.out.keeps0 ((Keeps.refl _ _).drew)) U1.out)
      have J2 := Lib.hid (word_still (I2.out.keeps0 ((Keeps.refl _ _).drew)) U2.out)
      have J3 := Lib.hid (word_still (I3.out.keeps0 ((Keeps.refl _ _).drew)) U3.out)
      have hnb : (wordsOf (t.ops.take k)).length ≤ 40 := by unfold wordsOf; simp; have := OK.out.few; omega
      have hbase : bb ≤ w4.heap.size := by omega
      have e1 := World.new_ne w4 ⟨bb, 2, none⟩ g2
      refine wp_region_L (by kernel_rfl) (fun w' => w'.cell? ⟨bb, 2, none⟩ = some v ∧ w'.cell? ⟨b4, 0, none⟩ = some (.slice a1 o.pre.length k1) ∧ w'.cell? ⟨b4, 1, none⟩ = some (.slice a2 o.add.length k2) ∧ w'.cell? ⟨b4, 2, none⟩ = some (.slice a3 o.del.length k3) ∧ w'.cell? ⟨b4, 3, none⟩ = some (.int .i64 o.cost)) [0, 1, 2, 3, 4, 5, 6, 8, 9, 11, 12, 14, 15, 16] ?_
      have hS : w4.drew.cell? ⟨bb, 2, none⟩ = some v ∧ w4.drew.cell? ⟨b4, 0, none⟩ = some (.slice a1 o.pre.length k1) ∧ w4.drew.cell? ⟨b4, 1, none⟩ = some (.slice a2 o.add.length k2) ∧ w4.drew.cell? ⟨b4, 2, none⟩ = some (.slice a3 o.del.length k3) ∧ w4.drew.cell? ⟨b4, 3, none⟩ = some (.int .i64 o.cost) := ⟨g2, c0, c1, c2, c3⟩
      refine wpAnyL_take (i := 0) (v := ?_) rfl (by decide) (by kernel_rfl) (by kernel_rfl) (by kernel_rfl) (fun _ _ _ h => h) rfl ?_ hS ?_
      rotate_left
      · (intro w' hSw; obtain ⟨t0, t1, t2, t3, t4⟩ := hSw; go_simp; try with_reducible rfl)
      try simp only [Act.put, List.setIfInBounds_toArray]
      refine wpAnyL_take (i := 1) (v := ?_) rfl (by decide) (by kernel_rfl) (by kernel_rfl) (by kernel_rfl) (fun _ _ _ h => h) rfl ?_ hS ?_
      rotate_left
      · (intro w' hSw; obtain ⟨t0, t1, t2, t3, t4⟩ := hSw; go_simp; try with_reducible rfl)
      try simp only [Act.put]
      refine wpAnyL_take (i := 2) (v := ?_) rfl (by decide) (by kernel_rfl) (by kernel_rfl) (by kernel_rfl) (fun _ _ _ h => h) rfl ?_ hS ?_
      rotate_left
      · (intro w' hSw; obtain ⟨t0, t1, t2, t3, t4⟩ := hSw; go_simp; try with_reducible rfl)
      try simp only [Act.put]
      refine wpAnyL_take (i := 3) (v := ?_) rfl (by decide) (by kernel_rfl) (by kernel_rfl) (by kernel_rfl) (fun _ _ _ h => h) rfl ?_ hS ?_
      rotate_left
      · (intro w' hSw; obtain ⟨t0, t1, t2, t3, t4⟩ := hSw; go_simp; try with_reducible rfl)
      try simp only [Act.put]
      refine wpAnyL_take (i := 4) (v := ?_) rfl (by decide) (by kernel_rfl) (by kernel_rfl) (by kernel_rfl) (fun _ _ _ h => h) rfl ?_ hS ?_
      rotate_left
      · (intro w' hSw; obtain ⟨t0, t1, t2, t3, t4⟩ := hSw; go_simp; try with_reducible rfl)
      try simp only [Act.put]
      refine wpAnyL_take (i := 5) (v := ?_) rfl (by decide) (by kernel_rfl) (by kernel_rfl) (by kernel_rfl) (fun _ _ _ h => h) rfl ?_ hS ?_
      rotate_left
      · (intro w' hSw; obtain ⟨t0, t1, t2, t3, t4⟩ := hSw; go_simp; try with_reducible rfl)
      try simp only [Act.put]
      refine wpAnyL_take (i := 6) (v := ?_) rfl (by decide) (by kernel_rfl) (by kernel_rfl) (by kernel_rfl) (fun _ _ _ h => h) rfl ?_ hS ?_
      rotate_left
      · (intro w' hSw; obtain ⟨t0, t1, t2, t3, t4⟩ := hSw; go_simp; try with_reducible rfl)
      try simp only [Act.put]
      refine wpAnyL_take (i := 8) (v := ?_) rfl (by decide) (by kernel_rfl) (by kernel_rfl) (by kernel_rfl) (fun _ _ _ h => h) rfl ?_ hS ?_
      rotate_left
      · (intro w' hSw; obtain ⟨t0, t1, t2, t3, t4⟩ := hSw; go_simp; try with_reducible rfl)
      try simp only [Act.put]
      refine wpAnyL_take (i := 9) (v := ?_) rfl (by decide) (by kernel_rfl) (by kernel_rfl) (by kernel_rfl) (fun _ _ _ h => h) rfl ?_ hS ?_
      rotate_left
      · (intro w' hSw; obtain ⟨t0, t1, t2, t3, t4⟩ := hSw; go_simp; try with_reducible rfl)
      try simp only [Act.put]
      refine wpAnyL_take (i := 11) (v := ?_) rfl (by decide) (by kernel_rfl) (by kernel_rfl) (by kernel_rfl) (fun _ _ _ h => h) rfl ?_ hS ?_
      rotate_left
      · (intro w' hSw; obtain ⟨t0, t1, t2, t3, t4⟩ := hSw; go_simp; try with_reducible rfl)
      try simp only [Act.put]
      refine wpAnyL_take (i := 12) (v := ?_) rfl (by decide) (by kernel_rfl) (by kernel_rfl) (by kernel_rfl) (fun _ _ _ h => h) rfl ?_ hS ?_
      rotate_left
      · (intro w' hSw; obtain ⟨t0, t1, t2, t3, t4⟩ := hSw; go_simp; try with_reducible rfl)
      try simp only [Act.put]
      refine wpAnyL_take (i := 14) (v := ?_) rfl (by decide) (by kernel_rfl) (by kernel_rfl) (by kernel_rfl) (fun _ _ _ h => h) rfl ?_ hS ?_
      rotate_left
      · (intro w' hSw; obtain ⟨t0, t1, t2, t3, t4⟩ := hSw; go_simp; try with_reducible rfl)
      try simp only [Act.put]
      refine wpAnyL_take (i := 15) (v := ?_) rfl (by decide) (by kernel_rfl) (by kernel_rfl) (by kernel_rfl) (fun _ _ _ h => h) rfl ?_ hS ?_
      rotate_left
      · (intro w' hSw; obtain ⟨t0, t1, t2, t3, t4⟩ := hSw; go_simp; try with_reducible rfl)
      try simp only [Act.put]
      refine wpAnyL_one (i := 7) rfl (by kernel_rfl) (fun K hK => ?_)
      go_simp
      refine J1.out.mono ?_; rintro e w' ⟨rfl, rfl⟩
      refine hK _ _ hS ?_
      clear hK K
      try simp only [Act.put, List.setIfInBounds_toArray, List.set_cons_zero, List.set_cons_succ]
      refine wpAnyL_one (i := 10) rfl (by kernel_rfl) (fun K hK => ?_)
      go_simp
      refine J2.out.mono ?_; rintro e w' ⟨rfl, rfl⟩
      refine hK _ _ hS ?_
      clear hK K
      try simp only [Act.put, List.setIfInBounds_toArray, List.set_cons_zero, List.set_cons_succ]
      refine wpAnyL_one (i := 13) rfl (by kernel_rfl) (fun K hK => ?_)
      go_simp
      refine J3.out.mono ?_; rintro e w' ⟨rfl, rfl⟩
      refine hK _ _ hS ?_
      clear hK K
      try simp only [Act.put, List.setIfInBounds_toArray, List.set_cons_zero, List.set_cons_succ]
      refine wpAnyL_take (i := 16) (v := ?_) rfl (by decide) (by kernel_rfl) (by kernel_rfl) (by kernel_rfl) (fun _ _ _ h => h) rfl ?_ hS ?_
      rotate_left
      · (intro w' hSw; obtain ⟨t0, t1, t2, t3, t4⟩ := hSw; go_simp; try with_reducible rfl)
      try simp only [Act.put, List.setIfInBounds_toArray]
      refine wpAnyL_one (i := 17) rfl (by kernel_rfl) (fun K hK => ?_)
      go_simp
      refine hK _ _ ?_ ?_
      · obtain ⟨t0, t1, t2, t3, t4⟩ := hS
        have kk := (Keeps.refl (fun _ => False) w4.drew).alloc (.cells #[.int .u32 ((wd o.pre : Nat) : Int), .int .u32 ((wd o.add : Nat) : Int), .int .u32 ((wd o.del : Nat) : Int), .int .i64 o.cost] 157)
        exact ⟨kk.cell t0 (fun h => h), kk.cell t1 (fun h => h), kk.cell t2 (fun h => h), kk.cell t3 (fun h => h), kk.cell t4 (fun h => h)⟩
      clear hK K hS
      try simp only [Act.put, List.setIfInBounds_toArray, List.set_cons_zero, List.set_cons_succ]
      refine wpAnyL_one (i := 18) rfl (by kernel_rfl) (fun K hK => ?_)
      refine step_append_lies _ (by rfl) (.tmp 25) (.tmp 38) 112 (by rfl) bb 157 i0 _ 4 24 Tryz.underlying112 hi0 hz0 hz1 hz2 rfl (by omega) v (wordsOf (t.ops.take k)).length (wopCells (wordsOf (t.ops.take k))) (by rfl) ((HW4.out.own.drew).alloc _) ⟨w4.heap.size, 0, none⟩ 1 1 [.int .u32 ((wd o.pre : Nat) : Int), .int .u32 ((wd o.add : Nat) : Int), .int .u32 ((wd o.del : Nat) : Int), .int .i64 o.cost] (by rfl) (by rfl) (World.news_of_block (cs := #[.int .u32 ((wd o.pre : Nat) : Int), .int .u32 ((wd o.add : Nat) : Int), .int .u32 ((wd o.del : Nat) : Int), .int .i64 o.cost]) (t := 157) (fr := (0, 0)) (heap_alloc_new w4.drew _)) (by simp [Value.oneCell']) (by omega) (by unfold maxLen; omega) (by omega) (by simp; omega) (w4.heap.size + 1) (by simp) ?_
      intro g cap w5 hown hgrow hat hlt5
      have s0 := grown_cell (w4 := w4) hgrow g2 HW4.out.ne
      have s1 := grown_cell (w4 := w4) hgrow c0 hv4
      have s2 := grown_cell (w4 := w4) hgrow c1 hv4
      have s3 := grown_cell (w4 := w4) hgrow c2 hv4
      have s4 := grown_cell (w4 := w4) hgrow c3 hv4
      have sb := Lib.hid (grown_heap (w4 := w4) hgrow HW4.out.blk HW4.out.ne)
      have sz := frozen_of_blk (o := 2) sb.out
      have sl := lt_of_heap sb.out
      refine hK _ _ ⟨s0, s1, s2, s3, s4⟩ ?_
      clear hK K s1 s2 s3 s4
      try simp only [Act.put, List.setIfInBounds_toArray]
      refine wpAnyL_late (i := 19) rfl (by kernel_rfl) (by kernel_rfl) (fun K hK => ?_)
      go_simp
      refine hK _ _ ?_
      clear hK K
      refine wpAnyL_late (i := 20) rfl (by kernel_rfl) (by kernel_rfl) (fun K hK => ?_)
      go_simp
      refine hK _ _ ?_
      clear hK K
      refine wpAnyL_late (i := 21) rfl (by kernel_rfl) (by kernel_rfl) (fun K hK => ?_)
      go_simp
      refine hK _ _ ?_
      clear hK K
      refine wpAnyL_done (by kernel_rfl) ?_ _
      have HN := Lib.hid (show WordsAt (w5.setCell ⟨bb, 2, none⟩ (.slice (some ⟨g, 0, none⟩) ((wordsOf (t.ops.take k)).length + 1) cap)) bb bb (wd t.init) (wd t.goal) (.slice (some ⟨g, 0, none⟩) ((wordsOf (t.ops.take k)).length + 1) cap) (wordsOf (t.ops.take (k + 1))) by
        have e : wordsOf (t.ops.take (k + 1)) = wordsOf (t.ops.take k) ++ [o.word] := by rw [HTK.out]; unfold wordsOf; simp
        rw [e]
        exact WordsAt.push (w4 := w4) (p := o.word) HW4.out hgrow rfl hown hat)
      have HKN := Lib.hid (WordsAt.pushKeeps (w4 := w4) HW4.out hgrow HBB.out KW4.out (.slice (some ⟨g, 0, none⟩) ((wordsOf (t.ops.take k)).length + 1) cap))
      clear hown hgrow hat s0 sz sl
      generalize (w5.setCell ⟨bb, 2, none⟩ (.slice (some ⟨g, 0, none⟩) ((wordsOf (t.ops.take k)).length + 1) cap)) = w6 at HN HKN ⊢
      go_wp2_with fail
      go_roundw
      case rel => exact ⟨k + 1, by omega, by go_num, ⟨_, HN.out⟩, HKN.out⟩
      case measure => simp [intOf]; omega
    · obtain rfl : k = t.ops.length := by omega
      have hf := HW.out
      rw [List.take_length] at hf
      have HFIN := Lib.hid (show WordsAt wr w.heap.size bb (wd t.init) (wd t.goal) v (wordsOf t.ops) from ⟨hf.blk, ownsRow_mono4 hf.own (by have := K2.out.size; have := HBB.out; omega), by have := K2.out.size; have := HBB.out; omega, hf.ne⟩)
      clear hf
      go_wp2_with fail
      go_ret
      exact ⟨bb, v, rfl, HFIN.out, K2.out.trans KW.out⟩

end Go.Proofs.YtdokakhgflljgaaGreat

namespace Go.Proofs.YtdokakhgflljgaaGreat
open Go.RowKit

theorem Ints.keepsS {S : Nat → Prop} {w w' : World} {v : Value} {l : List Int} (h : Ints w v l) (hk : Keeps S w w') (hs : 0 < l.length → ∀ k, v.ownBlock = some k → ¬ S k) : Ints w' v l := by
  obtain ⟨ao, cap, hv, hm, h⟩ := h
  refine ⟨ao, cap, hv, hm, fun hn => ?_⟩
  obtain ⟨b, off, ha, hc⟩ := h hn
  exact ⟨b, off, ha, fun j x hj => hk.cell (hc j x hj) (hs hn b (by rw [hv, ha]; rfl))⟩
/-- The rows of ReachedFrom: the states and their words. -/
structure Rows (W : World) (base : Nat) (v vw : Value) (L : List Nat) (vs : List Value) : Prop where
  out : W.ownsRow base 22 1 v L.length vs
  words : W.ownsRow base 3 1 vw L.length (L.map fun x : Nat => Value.int .i64 (x : Int))
  st : ∀ (i : Nat) (x : Nat), L[i]? = some x → ∃ u, vs[i]? = some u ∧ Ints W u (facts x) ∧ (0 < (facts x).length → ∀ k, u.ownBlock = some k → v.ownBlock ≠ some k ∧ vw.ownBlock ≠ some k)

/-- A word is that of a set of facts below n. -/
def Good (n : Int) (x : Nat) : Prop := isSetB (facts x) n = true ∧ wd (facts x) = x

theorem good_wd {n : Int} (hn : n ≤ 32) {s : List Int} (hs : isSetB s n = true) : Good n (wd s) := by
  unfold Good
  rw [facts_wd (isSet_mono hs hn)]
  exact ⟨hs, rfl⟩
theorem good_next {n : Int} (hn : n ≤ 32) {o : Opr} (ho : o.Ok n) {x : Nat} (hx : Good n x) : appL o (facts x) = o.word.can x ∧ aftL n o (facts x) = facts (o.word.next x) ∧ Good n (o.word.next x) := by
  have h1 := appL_word ho hx.1
  have h2 := wd_aftL hn ho hx.1
  rw [hx.2] at h1 h2
  have h3 := isSet_aftL n o (facts x)
  refine ⟨h1, ?_, ?_⟩
  · rw [← h2, facts_wd (isSet_mono h3 hn)]
  · rw [← h2]; exact good_wd hn h3

end Go.Proofs.YtdokakhgflljgaaGreat

namespace Go.Proofs.YtdokakhgflljgaaGreat
open Go.RowKit Go.Shelf
attribute [local go_sem] Oper.semAt_some

structure Stp where
  op : Nat
  cost : Int
  to : Nat

def stepsFrom : Nat → List Wop → Nat → List Stp
  | _, [], _ => []
  | i, o :: r, s => if o.can s then ⟨i, o.cost, o.next s⟩ :: stepsFrom (i + 1) r s else stepsFrom (i + 1) r s
def wsteps (ops : List Wop) (s : Nat) : List Stp := stepsFrom 0 ops s

theorem stepsFrom_snoc (l : List Wop) (o : Wop) (s : Nat) : ∀ i, stepsFrom i (l ++ [o]) s = stepsFrom i l s ++ (if o.can s then [⟨i + l.length, o.cost, o.next s⟩] else []) := by
  induction l with
  | nil => intro i; simp only [List.nil_append, stepsFrom, List.length_nil, Nat.add_zero]
  | cons a r ih =>
    intro i
    rw [List.cons_append, stepsFrom, stepsFrom, ih]
    have : i + 1 + r.length = i + (a :: r).length := by simp; omega
    rw [this]
    split <;> simp

theorem wsteps_nexts (ops : List Wop) (s : Nat) : (wsteps ops s).map Stp.to = nexts ops s := by
  unfold wsteps nexts
  have : ∀ i, (stepsFrom i ops s).map Stp.to = (ops.filter fun o => o.can s).map fun o => o.next s := by
    induction ops with
    | nil => intro i; rfl
    | cons o r ih =>
      intro i
      rw [stepsFrom]
      cases h : o.can s
      · simp [h, ih]
      · simp [h, ih]
  exact this 0

theorem stepsFrom_mem {l : List Wop} {s : Nat} {x : Stp} : ∀ {i}, x ∈ stepsFrom i l s ↔ ∃ k o, l[k]? = some o ∧ o.can s = true ∧ x = ⟨i + k, o.cost, o.next s⟩ := by
  induction l with
  | nil => intro i; simp [stepsFrom]
  | cons a r ih =>
    intro i
    have hr : (∃ k o, r[k]? = some o ∧ o.can s = true ∧ x = ⟨i + 1 + k, o.cost, o.next s⟩) ↔ ∃ k o, (a :: r)[k + 1]? = some o ∧ o.can s = true ∧ x = ⟨i + (k + 1), o.cost, o.next s⟩ := by
      constructor
      · rintro ⟨k, o, h1, h2, h3⟩; exact ⟨k, o, by simpa using h1, h2, by rw [h3]; congr 1; omega⟩
      · rintro ⟨k, o, h1, h2, h3⟩; exact ⟨k, o, by simpa using h1, h2, by rw [h3]; congr 1; omega⟩
    rw [stepsFrom]
    by_cases h : a.can s = true
    · rw [if_pos h, List.mem_cons, ih, hr]
      constructor
      · rintro (rfl | ⟨k, o, h1, h2, h3⟩)
        · exact ⟨0, a, rfl, h, rfl⟩
        · exact ⟨k + 1, o, h1, h2, h3⟩
      · rintro ⟨k, o, h1, h2, h3⟩
        cases k with
        | zero => simp at h1; subst h1; exact .inl h3
        | succ k => exact .inr ⟨k, o, h1, h2, h3⟩
    · rw [if_neg h, ih, hr]
      constructor
      · rintro ⟨k, o, h1, h2, h3⟩; exact ⟨k + 1, o, h1, h2, h3⟩
      · rintro ⟨k, o, h1, h2, h3⟩
        cases k with
        | zero => simp at h1; subst h1; exact absurd h2 h
        | succ k => exact ⟨k, o, h1, h2, h3⟩

/-- All words of the operators fit 32 bits. -/
def WopsOk (ops : List Wop) : Prop := ∀ o ∈ ops, o.pre < 4294967296 ∧ o.add < 4294967296 ∧ o.del < 4294967296

theorem u32_andNot {a b : Nat} (ha : a < 4294967296) (hb : b < 4294967296) : bits .andNot .u32 (a : Int) (b : Int) = ((andN a b : Nat) : Int) := by
  have hB : ∀ (x y : BitVec 32), x.toNat = a → y.toNat = b → IntKind.u32.wrap ((x &&& ~~~y).toNat : Int) = ((andN a b : Nat) : Int) := by
    intro x y hx hy
    have hn : (~~~y).toNat = b ^^^ 4294967295 := by
      apply Nat.eq_of_testBit_eq
      intro i
      have h1 : (4294967295 : Nat).testBit i = decide (i < 32) := by rw [show (4294967295 : Nat) = 2 ^ 32 - 1 by decide, Nat.testBit_two_pow_sub_one]
      rw [Nat.testBit_xor, h1, ← hy, BitVec.testBit_toNat, BitVec.testBit_toNat, BitVec.getLsbD_not]
      by_cases hi : i < 32
      · simp [hi]
      · simp [hi, BitVec.getLsbD_of_ge y i (by omega)]
    rw [BitVec.toNat_and, hx, hn, IntKind.wrap_u32]
    unfold andN
    have : a &&& (b ^^^ 4294967295) ≤ a := Nat.and_le_left
    omega
  exact hB (BitVec.ofInt 32 (a : Int)) (BitVec.ofInt 32 (b : Int)) (by rw [BitVec.ofInt_natCast, BitVec.toNat_ofNat]; omega) (by rw [BitVec.ofInt_natCast, BitVec.toNat_ofNat]; omega)

theorem can_bits {s : Nat} {o : Wop} (hs : s < 4294967296) (ho : o.pre < 4294967296) : (bits .and .u32 (s : Int) (o.pre : Int) == (o.pre : Int)) = o.can s := by
  rw [(u32_bits hs ho).1]
  unfold Wop.can
  cases h : s &&& o.pre == o.pre with
  | true => rw [beq_iff_eq] at h ⊢; exact_mod_cast h
  | false => rw [beq_eq_false_iff_ne] at h ⊢; intro e; exact h (by exact_mod_cast e)

theorem next_bits {s : Nat} {o : Wop} (hs : s < 4294967296) (hd : o.del < 4294967296) (ha : o.add < 4294967296) : bits .or .u32 (bits .andNot .u32 (s : Int) (o.del : Int)) (o.add : Int) = ((o.next s : Nat) : Int) := by
  rw [u32_andNot hs hd]
  exact (u32_bits (andN_lt (m := 32) hs) ha).2

theorem next_lt {s : Nat} {o : Wop} (hs : s < 4294967296) (ha : o.add < 4294967296) : o.next s < 4294967296 := by
  unfold Wop.next
  exact Nat.or_lt_two_pow (n := 32) (andN_lt hs) ha

/-! ### the methods -/
theorem method_Start (a : Addr) (w : World) : (method 337 60 (.pointer (some a)) "Start").run Tryz.prog w = .ok (52, .pointer (some a)) w := by kernel_rfl
theorem method_Steps (a : Addr) (w : World) : (method 337 60 (.pointer (some a)) "Steps").run Tryz.prog w = .ok (71, .pointer (some a)) w := by kernel_rfl

theorem WordsAt.cells {w : World} {base b s g : Nat} {v : Value} {ops : List Wop} (h : WordsAt w base b s g v ops) : w.cell? ⟨b, 0, none⟩ = some (.int .u32 (s : Int)) ∧ w.cell? ⟨b, 1, none⟩ = some (.int .u32 (g : Int)) ∧ w.cell? ⟨b, 2, none⟩ = some v :=
  ⟨by rw [cell_of_blk h.blk]; rfl, by rw [cell_of_blk h.blk]; rfl, by rw [cell_of_blk h.blk]; rfl⟩

theorem start_any (w : World) (base b s g : Nat) (v : Value) (ops : List Wop) (h : WordsAt w base b s g v ops) :
    Calls Tryz.prog 52 #[.pointer (some ⟨b, 0, none⟩)] w fun e w' => e = .returned (.int .u32 (s : Int)) ∧ w = w' := by
  obtain ⟨c0, c1, c2⟩ := h.cells
  clear h
  go_enter Tryz.func52, Tryz.ntmps52
  go_wp2_with fail
  go_ret
  exact ⟨rfl, rfl⟩

theorem goal_any (w : World) (base b s g x : Nat) (v : Value) (ops : List Wop) (h : WordsAt w base b s g v ops) :
    Calls Tryz.prog 33 #[.pointer (some ⟨b, 0, none⟩), .int .u32 (x : Int)] w fun e w' => e = .returned (.bool (bits .and .u32 (x : Int) (g : Int) == (g : Int))) ∧ ∃ q, w' = w.drewN q := by
  obtain ⟨c0, c1, c2⟩ := h.cells
  clear h
  go_enter Tryz.func33, Tryz.ntmps33
  go_wp2_with fail
  go_quiet (fail)
  go_wp2_with fail
  go_ret
  exact ⟨rfl, nq, rfl⟩

theorem steps_any (w : World) (b : Nat) (x : Nat) :
    Calls Tryz.prog 71 #[.pointer (some ⟨b, 0, none⟩), .int .u32 (x : Int)] w fun e w' =>
      e = .returned (.func (.func 88) #[] #[.pointer (some ⟨w.heap.size, 0, none⟩), .pointer (some ⟨w.heap.size + 1, 0, none⟩)]) ∧ w' = (w.alloc (.cells #[.pointer (some ⟨b, 0, none⟩)] 60)).alloc (.cells #[.int .u32 (x : Int)] 66) := by
  go_enter Tryz.func71, Tryz.ntmps71
  go_wp2_with fail
  go_ret
  exact ⟨rfl, rfl⟩

/-! ### the iterator -/
/-- A step from the word s. -/
abbrev StpOf (ops : List Wop) (s : Nat) := { x : Stp // x ∈ wsteps ops s }
def Stp.val (x : Stp) : Value := .agg #[.int .i64 (x.op : Int), .int .i64 x.cost, .int .u32 (x.to : Int)]

theorem wopCells_get (ops : List Wop) (j : Nat) (o : Wop) (h : ops[j]? = some o) : (wopCells ops)[j * 4]? = some (.int .u32 (o.pre : Int)) ∧ (wopCells ops)[j * 4 + 1]? = some (.int .u32 (o.add : Int)) ∧ (wopCells ops)[j * 4 + 2]? = some (.int .u32 (o.del : Int)) ∧ (wopCells ops)[j * 4 + 3]? = some (.int .i64 o.cost) := by
  induction ops generalizing j with
  | nil => simp at h
  | cons a r ih =>
    have e : wopCells (a :: r) = [.int .u32 (a.pre : Int), .int .u32 (a.add : Int), .int .u32 (a.del : Int), .int .i64 a.cost] ++ wopCells r := by simp [wopCells]
    cases j with
    | zero => simp at h; subst h; simp [wopCells]
    | succ j =>
      simp at h
      obtain ⟨h0, h1, h2, h3⟩ := ih j h
      rw [e, show (j + 1) * 4 = 4 + j * 4 by omega]
      refine ⟨?_, ?_, ?_, ?_⟩
      · rw [List.getElem?_append_right (by simp)]; simpa using h0
      · rw [List.getElem?_append_right (by simp; omega), show 4 + j * 4 + 1 - [Value.int IntKind.u32 (a.pre : Int), Value.int IntKind.u32 (a.add : Int), Value.int IntKind.u32 (a.del : Int), Value.int IntKind.i64 a.cost].length = j * 4 + 1 by simp; omega]; exact h1
      · rw [List.getElem?_append_right (by simp; omega), show 4 + j * 4 + 2 - [Value.int IntKind.u32 (a.pre : Int), Value.int IntKind.u32 (a.add : Int), Value.int IntKind.u32 (a.del : Int), Value.int IntKind.i64 a.cost].length = j * 4 + 2 by simp; omega]; exact h2
      · rw [List.getElem?_append_right (by simp; omega), show 4 + j * 4 + 3 - [Value.int IntKind.u32 (a.pre : Int), Value.int IntKind.u32 (a.add : Int), Value.int IntKind.u32 (a.del : Int), Value.int IntKind.i64 a.cost].length = j * 4 + 3 by simp; omega]; exact h3

theorem WordsAt.opcell {w : World} {base b s g : Nat} {v : Value} {ops : List Wop} (h : WordsAt w base b s g v ops) {k : Nat} {o : Wop} (hk : ops[k]? = some o) :
    ∃ gg cap, v = .slice (some ⟨gg, 0, none⟩) ops.length cap ∧ gg < w.heap.size ∧ w.cell? ⟨gg, k * 4, none⟩ = some (.int .u32 (o.pre : Int)) ∧ w.cell? ⟨gg, k * 4 + 1, none⟩ = some (.int .u32 (o.add : Int)) ∧ w.cell? ⟨gg, k * 4 + 2, none⟩ = some (.int .u32 (o.del : Int)) ∧ w.cell? ⟨gg, k * 4 + 3, none⟩ = some (.int .i64 o.cost) := by
  have hl : k < ops.length := (List.getElem?_eq_some_iff.1 hk).1
  rcases h.own.2 with ⟨_, h0⟩ | ⟨gg, cap, cur, hv, hb, hg, hn, hm, hs, ht⟩
  · omega
  · obtain ⟨e0, e1, e2, e3⟩ := wopCells_get ops k o hk
    have get : ∀ j x, (wopCells ops)[j]? = some x → w.cell? ⟨gg, j, none⟩ = some x := by
      intro j x hx
      rw [cell_of_blk hg]
      rw [← ht, List.getElem?_take] at hx
      split at hx
      · simpa using hx
      · cases hx
    exact ⟨gg, cap, hv, lt_of_heap hg, get _ _ e0, get _ _ e1, get _ _ e2, get _ _ e3⟩

theorem WordsAt.len {w : World} {base b s g : Nat} {v : Value} {ops : List Wop} (h : WordsAt w base b s g v ops) : ∃ ao cap, v = .slice ao ops.length cap := by
  rcases h.own.2 with ⟨hv, h0⟩ | ⟨gg, cap, cur, hv, _⟩
  · exact ⟨none, 0, by rw [hv, h0]⟩
  · exact ⟨_, cap, hv⟩

theorem WordsAt.below {w w' : World} {base b s g n₀ : Nat} {v : Value} {ops : List Wop} (h : WordsAt w base b s g v ops) (hb : Below n₀ w w') (hn : w.heap.size ≤ n₀) : WordsAt w' base b s g v ops :=
  h.keeps0 (Keeps.ofBelow (hb.mono hn) _)

theorem stepsFrom_take {ops : List Wop} {s k : Nat} {o : Wop} (h : ops[k]? = some o) : stepsFrom 0 (ops.take (k + 1)) s = stepsFrom 0 (ops.take k) s ++ (if o.can s then [⟨k, o.cost, o.next s⟩] else []) := by
  have hl : k < ops.length := (List.getElem?_eq_some_iff.1 h).1
  rw [take_getS h, stepsFrom_snoc]
  simp only [List.length_take, Nat.zero_add]
  rw [Nat.min_eq_left (by omega)]

theorem stepsFrom_prefix (l r : List Wop) (s : Nat) : ∀ i, stepsFrom i l s <+: stepsFrom i (l ++ r) s := by
  induction l with
  | nil => intro i; exact List.nil_prefix
  | cons a l ih =>
    intro i
    rw [List.cons_append, stepsFrom, stepsFrom]
    split
    · exact (List.cons_prefix_cons).2 ⟨rfl, ih _⟩
    · exact ih _
theorem stepsTo_prefix (ops : List Wop) (s k : Nat) : stepsFrom 0 (ops.take k) s <+: wsteps ops s := by
  have := stepsFrom_prefix (ops.take k) (ops.drop k) s 0
  rwa [List.take_append_drop] at this

/-- What a round must keep: all that lay below n₀, and block B. -/
def KpS (n₀ B : Nat) (W W' : World) : Prop := Below n₀ W W' ∧ W'.heap[B]? = W.heap[B]?
theorem KpS.refl (n₀ B : Nat) (W : World) : KpS n₀ B W W := ⟨Below.refl _ _, rfl⟩
theorem KpS.trans {n₀ B : Nat} {X Y Z : World} (h : KpS n₀ B X Y) (k : KpS n₀ B Y Z) : KpS n₀ B X Z := ⟨h.1.trans k.1, k.2.trans h.2⟩
theorem KpS.alloc {n₀ B : Nat} {X Y : World} (h : KpS n₀ B X Y) (hn : n₀ ≤ Y.heap.size) (hB : B < Y.heap.size) (o : Obj) : KpS n₀ B X (Y.alloc o) := ⟨h.1.alloc hn o, (Below.heap_alloc Y o B hB).trans h.2⟩
theorem KpS.cell {n₀ B : Nat} {X Y : World} (h : KpS n₀ B X Y) {v : Value} (hc : X.cell? ⟨B, 0, none⟩ = some v) : Y.cell? ⟨B, 0, none⟩ = some v := (World.cell?_of_block h.2).trans hc
theorem KpS.ofKeeps {n₀ B : Nat} {S : Nat → Prop} {X Y : World} (h : Keeps S X Y) (hn : n₀ ≤ X.heap.size) (hs : ∀ k, k < n₀ → ¬ S k) (hB : B < X.heap.size) (hsB : ¬ S B) : KpS n₀ B X Y := ⟨h.toBelow hn hs, h.block B hB hsB⟩
theorem kpS_b {n₀ B : Nat} {w : World} (hn : n₀ ≤ w.heap.size) (hB : B < w.heap.size) (W : World) (l : Nat) (o o' : Obj) (hl : w.heap.size ≤ l) (h : W.heap[l]? = some o) (h1 : o.isCells = false) (h2 : o.isWalk = false) : KpS n₀ B W (W.putObj l o') :=
  ⟨belowK_b hn W l o o' hl h h1 h2, World.putObj_heap_other (by omega)⟩

set_option maxRecDepth 100000 in
set_option maxHeartbeats 2000000 in
theorem steps1_in (F : Fence) (n : Nat) (hF : F.fn 88) (hro : F.round = none) (hn : 1 ≤ n) (l Bw Bs n₀ base b st g s : Nat) (v : Value) (ops : List Wop) (hops : WopsOk ops) (hmany : ops.length ≤ 1000) (hs : s < 4294967296) (J Jx : List (StpOf ops s) → World → Prop)
    (hY : ∀ pre x W, J pre W → pre.length < (wsteps ops s).length → YieldAt F (n - 1) Tryz.prog l #[x.1.val] W fun e W' =>
      (e = .returned (.bool true) ∧ J (pre ++ [x]) W' ∧ KpS n₀ Bs W W') ∨ (e = .returned (.bool false) ∧ Jx (pre ++ [x]) W'))
    (W : World) (hJ : AbidesFrom W.heap.size J) (hn₀ : n₀ ≤ W.heap.size) (hBw : W.cell? ⟨Bw, 0, none⟩ = some (.pointer (some ⟨b, 0, none⟩))) (hBs : W.cell? ⟨Bs, 0, none⟩ = some (.int .u32 (s : Int))) (hls : Bs < W.heap.size) (hw : ∃ w0 : World, WordsAt w0 base b st g v ops ∧ w0.heap.size ≤ n₀ ∧ Below n₀ w0 W) (h0 : J [] W) :
    CallsIn F n Tryz.prog 88 #[.func (.yield l) #[] #[], .pointer (some ⟨Bw, 0, none⟩), .pointer (some ⟨Bs, 0, none⟩)] W fun e W' => (∃ v, e = .returned v) ∧
      ((∃ ys, ys.map Subtype.val = wsteps ops s ∧ J ys W') ∨ (∃ pre, pre.map Subtype.val <+: wsteps ops s ∧ Jx pre W')) := by
  obtain ⟨w0, hw0, hz0, hb0⟩ := hw
  have HW := Lib.hid hw0; have HB0 := Lib.hid hb0
  obtain ⟨c0, c1, c2⟩ := (hw0.below hb0 hz0).cells
  obtain ⟨ao, ca, hv⟩ := hw0.len
  have HLB := Lib.hid (lt_of_heap hw0.blk)
  subst hv
  clear hw0 hb0
  refine callsIn_of_wp Tryz.func88 rfl hF ?_ hro
  simp only [Tryz.ntmps88, List.size_toArray, List.length_cons, List.length_nil, Nat.reduceAdd, Nat.reduceSub, Array.replicate_succ, Array.replicate_zero, List.push_toArray, List.append_toArray, List.nil_append, List.cons_append]
  gi_wp2
  gi_loopw [11] (fun i wr => ∃ k : Nat, k ≤ ops.length ∧ i = .int .i64 (k : Int) ∧ (∃ pre : List (StpOf ops s), pre.map Subtype.val = stepsFrom 0 (ops.take k) s ∧ J pre wr) ∧ KpS n₀ Bs W wr) (fun i _ => ops.length - (intOf i).toNat)
  case atStart => exact ⟨0, Nat.zero_le _, rfl, ⟨[], rfl, h0⟩, KpS.refl _ _ _⟩
  case round =>
    obtain ⟨k, hk, rfl, ⟨pre, hpre, hJp⟩, hnx⟩ := hrel
    by_cases hlt : k < ops.length
    · obtain ⟨o, ho⟩ : ∃ o, ops[k]? = some o := ⟨_, List.getElem?_eq_getElem hlt⟩
      have hwr := HW.out.below (HB0.out.trans hnx.1) hz0
      obtain ⟨d0, d1, d2⟩ := hwr.cells
      obtain ⟨gg, cap, hv, hgl, p0, p1, p2, p3⟩ := hwr.opcell ho
      simp only [Value.slice.injEq] at hv
      obtain ⟨rfl, _, rfl⟩ := hv
      have q2 : wr.cell? ⟨Bs, 0, none⟩ = some (.int .u32 (s : Int)) := hnx.cell hBs
      have hn₀r : n₀ ≤ wr.heap.size := Nat.le_trans hn₀ hnx.1.size
      have hls' : Bs < wr.heap.size := Nat.lt_of_lt_of_le hls hnx.1.size
      obtain ⟨u1, u2, u3⟩ := hops o (List.mem_of_getElem? ho)
      have HTK := Lib.hid (stepsFrom_take (s := s) ho)
      have HPR := Lib.hid hpre
      have HNX := Lib.hid hnx
      cases hc : o.can s with
      | true =>
        have hb : (bits .and .u32 (s : Int) (o.pre : Int) == (o.pre : Int)) = true := by rw [can_bits hs u1, hc]
        have e1 := next_bits (o := o) hs u3 u2
        have hmem : (⟨k, o.cost, o.next s⟩ : Stp) ∈ wsteps ops s := stepsFrom_mem.2 ⟨k, o, ho, hc, by simp⟩
        have hJ' := hJ pre wr (wr.alloc (.cells #[.int .u32 (o.pre : Int), .int .u32 (o.add : Int), .int .u32 (o.del : Int), .int .i64 o.cost] 157)) none hJp (World.grownBy_alloc wr _ none) (fun r e => by cases e)
        have hlen : pre.length < (wsteps ops s).length := by
          have h1 := (stepsTo_prefix ops s (k + 1)).length_le
          rw [HTK.out, hc, if_pos rfl, List.length_append, ← HPR.out] at h1
          simp at h1; omega
        obtain ⟨sx, hsx⟩ : ∃ sx : StpOf ops s, sx.1 = ⟨k, o.cost, o.next s⟩ := ⟨⟨_, hmem⟩, rfl⟩
        obtain ⟨fn, tmps, assign, body, hy, hR⟩ := hY pre sx _ hJ' hlen
        rw [hsx] at hy
        simp only [Stp.val] at hy
        have HN : Hid ((pre ++ [sx]).map Subtype.val = stepsFrom 0 (ops.take (k + 1)) s) := by unfold Hid; rw [HTK.out, hc, if_pos rfl, List.map_append, HPR.out]; simp [hsx]
        have HSX := Lib.hid hsx
        have HC := Lib.hid hc
        have HR := Lib.hid hR
        clear hpre hnx hwr ho hc hmem hsx u1 u2 u3 hJ' hJp hlen hR
        gi_wp2
        refine HR.out.mono ?_
        rintro e W3 (⟨rfl, hJ3, hk3⟩ | ⟨rfl, hJx3⟩)
        · have HJ3 := Lib.hid hJ3
          have HN3 := Lib.hid ((HNX.out.alloc hn₀r hls' (.cells #[.int .u32 (o.pre : Int), .int .u32 (o.add : Int), .int .u32 (o.del : Int), .int .i64 o.cost] 157)).trans hk3)
          clear hJ3 hk3
          gi_wp2
          go_roundw
          case rel => exact ⟨k + 1, by omega, by go_num, ⟨_, HN.out, HJ3.out⟩, HN3.out⟩
          case measure => simp [intOf]; omega
        · have HJx3 := Lib.hid hJx3
          clear hJx3
          gi_wp2
          refine bodyPost_ret (results_none rfl _ _ _) rfl ?_
          exact ⟨⟨_, rfl⟩, .inr ⟨_, by rw [HN.out]; exact stepsTo_prefix ops s (k + 1), HJx3.out⟩⟩
      | false =>
        have hb : (bits .and .u32 (s : Int) (o.pre : Int) == (o.pre : Int)) = false := by rw [can_bits hs u1, hc]
        have HN : Hid (pre.map Subtype.val = stepsFrom 0 (ops.take (k + 1)) s) := by unfold Hid; rw [HTK.out, hc]; simpa using HPR.out
        have HJ' := Lib.hid (hJ pre wr (wr.alloc (.cells #[.int .u32 (o.pre : Int), .int .u32 (o.add : Int), .int .u32 (o.del : Int), .int .i64 o.cost] 157)) none hJp (World.grownBy_alloc wr _ none) (fun r e => by cases e))
        clear hpre hnx hwr ho hc u1 u2 u3 hJp
        gi_wp2
        refine ⟨fun _ h => (by cases h), ?_⟩
        gi_wp2
        go_roundw
        case rel => exact ⟨k + 1, by omega, by go_num, ⟨pre, HN.out, HJ'.out⟩, HNX.out.alloc hn₀r hls' _⟩
        case measure => simp [intOf]; omega
    · obtain rfl : k = ops.length := by omega
      rw [List.take_length] at hpre
      gi_wp2
      go_end0
      exact ⟨⟨_, rfl⟩, .inl ⟨pre, hpre, hJp⟩⟩

/-- What Steps hands back gives the steps, in their order; or the first of them. -/
theorem steps_stops (F : Fence) (n : Nat) (hF : F.fn 88) (hro : F.round = none) (hn : 1 ≤ n) (Bw Bs n₀ base b st g s : Nat) (v : Value) (ops : List Wop) (hops : WopsOk ops) (hmany : ops.length ≤ 1000) (hs : s < 4294967296)
    (w : World) (hn₀ : n₀ ≤ w.heap.size) (hBw : w.cell? ⟨Bw, 0, none⟩ = some (.pointer (some ⟨b, 0, none⟩))) (hBs : w.cell? ⟨Bs, 0, none⟩ = some (.int .u32 (s : Int))) (hlw : Bw < w.heap.size) (hls : Bs < w.heap.size) (hw : ∃ w0 : World, WordsAt w0 base b st g v ops ∧ w0.heap.size ≤ n₀ ∧ Below n₀ w0 w) :
    SeqStopsK F n Tryz.prog 88 #[.pointer (some ⟨Bw, 0, none⟩), .pointer (some ⟨Bs, 0, none⟩)] (fun x : StpOf ops s => #[x.1.val]) (KpS n₀ Bs) (fun ys => ys.map Subtype.val = wsteps ops s) (fun pre => pre.map Subtype.val <+: wsteps ops s) (wsteps ops s).length w := by
  intro l J Jx W hW hJ _ hY h0
  obtain ⟨w0, h1, h2, h3⟩ := hw
  have hlt : n₀ ≤ W.heap.size := Nat.le_trans hn₀ hW.size
  have := steps1_in F n hF hro hn l Bw Bs n₀ base b st g s v ops hops hmany hs J Jx hY W hJ hlt ((hW.cell (p := ⟨Bw, 0, none⟩) hlw).trans hBw) ((hW.cell (p := ⟨Bs, 0, none⟩) hls).trans hBs) (Nat.lt_of_lt_of_le hls hW.size) ⟨w0, h1, h2, h3.trans (hW.mono hn₀)⟩ h0
  exact this

end Go.Proofs.YtdokakhgflljgaaGreat

namespace Go.Proofs.YtdokakhgflljgaaGreat

/-! ### plans -/
/-- The word behind a list of operators, if all of them can be applied. -/
def runOps (ops : List Wop) : Nat → List Nat → Option Nat
  | x, [] => some x
  | x, o :: r => match ops[o]? with
    | none => none
    | some op => if op.can x = true then runOps ops (op.next x) r else none

theorem runOps_append (ops : List Wop) (p q : List Nat) : ∀ x, runOps ops x (p ++ q) = (runOps ops x p).bind fun y => runOps ops y q := by
  induction p with
  | nil => intro x; rfl
  | cons o r ih =>
    intro x
    rw [List.cons_append, runOps, runOps]
    cases ops[o]? with
    | none => rfl
    | some op =>
      simp only
      split
      · exact ih _
      · rfl

theorem runOps_snoc {ops : List Wop} {p : List Nat} {o x z : Nat} (h : runOps ops x (p ++ [o]) = some z) : ∃ y op, runOps ops x p = some y ∧ ops[o]? = some op ∧ op.can y = true ∧ z = op.next y := by
  rw [runOps_append] at h
  cases hp : runOps ops x p with
  | none => rw [hp] at h; cases h
  | some y =>
    rw [hp] at h
    simp only [Option.bind_some, runOps] at h
    cases ho : ops[o]? with
    | none => rw [ho] at h; cases h
    | some op =>
      rw [ho] at h; simp only at h
      split at h
      · rename_i hc; cases h; exact ⟨y, op, rfl, rfl, hc, rfl⟩
      · cases h

theorem runOps_snoc' {ops : List Wop} {p : List Nat} {o x y : Nat} {op : Wop} (h : runOps ops x p = some y) (ho : ops[o]? = some op) (hc : op.can y = true) : runOps ops x (p ++ [o]) = some (op.next y) := by
  rw [runOps_append, h]; simp [runOps, ho, hc]

/-! ### the order of plans: by length, then element by element -/
def lle : List Nat → List Nat → Prop
  | [], _ => True
  | _ :: _, [] => False
  | a :: p, b :: q => a < b ∨ (a = b ∧ lle p q)
def sle (p q : List Nat) : Prop := p.length < q.length ∨ (p.length = q.length ∧ lle p q)

theorem lle_refl : ∀ p, lle p p
  | [] => trivial
  | _ :: p => .inr ⟨rfl, lle_refl p⟩
theorem lle_trans : ∀ {p q r : List Nat}, lle p q → lle q r → lle p r
  | [], _, _, _, _ => trivial
  | _ :: _, [], _, h, _ => h.elim
  | _ :: _, _ :: _, [], _, h => h.elim
  | a :: p, b :: q, c :: r, h, k => by
    rcases h with h | ⟨h, h'⟩
    · rcases k with k | ⟨k, k'⟩
      · exact .inl (by omega)
      · exact .inl (by omega)
    · rcases k with k | ⟨k, k'⟩
      · exact .inl (by omega)
      · exact .inr ⟨by omega, lle_trans h' k'⟩
theorem lle_append : ∀ {p q : List Nat} (r s : List Nat), lle p q → p.length = q.length → p ≠ q → lle (p ++ r) (q ++ s)
  | [], [], _, _, _, _, h => absurd rfl h
  | [], _ :: _, _, _, _, h, _ => by cases h
  | _ :: _, [], _, _, h, _, _ => h.elim
  | a :: p, b :: q, r, s, h, hl, hne => by
    rcases h with h | ⟨h, h'⟩
    · exact .inl h
    · refine .inr ⟨h, lle_append r s h' (by simpa using hl) (fun e => hne (by rw [h, e]))⟩
theorem lle_same : ∀ (p : List Nat) {r s : List Nat}, lle r s → lle (p ++ r) (p ++ s)
  | [], _, _, h => h
  | _ :: p, _, _, h => .inr ⟨rfl, lle_same p h⟩

theorem sle_refl (p : List Nat) : sle p p := .inr ⟨rfl, lle_refl p⟩
theorem sle_nil (p : List Nat) : sle [] p := by
  cases p with
  | nil => exact sle_refl _
  | cons a p => exact .inl (by simp)
theorem sle_trans {p q r : List Nat} (h : sle p q) (k : sle q r) : sle p r := by
  rcases h with h | ⟨h, h'⟩
  · rcases k with k | ⟨k, k'⟩
    · exact .inl (by omega)
    · exact .inl (by omega)
  · rcases k with k | ⟨k, k'⟩
    · exact .inl (by omega)
    · exact .inr ⟨by omega, lle_trans h' k'⟩
theorem sle_snoc_ne {p q : List Nat} (a b : Nat) (h : sle p q) (hne : p ≠ q) : sle (p ++ [a]) (q ++ [b]) := by
  rcases h with h | ⟨h, h'⟩
  · exact .inl (by simp; omega)
  · exact .inr ⟨by simp; omega, lle_append _ _ h' h hne⟩
theorem sle_snoc_same (p : List Nat) {a b : Nat} (h : a ≤ b) : sle (p ++ [a]) (p ++ [b]) := by
  refine .inr ⟨by simp, lle_same p ?_⟩
  rcases Nat.lt_or_ge a b with h' | h'
  · exact .inl h'
  · exact .inr ⟨by omega, trivial⟩
theorem sle_snoc {p q : List Nat} (a : Nat) (h : sle p q) : sle (p ++ [a]) (q ++ [a]) := by
  by_cases e : p = q
  · rw [e]; exact sle_refl _
  · exact sle_snoc_ne a a h e

/-! ### the least plan -/
def Best (ops : List Wop) (s : Nat) (acc : Nat → Bool) : Option (List Nat) → Prop
  | some p => (∃ y, runOps ops s p = some y ∧ acc y = true) ∧ ∀ q y, runOps ops s q = some y → acc y = true → sle p q
  | none => ∀ q y, runOps ops s q = some y → acc y = false

/-! ### the tree -/
structure Ent where
  to : Nat
  frm : Nat
  op : Nat
  path : List Nat

def Ent.of (e : Ent) (x : Stp) : Ent := ⟨x.to, e.to, x.op, e.path ++ [x.op]⟩
def frs (e : Ent) : List Nat → List Stp → List Ent
  | _, [] => []
  | seen, x :: r => if x.to ∈ seen then frs e seen r else e.of x :: frs e (seen ++ [x.to]) r
def keysT (T : List Ent) : List Nat := T.map Ent.to

theorem frs_keys (e : Ent) (xs : List Stp) : ∀ seen, keysT (frs e seen xs) = freshs seen (xs.map Stp.to) := by
  induction xs with
  | nil => intro seen; rfl
  | cons x r ih =>
    intro seen
    rw [frs, List.map_cons, freshs]
    split
    · exact ih _
    · rw [← ih]; rfl

theorem frs_snoc (e : Ent) (xs : List Stp) (x : Stp) : ∀ seen, frs e seen (xs ++ [x]) = frs e seen xs ++ (if x.to ∈ seen ++ keysT (frs e seen xs) then [] else [e.of x]) := by
  induction xs with
  | nil =>
    intro seen
    rw [List.nil_append, frs]
    by_cases h : x.to ∈ seen <;> simp [h, frs, keysT]
  | cons y r ih =>
    intro seen
    rw [List.cons_append, frs, frs]
    by_cases h : y.to ∈ seen
    · rw [if_pos h, if_pos h, ih]
    · rw [if_neg h, if_neg h, ih]
      simp only [keysT, List.append_assoc, List.cons_append, List.nil_append, List.map_cons, Ent.of]

theorem mem_frs {e f : Ent} {xs : List Stp} : ∀ {seen}, f ∈ frs e seen xs → ∃ x ∈ xs, f = e.of x := by
  induction xs with
  | nil => intro seen h; cases h
  | cons x r ih =>
    intro seen h
    rw [frs] at h
    split at h
    · obtain ⟨y, h1, h2⟩ := ih h; exact ⟨y, by simp [h1], h2⟩
    · rcases List.mem_cons.1 h with rfl | h
      · exact ⟨x, by simp, rfl⟩
      · obtain ⟨y, h1, h2⟩ := ih h; exact ⟨y, by simp [h1], h2⟩

theorem frs_sorted {e : Ent} {xs : List Stp} (hs : xs.Pairwise fun a b => a.op < b.op) : ∀ seen, (frs e seen xs).Pairwise fun a b => sle a.path b.path := by
  induction xs with
  | nil => intro seen; exact List.Pairwise.nil
  | cons x r ih =>
    intro seen
    rw [List.pairwise_cons] at hs
    rw [frs]
    split
    · exact ih hs.2 _
    · rw [List.pairwise_cons]
      refine ⟨fun f hf => ?_, ih hs.2 _⟩
      obtain ⟨y, h1, rfl⟩ := mem_frs hf
      exact sle_snoc_same _ (by have := hs.1 y h1; omega)

theorem frs_first {e : Ent} {xs : List Stp} (hs : xs.Pairwise fun a b => a.op < b.op) : ∀ {seen} {x : Stp}, x ∈ xs → x.to ∈ seen ∨ ∃ f ∈ frs e seen xs, f.to = x.to ∧ ∃ o, o ≤ x.op ∧ f.path = e.path ++ [o] := by
  induction xs with
  | nil => intro seen x h; cases h
  | cons y r ih =>
    intro seen x h
    rw [List.pairwise_cons] at hs
    rw [frs]
    by_cases hy : y.to ∈ seen
    · rw [if_pos hy]
      rcases List.mem_cons.1 h with rfl | h
      · exact .inl hy
      · exact ih hs.2 h
    · rw [if_neg hy]
      rcases List.mem_cons.1 h with rfl | h
      · exact .inr ⟨e.of x, by simp, rfl, x.op, Nat.le_refl _, rfl⟩
      · rcases ih hs.2 (seen := seen ++ [y.to]) h with h1 | ⟨f, h1, h2, h3⟩
        · rcases List.mem_append.1 h1 with h1 | h1
          · exact .inl h1
          · simp at h1
            exact .inr ⟨e.of y, by simp, h1.symm, y.op, by have := hs.1 x h; omega, rfl⟩
        · exact .inr ⟨f, by simp [h1], h2, h3⟩

theorem wsteps_sorted (ops : List Wop) (s : Nat) : (wsteps ops s).Pairwise fun a b => a.op < b.op := by
  unfold wsteps
  have : ∀ i, (stepsFrom i ops s).Pairwise fun a b => a.op < b.op := by
    induction ops with
    | nil => intro i; exact List.Pairwise.nil
    | cons o r ih =>
      intro i
      rw [stepsFrom]
      split
      · rw [List.pairwise_cons]
        refine ⟨fun y hy => ?_, ih _⟩
        obtain ⟨k, o', _, _, rfl⟩ := stepsFrom_mem.1 hy
        show i < i + 1 + k
        omega
      · exact ih _
  exact this 0
theorem wsteps_mem {ops : List Wop} {s : Nat} {x : Stp} : x ∈ wsteps ops s ↔ ∃ o, ops[x.op]? = some o ∧ o.can s = true ∧ x.cost = o.cost ∧ x.to = o.next s := by
  unfold wsteps
  rw [stepsFrom_mem]
  constructor
  · rintro ⟨k, o, h1, h2, rfl⟩; exact ⟨o, by simpa using h1, h2, rfl, rfl⟩
  · rintro ⟨o, h1, h2, h3, h4⟩
    refine ⟨x.op, o, h1, h2, ?_⟩
    cases x; simp at *; exact ⟨h3, h4⟩

def tree (ops : List Wop) (s : Nat) : Nat → List Ent
  | 0 => [⟨s, s, 0, []⟩]
  | i + 1 => match (tree ops s i)[i]? with
    | none => tree ops s i
    | some e => tree ops s i ++ frs e (keysT (tree ops s i)) (wsteps ops e.to)

theorem tree_step {ops : List Wop} {s i : Nat} {e : Ent} (h : (tree ops s i)[i]? = some e) : tree ops s (i + 1) = tree ops s i ++ frs e (keysT (tree ops s i)) (wsteps ops e.to) := by
  rw [tree, h]

theorem tree_prefix (ops : List Wop) (s i : Nat) : ∀ k, tree ops s i <+: tree ops s (i + k)
  | 0 => List.prefix_refl _
  | k + 1 => by
    refine (tree_prefix ops s i k).trans ?_
    rw [← Nat.add_assoc, tree]
    split
    · exact List.prefix_refl _
    · exact List.prefix_append _ _

structure TreeOk (ops : List Wop) (s i : Nat) (T : List Ent) : Prop where
  nodup : (keysT T).Nodup
  head : T[0]? = some ⟨s, s, 0, []⟩
  run : ∀ e ∈ T, runOps ops s e.path = some e.to
  sorted : T.Pairwise fun a b => sle a.path b.path
  parent : ∀ (j : Nat) e, T[j]? = some e → 0 < j → ∃ (k : Nat) (f : Ent), k < j ∧ k < i ∧ T[k]? = some f ∧ e.frm = f.to ∧ e.path = f.path ++ [e.op] ∧ e.op < ops.length
  closed : ∀ (j : Nat) e, j < i → T[j]? = some e → ∀ x ∈ wsteps ops e.to, ∃ f ∈ T, f.to = x.to ∧ sle f.path (e.path ++ [x.op])
  reach : ∀ e ∈ T, Reach ops s e.to

theorem TreeOk.same {ops : List Wop} {s i : Nat} {T : List Ent} (h : TreeOk ops s i T) {e f : Ent} (he : e ∈ T) (hf : f ∈ T) (hef : e.path = f.path) : e.to = f.to := by
  have h1 := h.run e he
  have h2 := h.run f hf
  rw [hef, h2] at h1
  exact (Option.some.inj h1).symm

theorem pair_of {T : List Ent} {R : Ent → Ent → Prop} (h : T.Pairwise R) {j k : Nat} {e f : Ent} (hjk : j < k) (he : T[j]? = some e) (hf : T[k]? = some f) : R e f := by
  obtain ⟨h1, rfl⟩ := List.getElem?_eq_some_iff.1 he
  obtain ⟨h2, rfl⟩ := List.getElem?_eq_some_iff.1 hf
  exact List.pairwise_iff_getElem.1 h j k h1 h2 hjk

theorem TreeOk.inj {ops : List Wop} {s i : Nat} {T : List Ent} (h : TreeOk ops s i T) {j k : Nat} {e f : Ent} (he : T[j]? = some e) (hf : T[k]? = some f) (hef : e.to = f.to) : j = k := by
  have h1 : (keysT T)[j]? = some e.to := by unfold keysT; rw [List.getElem?_map, he]; rfl
  have h2 : (keysT T)[k]? = some f.to := by unfold keysT; rw [List.getElem?_map, hf]; rfl
  obtain ⟨l1, g1⟩ := List.getElem?_eq_some_iff.1 h1
  obtain ⟨l2, g2⟩ := List.getElem?_eq_some_iff.1 h2
  exact (List.getElem_inj h.nodup).1 (by rw [g1, g2, hef])

/-- What lies in the tree is no greater than what the entry at i adds. -/
theorem TreeOk.under {ops : List Wop} {s i : Nat} {T : List Ent} (h : TreeOk ops s i T) {e : Ent} (he : T[i]? = some e) {f : Ent} (hf : f ∈ T) (o : Nat) : sle f.path (e.path ++ [o]) := by
  obtain ⟨j, hj⟩ := List.mem_iff_getElem?.1 hf
  rcases Nat.eq_zero_or_pos j with rfl | hpos
  · rw [h.head] at hj; cases hj; exact sle_nil _
  · obtain ⟨k, g, hk, hki, hg, _, hp, _⟩ := h.parent j f hj hpos
    rw [hp]
    refine sle_snoc_ne _ _ (pair_of h.sorted hki hg he) (fun e' => ?_)
    have := h.inj hg he (h.same (List.mem_of_getElem? hg) (List.mem_of_getElem? he) e')
    omega

theorem tree_ok (ops : List Wop) (s : Nat) : ∀ i, TreeOk ops s i (tree ops s i)
  | 0 => by
    refine ⟨by simp [tree, keysT], rfl, fun e he => ?_, by simp [tree], fun j e hj h0 => ?_, fun j e hj => by omega, fun e he => ?_⟩
    · simp [tree] at he; subst he; rfl
    · cases j with
      | zero => omega
      | succ j => simp [tree] at hj
    · simp [tree] at he; subst he; exact .refl
  | i + 1 => by
    have ok := tree_ok ops s i
    rw [tree]
    cases hx : (tree ops s i)[i]? with
    | none =>
      refine ⟨ok.nodup, ok.head, ok.run, ok.sorted, fun j e hj h0 => ?_, fun j e hj he => ?_, ok.reach⟩
      · obtain ⟨k, f, h1, h2, h3⟩ := ok.parent j e hj h0
        exact ⟨k, f, h1, by omega, h3⟩
      · have he' : (tree ops s i)[j]? = some e := he
        have h1 := (List.getElem?_eq_some_iff.1 he').1
        have h2 := List.getElem?_eq_none_iff.1 hx
        exact ok.closed j e (by omega) he'
    | some e =>
      simp only
      have hil : i < (tree ops s i).length := (List.getElem?_eq_some_iff.1 hx).1
      have hem := List.mem_of_getElem? hx
      generalize hT : tree ops s i = T at *
      refine ⟨?_, ?_, fun f hf => ?_, ?_, fun j f hj h0 => ?_, fun j f hj hf x hxm => ?_, fun f hf => ?_⟩
      · have : keysT (T ++ frs e (keysT T) (wsteps ops e.to)) = keysT T ++ freshs (keysT T) ((wsteps ops e.to).map Stp.to) := by rw [← frs_keys e]; simp [keysT]
        rw [this]
        exact nodup_freshs ok.nodup
      · rw [List.getElem?_append_left (by omega)]; exact ok.head
      · rcases List.mem_append.1 hf with hf | hf
        · exact ok.run f hf
        · obtain ⟨x, h1, rfl⟩ := mem_frs hf
          obtain ⟨o, k1, k2, k3, k4⟩ := wsteps_mem.1 h1
          show runOps ops s (e.path ++ [x.op]) = some x.to
          rw [k4]
          exact runOps_snoc' (ok.run e hem) k1 k2
      · rw [List.pairwise_append]
        refine ⟨ok.sorted, frs_sorted (wsteps_sorted _ _) _, fun f hf g hg => ?_⟩
        obtain ⟨x, h1, rfl⟩ := mem_frs hg
        exact ok.under hx hf x.op
      · by_cases hjl : j < T.length
        · rw [List.getElem?_append_left hjl] at hj
          obtain ⟨k, g, h1, h2, h3, h4⟩ := ok.parent j f hj h0
          exact ⟨k, g, h1, by omega, by rw [List.getElem?_append_left (by have := (List.getElem?_eq_some_iff.1 h3).1; omega)]; exact h3, h4⟩
        · rw [List.getElem?_append_right (by omega)] at hj
          obtain ⟨x, h1, rfl⟩ := mem_frs (List.mem_of_getElem? hj)
          obtain ⟨o, k1, _⟩ := wsteps_mem.1 h1
          exact ⟨i, e, by omega, by omega, by rw [List.getElem?_append_left hil]; exact hx, rfl, rfl, (List.getElem?_eq_some_iff.1 k1).1⟩
      · by_cases hji : j < i
        · rw [List.getElem?_append_left (by omega)] at hf
          obtain ⟨g, h1, h2⟩ := ok.closed j f hji hf x hxm
          exact ⟨g, List.mem_append_left _ h1, h2⟩
        · have : j = i := by omega
          subst this
          rw [List.getElem?_append_left hil, hx] at hf
          cases hf
          rcases frs_first (e := e) (wsteps_sorted ops e.to) (seen := keysT T) hxm with h1 | ⟨g, h1, h2, o, h3, h4⟩
          · unfold keysT at h1
            obtain ⟨g, h2, h3⟩ := List.mem_map.1 h1
            exact ⟨g, List.mem_append_left _ h2, h3, ok.under hx h2 x.op⟩
          · refine ⟨g, List.mem_append_right _ h1, h2, ?_⟩
            rw [h4]
            exact sle_snoc_same _ h3
      · rcases List.mem_append.1 hf with hf | hf
        · exact ok.reach f hf
        · obtain ⟨x, h1, rfl⟩ := mem_frs hf
          refine .step (ok.reach e hem) ?_
          rw [← wsteps_nexts]
          exact List.mem_map.2 ⟨x, h1, rfl⟩

/-- Where all has been taken, all that can be reached lies in the tree. -/
theorem TreeOk.least {ops : List Wop} {s i : Nat} {T : List Ent} (h : TreeOk ops s i T) (hi : T.length ≤ i) (q : List Nat) : ∀ y, runOps ops s q = some y → ∃ f ∈ T, f.to = y ∧ sle f.path q := by
  suffices H : ∀ n (q : List Nat), q.length = n → ∀ y, runOps ops s q = some y → ∃ f ∈ T, f.to = y ∧ sle f.path q from H _ q rfl
  intro n
  induction n with
  | zero =>
    intro q hq y hy
    have : q = [] := List.length_eq_zero_iff.1 hq
    subst this
    simp [runOps] at hy
    subst hy
    exact ⟨_, List.mem_of_getElem? h.head, rfl, sle_refl _⟩
  | succ n ih =>
    intro q hq z hz
    have hne : q ≠ [] := by intro e; subst e; cases hq
    obtain ⟨p, o, rfl⟩ : ∃ p o, q = p ++ [o] := ⟨q.dropLast, q.getLast hne, (List.dropLast_concat_getLast hne).symm⟩
    obtain ⟨y, op, h1, h2, h3, rfl⟩ := runOps_snoc hz
    obtain ⟨f, hf, rfl, hp⟩ := ih p (by simpa using hq) y h1
    obtain ⟨j, hj⟩ := List.mem_iff_getElem?.1 hf
    have hjl := (List.getElem?_eq_some_iff.1 hj).1
    obtain ⟨g, k1, k2, k3⟩ := h.closed j f (by omega) hj ⟨o, op.cost, op.next f.to⟩ (wsteps_mem.2 ⟨op, h2, h3, rfl, rfl⟩)
    exact ⟨g, k1, k2, sle_trans k3 (sle_snoc _ hp)⟩

theorem tree_few {ops : List Wop} {s : Nat} {l : List Nat} (h : reached ops s = some l) (i : Nat) : (tree ops s i).length ≤ l.length := by
  have ok := tree_ok ops s i
  have := nodup_sub_length ok.nodup (b := l) (fun x hx => by
    unfold keysT at hx
    obtain ⟨e, he, rfl⟩ := List.mem_map.1 hx
    exact ((reached_some h).2.2.2 e.to).2 (ok.reach e he))
  unfold keysT at this
  rwa [List.length_map] at this

/-- The first accepted entry. -/
theorem tree_found {ops : List Wop} {s i : Nat} {l : List Nat} (h : reached ops s = some l) {acc : Nat → Bool} {e : Ent} (he : (tree ops s i)[i]? = some e) (ha : acc e.to = true)
    (hb : ∀ (j : Nat) f, j < i → (tree ops s i)[j]? = some f → acc f.to = false) : Best ops s acc (some e.path) := by
  refine ⟨⟨e.to, (tree_ok ops s i).run e (List.mem_of_getElem? he), ha⟩, fun q y hq hy => ?_⟩
  have hl := (List.getElem?_eq_some_iff.1 he).1
  have hle := tree_few h i
  have hle2 := tree_few h (i + l.length)
  have ok := tree_ok ops s (i + l.length)
  obtain ⟨f, hf, rfl, hp⟩ := ok.least (by omega) q y hq
  obtain ⟨j, hj⟩ := List.mem_iff_getElem?.1 hf
  obtain ⟨r, hr⟩ := tree_prefix ops s i l.length
  have get : ∀ k, k < (tree ops s i).length → (tree ops s (i + l.length))[k]? = (tree ops s i)[k]? := by
    intro k hk
    rw [← hr, List.getElem?_append_left hk]
  rcases Nat.lt_trichotomy j i with h1 | h1 | h1
  · have := hb j f h1 (by rw [← get j (by omega)]; exact hj)
    rw [this] at hy; cases hy
  · subst h1
    rw [get j hl, he] at hj
    cases hj; exact hp
  · exact sle_trans (pair_of ok.sorted h1 (by rw [get i hl]; exact he) hj) hp

theorem tree_none {ops : List Wop} {s i : Nat} {acc : Nat → Bool} (hi : (tree ops s i).length ≤ i) (hb : ∀ f ∈ tree ops s i, acc f.to = false) : Best ops s acc none := by
  intro q y hq
  obtain ⟨f, hf, rfl, _⟩ := (tree_ok ops s i).least hi q y hq
  exact hb f hf

end Go.Proofs.YtdokakhgflljgaaGreat

namespace Go.Proofs.YtdokakhgflljgaaGreat

structure Arc where
  frm : Nat
  to : Nat
  op : Nat
  cost : Int

theorem nodup_ix {L : List Nat} (h : L.Nodup) {i j x : Nat} (hi : L[i]? = some x) (hj : L[j]? = some x) : i = j := by
  obtain ⟨l1, g1⟩ := List.getElem?_eq_some_iff.1 hi
  obtain ⟨l2, g2⟩ := List.getElem?_eq_some_iff.1 hj
  exact (List.getElem_inj h).1 (by rw [g1, g2])

/-! ### the arcs -/
def hits (L : List Nat) (i j : Nat) (c : Int) (y : Nat) : Nat → List Arc
  | 0 => []
  | k + 1 => hits L i j c y k ++ (if L[k]? = some y then [⟨i, k, j, c⟩] else [])
def opArcs (ops : List Wop) (L : List Nat) (i x : Nat) : Nat → List Arc
  | 0 => []
  | j + 1 => opArcs ops L i x j ++ (match ops[j]? with
    | some o => if o.can x = true then hits L i j o.cost (o.next x) L.length else []
    | none => [])
def arcsTo (ops : List Wop) (L : List Nat) : Nat → List Arc
  | 0 => []
  | i + 1 => arcsTo ops L i ++ (match L[i]? with
    | some x => opArcs ops L i x ops.length
    | none => [])
def arcs (ops : List Wop) (L : List Nat) : List Arc := arcsTo ops L L.length

theorem mem_hits {L : List Nat} {i j : Nat} {c : Int} {y : Nat} {a : Arc} : ∀ {k}, a ∈ hits L i j c y k ↔ a.frm = i ∧ a.op = j ∧ a.cost = c ∧ a.to < k ∧ L[a.to]? = some y
  | 0 => by simp [hits]
  | k + 1 => by
    rw [hits, List.mem_append, mem_hits]
    constructor
    · rintro (⟨h1, h2, h3, h4, h5⟩ | h)
      · exact ⟨h1, h2, h3, by omega, h5⟩
      · split at h
        · simp at h; subst h; exact ⟨rfl, rfl, rfl, by simp, by assumption⟩
        · cases h
    · rintro ⟨h1, h2, h3, h4, h5⟩
      by_cases hk : a.to = k
      · right
        rw [hk] at h5
        rw [if_pos h5]
        cases a; simp at *; exact ⟨h1, hk, h2, h3⟩
      · exact .inl ⟨h1, h2, h3, by omega, h5⟩
theorem mem_opArcs {ops : List Wop} {L : List Nat} {i x : Nat} {a : Arc} : ∀ {j}, a ∈ opArcs ops L i x j ↔ a.frm = i ∧ a.op < j ∧ ∃ o, ops[a.op]? = some o ∧ o.can x = true ∧ a.cost = o.cost ∧ L[a.to]? = some (o.next x)
  | 0 => by simp [opArcs]
  | j + 1 => by
    rw [opArcs, List.mem_append, mem_opArcs]
    constructor
    · rintro (⟨h1, h2, h3⟩ | h)
      · exact ⟨h1, by omega, h3⟩
      · cases ho : ops[j]? with
        | none => rw [ho] at h; cases h
        | some o =>
          rw [ho] at h; simp only at h
          split at h
          · rename_i hc
            obtain ⟨h1, h2, h3, h4, h5⟩ := mem_hits.1 h
            exact ⟨h1, by omega, o, by rw [h2]; exact ho, hc, h3, h5⟩
          · cases h
    · rintro ⟨h1, h2, o, h3, h4, h5, h6⟩
      by_cases hj : a.op = j
      · right
        rw [← hj, h3]; simp only
        rw [if_pos h4]
        exact mem_hits.2 ⟨h1, rfl, h5, (List.getElem?_eq_some_iff.1 h6).1, h6⟩
      · exact .inl ⟨h1, by omega, o, h3, h4, h5, h6⟩
theorem mem_arcsTo {ops : List Wop} {L : List Nat} {a : Arc} : ∀ {i}, a ∈ arcsTo ops L i ↔ a.frm < i ∧ ∃ x o, L[a.frm]? = some x ∧ ops[a.op]? = some o ∧ o.can x = true ∧ a.cost = o.cost ∧ L[a.to]? = some (o.next x)
  | 0 => by simp [arcsTo]
  | i + 1 => by
    rw [arcsTo, List.mem_append, mem_arcsTo]
    constructor
    · rintro (⟨h1, h2⟩ | h)
      · exact ⟨by omega, h2⟩
      · cases hx : L[i]? with
        | none => rw [hx] at h; cases h
        | some x =>
          rw [hx] at h; simp only at h
          obtain ⟨h1, h2, o, h3⟩ := mem_opArcs.1 h
          exact ⟨by omega, x, o, by rw [h1]; exact hx, h3⟩
    · rintro ⟨h1, x, o, h2, h3, h4⟩
      by_cases hi : a.frm = i
      · right
        rw [← hi, h2]; simp only
        exact mem_opArcs.2 ⟨rfl, (List.getElem?_eq_some_iff.1 h3).1, o, h3, h4⟩
      · exact .inl ⟨by omega, x, o, h2, h3, h4⟩
theorem mem_arcs {ops : List Wop} {L : List Nat} {a : Arc} : a ∈ arcs ops L ↔ ∃ x o, L[a.frm]? = some x ∧ ops[a.op]? = some o ∧ o.can x = true ∧ a.cost = o.cost ∧ L[a.to]? = some (o.next x) := by
  unfold arcs
  rw [mem_arcsTo]
  constructor
  · rintro ⟨_, h⟩; exact h
  · rintro ⟨x, o, h1, h2⟩; exact ⟨(List.getElem?_eq_some_iff.1 h1).1, x, o, h1, h2⟩
/-! ### the steps to go -/
/-- The number of known entries. -/
def known (d : List Int) : Nat := (d.filter fun x => decide (0 ≤ x)).length
theorem getElem?_setS {α : Type} (d : List α) (i j : Nat) (z : α) : (d.set i z)[j]? = if i = j ∧ i < d.length then some z else d[j]? := by
  rw [List.getElem?_set]
  by_cases h : i = j
  · subst h
    by_cases hl : i < d.length
    · simp [hl]
    · simp [hl]
  · simp [h]

/-! ### the greedy way down -/
/-- The list is closed under the steps. -/
def Shut (ops : List Wop) (L : List Nat) : Prop := L.Nodup ∧ ∀ x ∈ L, ∀ o ∈ ops, o.can x = true → o.next x ∈ L

theorem shut_reached {ops : List Wop} {s : Nat} {L : List Nat} (h : reached ops s = some L) : Shut ops L := by
  obtain ⟨h1, _, _, h4⟩ := reached_some h
  refine ⟨h1, fun x hx o ho hc => (h4 _).2 (.step ((h4 x).1 hx) ?_)⟩
  unfold nexts
  exact List.mem_map.2 ⟨o, List.mem_filter.2 ⟨ho, hc⟩, rfl⟩

end Go.Proofs.YtdokakhgflljgaaGreat

namespace Go.Proofs.YtdokakhgflljgaaGreat
open Go.ChangeShapes Go.WideShapes Go.ChangeAt Go.RowKit Go.Deep

section
variable {H : Type} {enc : TypeId × Value → H} {P : Program} {w : World} {base : Nat} {spare : Nat → Bool} {held : Bool}
theorem trodAll_threeR {t0 t1 t2 : TypeId} {args : Array Value} {ds : List (DataW H)} {ps : List MemPlace} (h : DataW.TrodAll enc P w base spare held [t0, t1, t2] args.toList ds ps) :
    ∃ v0 v1 v2 d0 d1 d2 p0 p1 p2, args = #[v0, v1, v2] ∧ ds = [d0, d1, d2] ∧ ps = p0 ++ (p1 ++ p2) ∧ DataW.Trod enc P w base spare held t0 v0 d0 p0 ∧ DataW.Trod enc P w base spare held t1 v1 d1 p1 ∧ DataW.Trod enc P w base spare held t2 v2 d2 p2 := by
  obtain ⟨v0, vs, d0, ds0, p0, q0, hargs, rfl, rfl, h0, hrest⟩ := trodAll_cons h
  obtain ⟨v1, vs1, d1, ds1, p1, q1, rfl, rfl, rfl, h1, hrest⟩ := trodAll_cons hrest
  obtain ⟨v2, vs2, d2, ds2, p2, q2, rfl, rfl, rfl, h2, hrest⟩ := trodAll_cons hrest
  obtain ⟨rfl, rfl, rfl⟩ := trodAll_nil hrest
  exact ⟨v0, v1, v2, d0, d1, d2, p0, p1, p2, by cases args; simp_all, rfl, by simp, h0, h1, h2⟩
end

end Go.Proofs.YtdokakhgflljgaaGreat

namespace Go.Proofs.YtdokakhgflljgaaGreat
open Go.RowKit

def part (ops : List Wop) (L : List Nat) (p x j : Nat) : List Arc := arcsTo ops L p ++ opArcs ops L p x j
end Go.Proofs.YtdokakhgflljgaaGreat

namespace Go.Proofs.YtdokakhgflljgaaGreat
open Go.RowKit

theorem Sl.formN {w : World} {v : Value} {n : Nat} {cs : List Value} (h : Sl w v n cs) : ∃ ao cap, v = .slice ao n cap ∧ n ≤ 9223372036854775807 := by
  obtain ⟨ao, cap, hv, hm, _⟩ := h
  unfold maxLen at hm
  exact ⟨ao, cap, hv, by omega⟩
theorem Sl.cellN {w : World} {v : Value} {n m cap : Nat} {cs : List Value} {ao : Option Addr} (h : Sl w v n cs) (hv : v = .slice ao m cap) (hn : 0 < n) : ∃ b off, ao = some ⟨b, off, none⟩ ∧ ∀ j x, cs[j]? = some x → w.cell? ⟨b, off + j, none⟩ = some x := by
  obtain ⟨ao', cap', hv', hm, hc⟩ := h
  rw [hv'] at hv
  simp only [Value.slice.injEq] at hv
  obtain ⟨rfl, _, rfl⟩ := hv
  exact hc hn
end Go.Proofs.YtdokakhgflljgaaGreat
