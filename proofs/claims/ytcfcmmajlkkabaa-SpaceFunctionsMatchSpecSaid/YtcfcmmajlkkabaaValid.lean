/- strips.Validate. -/
import Derived.Test.YtcfcmmajlkkabaaTaskW
namespace Go.Proofs.Ytcfcmmajlkkabaa
open Go.RowKit

theorem opsFault_get {n i : Int} {l : List Opr} {k : Nat} {o : Opr} (h : l[k]? = some o) : opsFault n i (l.drop k) = if opCode o n = 0 then opsFault n (i + 1) (l.drop (k + 1)) else (opCode o n, i) := by
  obtain ⟨h1, h2⟩ := List.getElem?_eq_some_iff.1 h
  rw [List.drop_eq_getElem_cons h1, h2, opsFault]

/-- What a function that keeps its fault in a block of its own knows of that block. -/
structure Flt (w w1 : World) (F : Nat) (T : TypeId) : Prop where
  blk : w1.heap[F]? = some (.cells #[.int .i64 0, .int .i64 0] T (0, 0))
  base : w.heap.size ≤ F
  keep : Keeps (fun _ => False) w w1
theorem Flt.keeps0 {w w1 w2 : World} {F : Nat} {T : TypeId} (h : Flt w w1 F T) (hk : Keeps (fun _ => False) w1 w2) : Flt w w2 F T := ⟨hk.heap h.blk (fun h => h), h.base, h.keep.trans hk⟩
theorem Flt.cells {w w1 : World} {F : Nat} {T : TypeId} (h : Flt w w1 F T) : w1.cell? ⟨F, 0, none⟩ = some (.int .i64 0) ∧ w1.cell? ⟨F, 1, none⟩ = some (.int .i64 0) ∧ w1.frozen? ⟨F, 0, none⟩ = false ∧ w1.frozen? ⟨F, 1, none⟩ = false ∧ F < w1.heap.size :=
  ⟨by rw [cell_of_blk h.blk]; rfl, by rw [cell_of_blk h.blk]; rfl, frozen_of_blk h.blk, frozen_of_blk h.blk, lt_of_heap h.blk⟩
theorem Flt.set {w w1 : World} {F : Nat} {T : TypeId} (h : Flt w w1 F T) (c n : Value) : ((w1.setCell ⟨F, 0, none⟩ c).setCell ⟨F, 1, none⟩ n).heap[F]? = some (.cells #[c, n] T (0, 0)) ∧ Keeps (fun _ => False) w ((w1.setCell ⟨F, 0, none⟩ c).setCell ⟨F, 1, none⟩ n) :=
  ⟨pair_set h.blk c n, h.keep.trans' (keeps_pair F c n) (fun i hi => .inr (by have := h.base; omega))⟩

set_option maxHeartbeats 1000000 in
theorem validate_any (w : World) (vi vg vo : Value) (t : Tsk) (h : TaskAt w vi vg vo t) :
    Calls Try.prog 71 #[.agg #[.int .i64 t.n, vi, vg, vo]] w fun e w' => e = .returned (.agg #[.int .i64 (taskFault t).1, .int .i64 (taskFault t).2]) ∧ Keeps (fun _ => False) w w' := by
  obtain ⟨ai, ci, h1, _⟩ := h.init.form
  obtain ⟨ag, cg, h2, _⟩ := h.goal.form
  obtain ⟨ao, co, h3, hmo⟩ := h.ops.form
  subst h1 h2 h3
  have K1 := (Keeps.refl (fun _ => False) w).alloc (.cells #[.int .i64 t.n, .slice ai t.init.length ci, .slice ag t.goal.length cg, .slice ao t.ops.length co] 25)
  have HT := h.keeps0 (K1.alloc (.cells #[.int .i64 0, .int .i64 0] 29))
  have HB := (Four.new w (.int .i64 t.n) (.slice ai t.init.length ci) (.slice ag t.goal.length cg) (.slice ao t.ops.length co) 25).keeps0 ((Keeps.refl _ _).alloc (.cells #[.int .i64 0, .int .i64 0] 29))
  have HF : Flt w ((w.alloc (.cells #[.int .i64 t.n, .slice ai t.init.length ci, .slice ag t.goal.length cg, .slice ao t.ops.length co] 25)).alloc (.cells #[.int .i64 0, .int .i64 0] 29)) (w.heap.size + 1) 29 :=
    ⟨by have := heap_alloc_new (w.alloc (.cells #[.int .i64 t.n, .slice ai t.init.length ci, .slice ag t.goal.length cg, .slice ao t.ops.length co] 25)) (.cells #[.int .i64 0, .int .i64 0] 29); rwa [World.size_alloc] at this, by omega, K1.alloc _⟩
  replace HT := Lib.hid HT; replace HB := Lib.hid HB; replace HF := Lib.hid HF
  clear h K1
  go_enter Try.func71, Try.ntmps71
  go_upto_region 1 with fail
  generalize ((w.alloc (.cells #[.int .i64 t.n, .slice ai t.init.length ci, .slice ag t.goal.length cg, .slice ao t.ops.length co] 25)).alloc (.cells #[.int .i64 0, .int .i64 0] 29)) = w1 at HT HB HF ⊢
  obtain ⟨d0, d1, d2, d3⟩ := HB.out
  obtain ⟨e0, e1, z0, z1, hF⟩ := HF.out.cells
  by_cases hn : t.n < 0 ∨ 24 < t.n
  · have HP : Hid (taskFault t = (3, -1)) := by unfold Hid taskFault; rw [if_pos (by omega)]
    rcases hn with hn | hn
    all_goals
      go_wp2_with fail
      refine bodyPost_ret (results_cell_row rfl _ _ (w.heap.size + 1) 29 _ (0, 0) _ rfl (HF.out.set (.int .i64 3) (.int .i64 (-1))).1 Try.underlying29 rfl (by kernel_rfl)) rfl ?_
      exact ⟨by rw [HP.out], (HF.out.set _ _).2⟩
  · have hn0 : 0 ≤ t.n := by omega
    have hn1 : t.n ≤ 24 := by omega
    have hn2 : ¬ t.n < 0 := by omega
    have hn3 : ¬ 24 < t.n := by omega
    clear hn
    have P1 : taskFault t = if isSetB t.init t.n = false then (5, -2) else
      if isSetB t.goal t.n = false then (5, -3) else
      if 40 < t.ops.length then (2, -1) else opsFault t.n 0 t.ops := by unfold taskFault; rw [if_neg (by omega)]
    cases b1 : isSetB t.init t.n with
    | false =>
      have HP : Hid (taskFault t = (5, -2)) := by unfold Hid; rw [P1, if_pos b1]
      have B1 := Lib.hid b1
      clear b1 P1
      go_wp2_with fail
      refine (sIsSet_val HT.out.init B1.out).mono ?_; rintro e w2 ⟨rfl, rfl⟩
      go_wp2_with fail
      refine bodyPost_ret (results_cell_row rfl _ _ (w.heap.size + 1) 29 _ (0, 0) _ rfl (HF.out.set (.int .i64 5) (.int .i64 (-2))).1 Try.underlying29 rfl (by kernel_rfl)) rfl ?_
      exact ⟨by rw [HP.out], (HF.out.set _ _).2⟩
    | true =>
      rw [if_neg (by simp [b1])] at P1
      cases b2 : isSetB t.goal t.n with
      | false =>
        have HP : Hid (taskFault t = (5, -3)) := by unfold Hid; rw [P1, if_pos b2]
        have B1 := Lib.hid b1; have B2 := Lib.hid b2
        clear b1 b2 P1
        go_wp2_with fail
        refine (sIsSet_val HT.out.init B1.out).mono ?_; rintro e w2 ⟨rfl, rfl⟩
        go_wp2_with fail
        refine (sIsSet_val HT.out.goal B2.out).mono ?_; rintro e w2 ⟨rfl, rfl⟩
        go_wp2_with fail
        refine bodyPost_ret (results_cell_row rfl _ _ (w.heap.size + 1) 29 _ (0, 0) _ rfl (HF.out.set (.int .i64 5) (.int .i64 (-3))).1 Try.underlying29 rfl (by kernel_rfl)) rfl ?_
        exact ⟨by rw [HP.out], (HF.out.set _ _).2⟩
      | true =>
        rw [if_neg (by simp [b2])] at P1
        have B1 := Lib.hid b1; have B2 := Lib.hid b2
        clear b1 b2
        by_cases h40 : 40 < t.ops.length
        · have HP : Hid (taskFault t = (2, -1)) := by unfold Hid; rw [P1, if_pos h40]
          clear P1
          go_wp2_with fail
          refine (sIsSet_val HT.out.init B1.out).mono ?_; rintro e w2 ⟨rfl, rfl⟩
          go_wp2_with fail
          refine (sIsSet_val HT.out.goal B2.out).mono ?_; rintro e w2 ⟨rfl, rfl⟩
          go_wp2_with fail
          refine bodyPost_ret (results_cell_row rfl _ _ (w.heap.size + 1) 29 _ (0, 0) _ rfl (HF.out.set (.int .i64 2) (.int .i64 (-1))).1 Try.underlying29 rfl (by kernel_rfl)) rfl ?_
          exact ⟨by rw [HP.out], (HF.out.set _ _).2⟩
        · rw [if_neg h40] at P1
          have HQ := Lib.hid P1
          have HC := Lib.hid (HT.out.ops.cell rfl)
          clear P1
          go_wp2_with fail
          refine (sIsSet_val HT.out.init B1.out).mono ?_; rintro e w2 ⟨rfl, rfl⟩
          go_wp2_with fail
          refine (sIsSet_val HT.out.goal B2.out).mono ?_; rintro e w2 ⟨rfl, rfl⟩
          go_wp2_with fail
          go_loopw [41] (fun i wr => ∃ k : Nat, k ≤ t.ops.length ∧ i = .int .i64 (k : Int) ∧ opsFault t.n 0 t.ops = opsFault t.n (k : Int) (t.ops.drop k) ∧ Keeps (fun _ => False) w1 wr) (fun i _ => t.ops.length - (intOf i).toNat)
          case atStart => exact ⟨0, Nat.zero_le _, rfl, rfl, Keeps.refl _ _⟩
          case round =>
            obtain ⟨k, hk, rfl, ht, hkw⟩ := hrel
            have HTL := Lib.hid ht; clear ht
            have KW := Lib.hid hkw; clear hkw
            obtain ⟨d0, d1, d2, d3⟩ := HB.out.keeps0 KW.out
            have hbx := (HB.out.keeps0 KW.out).lt
            obtain ⟨e0, e1, z0, z1, hF⟩ := (HF.out.keeps0 KW.out).cells
            by_cases hlt : k < t.ops.length
            · obtain ⟨bo, oo, rfl, hcell⟩ := HC.out (by omega)
              obtain ⟨o, ho⟩ : ∃ o, t.ops[k]? = some o := ⟨_, List.getElem?_eq_getElem hlt⟩
              obtain ⟨va, vb, vc, p0, p1, p2, p3, i1, i2, i3⟩ := hcell k o ho
              have q0 := KW.out.cell p0 (fun h => h)
              have q1 := KW.out.cell p1 (fun h => h)
              have q2 := KW.out.cell p2 (fun h => h)
              have q3 := KW.out.cell p3 (fun h => h)
              have I1 := Lib.hid (i1.keeps0 KW.out); have I2 := Lib.hid (i2.keeps0 KW.out); have I3 := Lib.hid (i3.keeps0 KW.out)
              have HG := Lib.hid (opsFault_get (n := t.n) (i := (k : Int)) ho)
              obtain ⟨a1, k1, f1, _⟩ := i1.form
              obtain ⟨a2, k2, f2, _⟩ := i2.form
              obtain ⟨a3, k3, f3, _⟩ := i3.form
              subst f1 f2 f3
              clear hcell ho p0 p1 p2 p3 i1 i2 i3
              have KA := Lib.hid ((Keeps.refl (fun _ => False) wr).alloc (.cells #[.slice a1 o.pre.length k1, .slice a2 o.add.length k2, .slice a3 o.del.length k3, .int .i64 o.cost] 78))
              have HOP := Lib.hid (fun (w' : World) => operator_any w' (.slice a1 o.pre.length k1) (.slice a2 o.add.length k2) (.slice a3 o.del.length k3) o t.n)
              go_wp2_with fail
              refine (HOP.out _ (I1.out.keeps0 KA.out) (I2.out.keeps0 KA.out) (I3.out.keeps0 KA.out) (by omega)).mono ?_; rintro e w3 ⟨rfl, hk3⟩
              have K3 := Lib.hid (KA.out.trans hk3)
              clear hk3
              by_cases hz : opCode o t.n = 0
              · have HN : Hid (opsFault t.n 0 t.ops = opsFault t.n ((k + 1 : Nat) : Int) (t.ops.drop (k + 1))) := by
                  unfold Hid; rw [HTL.out, HG.out, if_pos hz]; rfl
                have hz' : (opCode o t.n != 0) = false := by simpa using hz
                clear hz
                generalize opCode o t.n = c at hz' ⊢
                go_wp2_with fail
                go_roundw
                case rel => exact ⟨k + 1, by omega, by go_num, HN.out, KW.out.trans K3.out⟩
                case measure => simp [intOf]; omega
              · have HP : Hid (taskFault t = (opCode o t.n, (k : Int))) := by unfold Hid; rw [HQ.out, HTL.out, HG.out, if_neg hz]
                have hz' : (opCode o t.n != 0) = true := by simpa using hz
                clear hz
                have HF4 := Lib.hid ((HF.out.keeps0 KW.out).keeps0 K3.out)
                obtain ⟨e0, e1, z0, z1, hF⟩ := HF4.out.cells
                generalize opCode o t.n = c at hz' HP ⊢
                go_wp2_with fail
                refine bodyPost_ret (results_cell_row rfl _ _ (w.heap.size + 1) 29 _ (0, 0) _ rfl (HF4.out.set (.int .i64 c) (.int .i64 (k : Int))).1 Try.underlying29 rfl (by kernel_rfl)) rfl ?_
                exact ⟨by rw [HP.out], (HF4.out.set _ _).2⟩
            · have HP : Hid (taskFault t = (0, 0)) := by unfold Hid; rw [HQ.out, HTL.out, List.drop_of_length_le (by omega)]; rfl
              have HF4 := Lib.hid (HF.out.keeps0 KW.out)
              go_wp2_with fail
              refine bodyPost_ret (results_cell_row rfl _ _ (w.heap.size + 1) 29 _ (0, 0) _ rfl (HF4.out.set (.int .i64 0) (.int .i64 0)).1 Try.underlying29 rfl (by kernel_rfl)) rfl ?_
              exact ⟨by rw [HP.out], (HF4.out.set _ _).2⟩

end Go.Proofs.Ytcfcmmajlkkabaa
