/- The reference's TaskFault. The reference's Word, Subset, StateOk, Applies. space.Of: the words of a task. The reference's ReachedFrom: the breadth-first list of states. No condition beyond what each theorem says. -/
import Derived.Test.YtdonadeodioplaaK2
import Derived.Test.YtdonadeodioplaaK1

namespace Go.Proofs.Ytdonadeodioplaa
open Go.RowKit

theorem rIsSet_b {v : Value} {l : List Int} {n : Int} {b : Bool} (w : World) (h : Ints w v l) (hb : isSetB l n = b) (hn0 : 0 ≤ n) (hn1 : n ≤ 1000) :
    Calls Try.prog 77 #[v, .int .i64 n] w fun e w' => e = .returned (.bool b) ∧ Keeps (fun _ => False) w w' := by rw [← hb]; exact rIsSet_val w v l n h hn0 hn1
theorem disjoint_b {va vb : Value} {a b : List Int} {r : Bool} (w : World) (ha : Ints w va a) (hb : Ints w vb b) (hr : disjB a b = r) :
    Calls Try.prog 78 #[va, vb] w fun e w' => e = .returned (.bool r) ∧ w = w' := by rw [← hr]; exact disjoint_any w va vb a b ha hb

set_option maxHeartbeats 2000000 in
theorem taskFault_any (w : World) (vi vg vo : Value) (t : Tsk) (h : TaskAt w vi vg vo t) :
    Calls Try.prog 43 #[.agg #[.int .i64 t.n, vi, vg, vo]] w fun e w' => e = .returned (.agg #[.int .i64 (taskFault t).1, .int .i64 (taskFault t).2]) ∧ Keeps (fun _ => False) w w' := by
  obtain ⟨ai, ci, h1, _⟩ := h.init.form
  obtain ⟨ag, cg, h2, _⟩ := h.goal.form
  obtain ⟨ao, co, h3, hmo⟩ := h.ops.form
  subst h1 h2 h3
  have K1 := (Keeps.refl (fun _ => False) w).alloc (.cells #[.int .i64 t.n, .slice ai t.init.length ci, .slice ag t.goal.length cg, .slice ao t.ops.length co] 25)
  have HT := h.keeps0 (K1.alloc (.cells #[.int .i64 0, .int .i64 0] 30))
  have HB := (Four.new w (.int .i64 t.n) (.slice ai t.init.length ci) (.slice ag t.goal.length cg) (.slice ao t.ops.length co) 25).keeps0 ((Keeps.refl _ _).alloc (.cells #[.int .i64 0, .int .i64 0] 30))
  have HF : Flt w ((w.alloc (.cells #[.int .i64 t.n, .slice ai t.init.length ci, .slice ag t.goal.length cg, .slice ao t.ops.length co] 25)).alloc (.cells #[.int .i64 0, .int .i64 0] 30)) (w.heap.size + 1) 30 :=
    ⟨by have := heap_alloc_new (w.alloc (.cells #[.int .i64 t.n, .slice ai t.init.length ci, .slice ag t.goal.length cg, .slice ao t.ops.length co] 25)) (.cells #[.int .i64 0, .int .i64 0] 30); rwa [World.size_alloc] at this, by omega, K1.alloc _⟩
  replace HT := Lib.hid HT; replace HB := Lib.hid HB; replace HF := Lib.hid HF
  clear h K1
  go_enter Try.func43, Try.ntmps43
  go_upto_region 1 with fail
  generalize ((w.alloc (.cells #[.int .i64 t.n, .slice ai t.init.length ci, .slice ag t.goal.length cg, .slice ao t.ops.length co] 25)).alloc (.cells #[.int .i64 0, .int .i64 0] 30)) = w1 at HT HB HF ⊢
  have hbx_w1 := HB.out.lt
  obtain ⟨d0, d1, d2, d3⟩ := HB.out
  by_cases hn : ¬ (0 ≤ t.n ∧ t.n ≤ 24)
  · have HP : Hid (taskFault t = (3, -1)) := by unfold Hid taskFault; rw [if_pos hn]
    have HIN := Lib.hid (inB_false' hn)
    clear hn
    go_wp2_with fail
    refine (in_val _ HIN.out).mono ?_; rintro e w2 ⟨rfl, hw2⟩
    obtain rfl : w1 = w2 := hw2.symm
    go_wp2_with fail
    refine (at_any _ _ _).mono ?_; rintro e wA ⟨rfl, hkA⟩
    have HFA := Lib.hid ((HF.out.keeps0 (Keeps.refl _ _)).keeps0 hkA)
    obtain ⟨e0, e1, z0, z1, hFA⟩ := HFA.out.cells
    clear hkA
    go_wp2_with fail
    refine bodyPost_ret (results_cell_row rfl _ _ (w.heap.size + 1) 30 _ (0, 0) _ rfl (HFA.out.set (.int .i64 3) (.int .i64 (-1))).1 Try.underlying30 rfl (by kernel_rfl)) rfl ?_
    exact ⟨by rw [HP.out], (HFA.out.set _ _).2⟩
  · have hn0 : 0 ≤ t.n := by omega
    have hn1 : t.n ≤ 24 := by omega
    have hn1' : t.n ≤ 1000 := by omega
    have P1 : taskFault t = if isSetB t.init t.n = false then (5, -2) else
      if isSetB t.goal t.n = false then (5, -3) else
      if 40 < t.ops.length then (2, -1) else opsFault t.n 0 t.ops := by unfold taskFault; rw [if_neg hn]
    have HIN := Lib.hid (inB_true' hn0 hn1)
    clear hn
    go_wp2_with fail
    refine (in_val _ HIN.out).mono ?_; rintro e w0 ⟨rfl, hw0⟩
    obtain rfl : w1 = w0 := hw0.symm
    cases b1 : isSetB t.init t.n with
    | false =>
      have HP : Hid (taskFault t = (5, -2)) := by unfold Hid; rw [P1, if_pos b1]
      have B1 := Lib.hid b1
      clear b1 P1
      go_wp2_with fail
      refine (rIsSet_b _ HT.out.init B1.out hn0 hn1').mono ?_; rintro e w2 ⟨rfl, hk_w2⟩
      have KA := Lib.hid ((Keeps.refl _ _).trans hk_w2)
      have hbx_w2 := (HB.out.keeps0 KA.out).lt
      obtain ⟨d0, d1, d2, d3⟩ := HB.out.keeps0 KA.out
      clear hk_w2
      go_wp2_with fail
      refine (at_any _ _ _).mono ?_; rintro e wA ⟨rfl, hkA⟩
      have HFA := Lib.hid ((HF.out.keeps0 KA.out).keeps0 hkA)
      obtain ⟨e0, e1, z0, z1, hFA⟩ := HFA.out.cells
      clear hkA
      go_wp2_with fail
      refine bodyPost_ret (results_cell_row rfl _ _ (w.heap.size + 1) 30 _ (0, 0) _ rfl (HFA.out.set (.int .i64 5) (.int .i64 (-2))).1 Try.underlying30 rfl (by kernel_rfl)) rfl ?_
      exact ⟨by rw [HP.out], (HFA.out.set _ _).2⟩
    | true =>
      rw [if_neg (by simp [b1])] at P1
      cases b2 : isSetB t.goal t.n with
      | false =>
        have HP : Hid (taskFault t = (5, -3)) := by unfold Hid; rw [P1, if_pos b2]
        have B1 := Lib.hid b1; have B2 := Lib.hid b2
        clear b1 b2 P1
        go_wp2_with fail
        refine (rIsSet_b _ HT.out.init B1.out hn0 hn1').mono ?_; rintro e w2 ⟨rfl, hk_w2⟩
        have KA := Lib.hid ((Keeps.refl _ _).trans hk_w2)
        have hbx_w2 := (HB.out.keeps0 KA.out).lt
        obtain ⟨d0, d1, d2, d3⟩ := HB.out.keeps0 KA.out
        clear hk_w2
        go_wp2_with fail
        refine (rIsSet_b _ (HT.out.goal.keeps0 KA.out) B2.out hn0 hn1').mono ?_; rintro e w3 ⟨rfl, hk_w3⟩
        have KB := Lib.hid (KA.out.trans hk_w3)
        have hbx_w3 := (HB.out.keeps0 KB.out).lt
        obtain ⟨d0, d1, d2, d3⟩ := HB.out.keeps0 KB.out
        clear hk_w3
        go_wp2_with fail
        refine (at_any _ _ _).mono ?_; rintro e wA ⟨rfl, hkA⟩
        have HFA := Lib.hid ((HF.out.keeps0 KB.out).keeps0 hkA)
        obtain ⟨e0, e1, z0, z1, hFA⟩ := HFA.out.cells
        clear hkA
        go_wp2_with fail
        refine bodyPost_ret (results_cell_row rfl _ _ (w.heap.size + 1) 30 _ (0, 0) _ rfl (HFA.out.set (.int .i64 5) (.int .i64 (-3))).1 Try.underlying30 rfl (by kernel_rfl)) rfl ?_
        exact ⟨by rw [HP.out], (HFA.out.set _ _).2⟩
      | true =>
        rw [if_neg (by simp [b2])] at P1
        have B1 := Lib.hid b1; have B2 := Lib.hid b2
        clear b1 b2
        by_cases h40 : 40 < t.ops.length
        · have HP : Hid (taskFault t = (2, -1)) := by unfold Hid; rw [P1, if_pos h40]
          clear P1
          go_wp2_with fail
          refine (rIsSet_b _ HT.out.init B1.out hn0 hn1').mono ?_; rintro e w2 ⟨rfl, hk_w2⟩
          have KA := Lib.hid ((Keeps.refl _ _).trans hk_w2)
          have hbx_w2 := (HB.out.keeps0 KA.out).lt
          obtain ⟨d0, d1, d2, d3⟩ := HB.out.keeps0 KA.out
          clear hk_w2
          go_wp2_with fail
          refine (rIsSet_b _ (HT.out.goal.keeps0 KA.out) B2.out hn0 hn1').mono ?_; rintro e w3 ⟨rfl, hk_w3⟩
          have KB := Lib.hid (KA.out.trans hk_w3)
          have hbx_w3 := (HB.out.keeps0 KB.out).lt
          obtain ⟨d0, d1, d2, d3⟩ := HB.out.keeps0 KB.out
          clear hk_w3
          go_wp2_with fail
          refine (at_any _ _ _).mono ?_; rintro e wA ⟨rfl, hkA⟩
          have HFA := Lib.hid ((HF.out.keeps0 KB.out).keeps0 hkA)
          obtain ⟨e0, e1, z0, z1, hFA⟩ := HFA.out.cells
          clear hkA
          go_wp2_with fail
          refine bodyPost_ret (results_cell_row rfl _ _ (w.heap.size + 1) 30 _ (0, 0) _ rfl (HFA.out.set (.int .i64 2) (.int .i64 (-1))).1 Try.underlying30 rfl (by kernel_rfl)) rfl ?_
          exact ⟨by rw [HP.out], (HFA.out.set _ _).2⟩
        · rw [if_neg h40] at P1
          have HQ := Lib.hid P1
          clear P1
          go_wp2_with fail
          refine (rIsSet_b _ HT.out.init B1.out hn0 hn1').mono ?_; rintro e w2 ⟨rfl, hk_w2⟩
          have KA := Lib.hid ((Keeps.refl _ _).trans hk_w2)
          have hbx_w2 := (HB.out.keeps0 KA.out).lt
          obtain ⟨d0, d1, d2, d3⟩ := HB.out.keeps0 KA.out
          clear hk_w2
          go_wp2_with fail
          refine (rIsSet_b _ (HT.out.goal.keeps0 KA.out) B2.out hn0 hn1').mono ?_; rintro e w3 ⟨rfl, hk_w3⟩
          have KB := Lib.hid (KA.out.trans hk_w3)
          have hbx_w3 := (HB.out.keeps0 KB.out).lt
          obtain ⟨d0, d1, d2, d3⟩ := HB.out.keeps0 KB.out
          clear hk_w3
          have HC := Lib.hid (HT.out.ops.cell rfl)
          go_wp2_with fail
          go_loopw [3] (fun i wr => ∃ k : Nat, k ≤ t.ops.length ∧ i = .int .i64 (k : Int) ∧ opsFault t.n 0 t.ops = opsFault t.n (k : Int) (t.ops.drop k) ∧ Keeps (fun _ => False) w1 wr) (fun i _ => t.ops.length - (intOf i).toNat)
          case atStart => exact ⟨0, Nat.zero_le _, rfl, rfl, KB.out⟩
          case round =>
            obtain ⟨k, hk, rfl, ht, hkw⟩ := hrel
            have HTL := Lib.hid ht; clear ht
            have KW := Lib.hid hkw; clear hkw
            have hbx := (HB.out.keeps0 KW.out).lt
            obtain ⟨d0, d1, d2, d3⟩ := HB.out.keeps0 KW.out
            by_cases hlt : k < t.ops.length
            · obtain ⟨bo, oo, rfl, hcell⟩ := HC.out (by omega)
              obtain ⟨o, ho⟩ : ∃ o, t.ops[k]? = some o := ⟨_, List.getElem?_eq_getElem hlt⟩
              obtain ⟨va, vb, vc, p0, p1, p2, p3, i1, i2, i3⟩ := hcell k o ho
              have q0 := KW.out.cell p0 (fun h => h)
              have q1 := KW.out.cell p1 (fun h => h)
              have q2 := KW.out.cell p2 (fun h => h)
              have q3 := KW.out.cell p3 (fun h => h)
              obtain ⟨a1, k1, f1, _⟩ := i1.form
              obtain ⟨a2, k2, f2, _⟩ := i2.form
              obtain ⟨a3, k3, f3, _⟩ := i3.form
              subst f1 f2 f3
              have K4 := (Keeps.refl (fun _ => False) wr).alloc (.cells #[.slice a1 o.pre.length k1, .slice a2 o.add.length k2, .slice a3 o.del.length k3, .int .i64 o.cost] 39)
              have HO4 := Four.new wr (.slice a1 o.pre.length k1) (.slice a2 o.add.length k2) (.slice a3 o.del.length k3) (.int .i64 o.cost) 39
              have I1 := Lib.hid (i1.keeps0 (KW.out.trans K4)); have I2 := Lib.hid (i2.keeps0 (KW.out.trans K4)); have I3 := Lib.hid (i3.keeps0 (KW.out.trans K4))
              have HG := Lib.hid (opsFault_get (n := t.n) (i := (k : Int)) ho)
              clear hcell ho p0 p1 p2 p3 i1 i2 i3
              go_upto_region 13 with fail
              have KW4 := Lib.hid (KW.out.trans K4)
              have HO4' := Lib.hid HO4
              have lwr := HO4.lt
              clear K4 HO4
              obtain ⟨bb, hbb⟩ : ∃ bb, wr.heap.size = bb := ⟨_, rfl⟩
              rw [hbb] at HO4' lwr ⊢
              clear q0 q1 q2 q3
              generalize (wr.alloc (.cells #[.slice a1 o.pre.length k1, .slice a2 o.add.length k2, .slice a3 o.del.length k3, .int .i64 o.cost] 39)) = w4 at KW4 HO4' I1 I2 I3 lwr ⊢
              clear hbb
              obtain ⟨d0, d1, d2, d3⟩ := HB.out.keeps0 KW4.out
              have hbx4 := (HB.out.keeps0 KW4.out).lt
              obtain ⟨c0, c1, c2, c3⟩ := HO4'.out
              cases c1_ : isSetB o.pre t.n with
              | false =>
                have HP : Hid (taskFault t = (5, (k : Int))) := by
                  unfold Hid
                  have hc : opCode o t.n = 5 := by unfold opCode; simp [c1_]
                  rw [HQ.out, HTL.out, HG.out, hc, if_neg (by decide)]
                have C1 := Lib.hid c1_
                clear c1_
                go_wp2_with fail
                refine (rIsSet_b _ I1.out C1.out hn0 hn1').mono ?_; rintro e w5 ⟨rfl, hk5⟩
                have KW5 := Lib.hid (KW4.out.trans hk5)
                have M1 := Lib.hid (hk5)
                obtain ⟨d0, d1, d2, d3⟩ := HB.out.keeps0 KW5.out
                obtain ⟨c0, c1, c2, c3⟩ := HO4'.out.keeps0 M1.out
                have hb5 := (HO4'.out.keeps0 M1.out).lt
                have hb6 := (HB.out.keeps0 KW5.out).lt
                clear hk5
                go_wp2_with fail
                refine (at_any _ _ _).mono ?_; rintro e wA ⟨rfl, hkA⟩
                have HFA := Lib.hid ((HF.out.keeps0 KW5.out).keeps0 hkA)
                obtain ⟨e0, e1, z0, z1, hFA⟩ := HFA.out.cells
                clear hkA
                go_wp2_with fail
                refine bodyPost_ret (results_cell_row rfl _ _ (w.heap.size + 1) 30 _ (0, 0) _ rfl (HFA.out.set (.int .i64 5) (.int .i64 (k : Int))).1 Try.underlying30 rfl (by kernel_rfl)) rfl ?_
                exact ⟨by rw [HP.out], (HFA.out.set _ _).2⟩
              | true =>
                cases c2_ : isSetB o.add t.n with
                | false =>
                  have HP : Hid (taskFault t = (5, (k : Int))) := by
                    unfold Hid
                    have hc : opCode o t.n = 5 := by unfold opCode; simp [c2_]
                    rw [HQ.out, HTL.out, HG.out, hc, if_neg (by decide)]
                  have C1 := Lib.hid c1_
                  have C2 := Lib.hid c2_
                  clear c1_ c2_
                  go_wp2_with fail
                  refine (rIsSet_b _ I1.out C1.out hn0 hn1').mono ?_; rintro e w5 ⟨rfl, hk5⟩
                  have KW5 := Lib.hid (KW4.out.trans hk5)
                  have M1 := Lib.hid (hk5)
                  obtain ⟨d0, d1, d2, d3⟩ := HB.out.keeps0 KW5.out
                  obtain ⟨c0, c1, c2, c3⟩ := HO4'.out.keeps0 M1.out
                  have hb5 := (HO4'.out.keeps0 M1.out).lt
                  have hb6 := (HB.out.keeps0 KW5.out).lt
                  clear hk5
                  go_wp2_with fail
                  refine (rIsSet_b _ (I2.out.keeps0 M1.out) C2.out hn0 hn1').mono ?_; rintro e w6 ⟨rfl, hk5⟩
                  have KW6 := Lib.hid (KW5.out.trans hk5)
                  have M2 := Lib.hid (M1.out.trans hk5)
                  obtain ⟨d0, d1, d2, d3⟩ := HB.out.keeps0 KW6.out
                  obtain ⟨c0, c1, c2, c3⟩ := HO4'.out.keeps0 M2.out
                  have hb5 := (HO4'.out.keeps0 M2.out).lt
                  have hb6 := (HB.out.keeps0 KW6.out).lt
                  clear hk5
                  go_wp2_with fail
                  refine (at_any _ _ _).mono ?_; rintro e wA ⟨rfl, hkA⟩
                  have HFA := Lib.hid ((HF.out.keeps0 KW6.out).keeps0 hkA)
                  obtain ⟨e0, e1, z0, z1, hFA⟩ := HFA.out.cells
                  clear hkA
                  go_wp2_with fail
                  refine bodyPost_ret (results_cell_row rfl _ _ (w.heap.size + 1) 30 _ (0, 0) _ rfl (HFA.out.set (.int .i64 5) (.int .i64 (k : Int))).1 Try.underlying30 rfl (by kernel_rfl)) rfl ?_
                  exact ⟨by rw [HP.out], (HFA.out.set _ _).2⟩
                | true =>
                  cases c3_ : isSetB o.del t.n with
                  | false =>
                    have HP : Hid (taskFault t = (5, (k : Int))) := by
                      unfold Hid
                      have hc : opCode o t.n = 5 := by unfold opCode; simp [c3_]
                      rw [HQ.out, HTL.out, HG.out, hc, if_neg (by decide)]
                    have C1 := Lib.hid c1_
                    have C2 := Lib.hid c2_
                    have C3 := Lib.hid c3_
                    clear c1_ c2_ c3_
                    go_wp2_with fail
                    refine (rIsSet_b _ I1.out C1.out hn0 hn1').mono ?_; rintro e w5 ⟨rfl, hk5⟩
                    have KW5 := Lib.hid (KW4.out.trans hk5)
                    have M1 := Lib.hid (hk5)
                    obtain ⟨d0, d1, d2, d3⟩ := HB.out.keeps0 KW5.out
                    obtain ⟨c0, c1, c2, c3⟩ := HO4'.out.keeps0 M1.out
                    have hb5 := (HO4'.out.keeps0 M1.out).lt
                    have hb6 := (HB.out.keeps0 KW5.out).lt
                    clear hk5
                    go_wp2_with fail
                    refine (rIsSet_b _ (I2.out.keeps0 M1.out) C2.out hn0 hn1').mono ?_; rintro e w6 ⟨rfl, hk5⟩
                    have KW6 := Lib.hid (KW5.out.trans hk5)
                    have M2 := Lib.hid (M1.out.trans hk5)
                    obtain ⟨d0, d1, d2, d3⟩ := HB.out.keeps0 KW6.out
                    obtain ⟨c0, c1, c2, c3⟩ := HO4'.out.keeps0 M2.out
                    have hb5 := (HO4'.out.keeps0 M2.out).lt
                    have hb6 := (HB.out.keeps0 KW6.out).lt
                    clear hk5
                    go_wp2_with fail
                    refine (rIsSet_b _ (I3.out.keeps0 M2.out) C3.out hn0 hn1').mono ?_; rintro e w7 ⟨rfl, hk5⟩
                    have KW7 := Lib.hid (KW6.out.trans hk5)
                    have M3 := Lib.hid (M2.out.trans hk5)
                    obtain ⟨d0, d1, d2, d3⟩ := HB.out.keeps0 KW7.out
                    obtain ⟨c0, c1, c2, c3⟩ := HO4'.out.keeps0 M3.out
                    have hb5 := (HO4'.out.keeps0 M3.out).lt
                    have hb6 := (HB.out.keeps0 KW7.out).lt
                    clear hk5
                    go_wp2_with fail
                    refine (at_any _ _ _).mono ?_; rintro e wA ⟨rfl, hkA⟩
                    have HFA := Lib.hid ((HF.out.keeps0 KW7.out).keeps0 hkA)
                    obtain ⟨e0, e1, z0, z1, hFA⟩ := HFA.out.cells
                    clear hkA
                    go_wp2_with fail
                    refine bodyPost_ret (results_cell_row rfl _ _ (w.heap.size + 1) 30 _ (0, 0) _ rfl (HFA.out.set (.int .i64 5) (.int .i64 (k : Int))).1 Try.underlying30 rfl (by kernel_rfl)) rfl ?_
                    exact ⟨by rw [HP.out], (HFA.out.set _ _).2⟩
                  | true =>
                    cases c4_ : disjB o.add o.del with
                    | false =>
                      have HP : Hid (taskFault t = (5, (k : Int))) := by
                        unfold Hid
                        have hc : opCode o t.n = 5 := by unfold opCode; simp [c4_]
                        rw [HQ.out, HTL.out, HG.out, hc, if_neg (by decide)]
                      have C1 := Lib.hid c1_
                      have C2 := Lib.hid c2_
                      have C3 := Lib.hid c3_
                      have C4 := Lib.hid c4_
                      clear c1_ c2_ c3_ c4_
                      go_wp2_with fail
                      refine (rIsSet_b _ I1.out C1.out hn0 hn1').mono ?_; rintro e w5 ⟨rfl, hk5⟩
                      have KW5 := Lib.hid (KW4.out.trans hk5)
                      have M1 := Lib.hid (hk5)
                      obtain ⟨d0, d1, d2, d3⟩ := HB.out.keeps0 KW5.out
                      obtain ⟨c0, c1, c2, c3⟩ := HO4'.out.keeps0 M1.out
                      have hb5 := (HO4'.out.keeps0 M1.out).lt
                      have hb6 := (HB.out.keeps0 KW5.out).lt
                      clear hk5
                      go_wp2_with fail
                      refine (rIsSet_b _ (I2.out.keeps0 M1.out) C2.out hn0 hn1').mono ?_; rintro e w6 ⟨rfl, hk5⟩
                      have KW6 := Lib.hid (KW5.out.trans hk5)
                      have M2 := Lib.hid (M1.out.trans hk5)
                      obtain ⟨d0, d1, d2, d3⟩ := HB.out.keeps0 KW6.out
                      obtain ⟨c0, c1, c2, c3⟩ := HO4'.out.keeps0 M2.out
                      have hb5 := (HO4'.out.keeps0 M2.out).lt
                      have hb6 := (HB.out.keeps0 KW6.out).lt
                      clear hk5
                      go_wp2_with fail
                      refine (rIsSet_b _ (I3.out.keeps0 M2.out) C3.out hn0 hn1').mono ?_; rintro e w7 ⟨rfl, hk5⟩
                      have KW7 := Lib.hid (KW6.out.trans hk5)
                      have M3 := Lib.hid (M2.out.trans hk5)
                      obtain ⟨d0, d1, d2, d3⟩ := HB.out.keeps0 KW7.out
                      obtain ⟨c0, c1, c2, c3⟩ := HO4'.out.keeps0 M3.out
                      have hb5 := (HO4'.out.keeps0 M3.out).lt
                      have hb6 := (HB.out.keeps0 KW7.out).lt
                      clear hk5
                      go_wp2_with fail
                      refine (disjoint_b _ (I2.out.keeps0 M3.out) (I3.out.keeps0 M3.out) C4.out).mono ?_; rintro e w8 ⟨rfl, rfl⟩
                      go_wp2_with fail
                      refine (at_any _ _ _).mono ?_; rintro e wA ⟨rfl, hkA⟩
                      have HFA := Lib.hid ((HF.out.keeps0 KW7.out).keeps0 hkA)
                      obtain ⟨e0, e1, z0, z1, hFA⟩ := HFA.out.cells
                      clear hkA
                      go_wp2_with fail
                      refine bodyPost_ret (results_cell_row rfl _ _ (w.heap.size + 1) 30 _ (0, 0) _ rfl (HFA.out.set (.int .i64 5) (.int .i64 (k : Int))).1 Try.underlying30 rfl (by kernel_rfl)) rfl ?_
                      exact ⟨by rw [HP.out], (HFA.out.set _ _).2⟩
                    | true =>
                      have HO : Hid (opCode o t.n = if 0 ≤ o.cost ∧ o.cost ≤ 100 then 0 else 3) := by unfold Hid opCode; simp [c1_, c2_, c3_, c4_]
                      have C1 := Lib.hid c1_
                      have C2 := Lib.hid c2_
                      have C3 := Lib.hid c3_
                      have C4 := Lib.hid c4_
                      clear c1_ c2_ c3_ c4_
                      go_wp2_with fail
                      refine (rIsSet_b _ I1.out C1.out hn0 hn1').mono ?_; rintro e w5 ⟨rfl, hk5⟩
                      have KW5 := Lib.hid (KW4.out.trans hk5)
                      have M1 := Lib.hid (hk5)
                      obtain ⟨d0, d1, d2, d3⟩ := HB.out.keeps0 KW5.out
                      obtain ⟨c0, c1, c2, c3⟩ := HO4'.out.keeps0 M1.out
                      have hb5 := (HO4'.out.keeps0 M1.out).lt
                      have hb6 := (HB.out.keeps0 KW5.out).lt
                      clear hk5
                      go_wp2_with fail
                      refine (rIsSet_b _ (I2.out.keeps0 M1.out) C2.out hn0 hn1').mono ?_; rintro e w6 ⟨rfl, hk5⟩
                      have KW6 := Lib.hid (KW5.out.trans hk5)
                      have M2 := Lib.hid (M1.out.trans hk5)
                      obtain ⟨d0, d1, d2, d3⟩ := HB.out.keeps0 KW6.out
                      obtain ⟨c0, c1, c2, c3⟩ := HO4'.out.keeps0 M2.out
                      have hb5 := (HO4'.out.keeps0 M2.out).lt
                      have hb6 := (HB.out.keeps0 KW6.out).lt
                      clear hk5
                      go_wp2_with fail
                      refine (rIsSet_b _ (I3.out.keeps0 M2.out) C3.out hn0 hn1').mono ?_; rintro e w7 ⟨rfl, hk5⟩
                      have KW7 := Lib.hid (KW6.out.trans hk5)
                      have M3 := Lib.hid (M2.out.trans hk5)
                      obtain ⟨d0, d1, d2, d3⟩ := HB.out.keeps0 KW7.out
                      obtain ⟨c0, c1, c2, c3⟩ := HO4'.out.keeps0 M3.out
                      have hb5 := (HO4'.out.keeps0 M3.out).lt
                      have hb6 := (HB.out.keeps0 KW7.out).lt
                      clear hk5
                      go_wp2_with fail
                      refine (disjoint_b _ (I2.out.keeps0 M3.out) (I3.out.keeps0 M3.out) C4.out).mono ?_; rintro e w8 ⟨rfl, rfl⟩
                      by_cases hcost : 0 ≤ o.cost ∧ o.cost ≤ 100
                      · have HIN2 := Lib.hid (inB_true' hcost.1 hcost.2)
                        have HN : Hid (opsFault t.n 0 t.ops = opsFault t.n ((k + 1 : Nat) : Int) (t.ops.drop (k + 1))) := by
                          unfold Hid; rw [HTL.out, HG.out, HO.out, if_pos hcost, if_pos rfl]; rfl
                        clear hcost
                        go_wp2_with fail
                        refine (in_val _ HIN2.out).mono ?_; rintro e w9 ⟨rfl, hw9⟩
                        subst hw9
                        go_wp2_with fail
                        go_roundw
                        case rel => exact ⟨k + 1, by omega, by go_num, HN.out, KW7.out⟩
                        case measure => simp [intOf]; omega
                      · have HIN2 := Lib.hid (inB_false' hcost)
                        have HP : Hid (taskFault t = (3, (k : Int))) := by
                          unfold Hid; rw [HQ.out, HTL.out, HG.out, HO.out, if_neg hcost, if_neg (by decide)]
                        clear hcost
                        go_wp2_with fail
                        refine (in_val _ HIN2.out).mono ?_; rintro e w9 ⟨rfl, hw9⟩
                        subst hw9
                        go_wp2_with fail
                        refine (at_any _ _ _).mono ?_; rintro e wA ⟨rfl, hkA⟩
                        have HFA := Lib.hid ((HF.out.keeps0 KW7.out).keeps0 hkA)
                        obtain ⟨e0, e1, z0, z1, hFA⟩ := HFA.out.cells
                        clear hkA
                        go_wp2_with fail
                        refine bodyPost_ret (results_cell_row rfl _ _ (w.heap.size + 1) 30 _ (0, 0) _ rfl (HFA.out.set (.int .i64 3) (.int .i64 (k : Int))).1 Try.underlying30 rfl (by kernel_rfl)) rfl ?_
                        exact ⟨by rw [HP.out], (HFA.out.set _ _).2⟩
            · have HP : Hid (taskFault t = (0, 0)) := by unfold Hid; rw [HQ.out, HTL.out, List.drop_of_length_le (by omega)]; rfl
              have HF4 := Lib.hid (HF.out.keeps0 KW.out)
              obtain ⟨e0, e1, z0, z1, hF⟩ := HF4.out.cells
              go_wp2_with fail
              refine bodyPost_ret (results_cell_row rfl _ _ (w.heap.size + 1) 30 _ (0, 0) _ rfl (HF4.out.set (.int .i64 0) (.int .i64 0)).1 Try.underlying30 rfl (by kernel_rfl)) rfl ?_
              exact ⟨by rw [HP.out], (HF4.out.set _ _).2⟩

end Go.Proofs.Ytdonadeodioplaa

namespace Go.Proofs.Ytdonadeodioplaa
open Go.RowKit

theorem wd_small {l : List Int} {p : Nat} (h : ∀ x ∈ l, 0 ≤ x ∧ x < (p : Int)) : wd l ||| 2 ^ p = wd l + 2 ^ p := by
  have := Nat.two_pow_add_eq_or_of_lt (i := p) (b := wd l) (wd_lt h) 1
  rw [Nat.mul_one] at this
  rw [Nat.or_comm, ← this, Nat.add_comm]

theorem wrap64_small {n : Nat} (h : n < 9223372036854775808) : wrap64 (n : Int) = (n : Int) := by
  unfold wrap64
  omega

set_option maxRecDepth 100000 in
set_option maxHeartbeats 1000000 in
theorem rword_any (w : World) (v : Value) (l : List Int) (h : Ints w v l) (hl : isSetB l 32 = true) :
    Calls Try.prog 62 #[v] w fun e w' => e = .returned (.int .i64 (wd l : Nat)) ∧ w = w' := by
  obtain ⟨ao, ca, hv, ma⟩ := h.form
  have CA := Lib.hid (h.cell hv)
  have HL := Lib.hid hl
  subst hv
  clear h hl
  go_enter Try.func62, Try.ntmps62
  go_wp2_with fail
  go_loop [3, 4] (fun u i => ∃ k : Nat, k ≤ l.length ∧ i = .int .i64 (k : Int) ∧ u = .int .i64 (wd (l.take k) : Nat)) (fun _ i => l.length - (intOf i).toNat)
  case atStart => exact ⟨0, Nat.zero_le _, rfl, rfl⟩
  case round =>
    obtain ⟨k, hk, rfl, rfl⟩ := hrel
    by_cases hlt : k < l.length
    · obtain ⟨ba, oa, rfl, ha'⟩ := CA.out (by omega)
      obtain ⟨x, hx⟩ : ∃ x, l[k]? = some x := ⟨_, List.getElem?_eq_getElem hlt⟩
      have ha1 := ha' k _ hx
      obtain ⟨hr, hp⟩ := isSet_iff.1 HL.out
      have hb := hr x (List.mem_of_getElem? hx)
      have hsm : ∀ y ∈ l.take k, 0 ≤ y ∧ y < (x.toNat : Int) := by
        intro y hy
        have h1 := hr y (List.mem_of_mem_take hy)
        obtain ⟨j, hj⟩ := List.mem_iff_getElem?.1 hy
        rw [List.getElem?_take] at hj
        split at hj
        · rename_i hjk
          obtain ⟨l1, e1⟩ := List.getElem?_eq_some_iff.1 hj
          obtain ⟨l2, e2⟩ := List.getElem?_eq_some_iff.1 hx
          have := List.pairwise_iff_getElem.1 hp j k l1 l2 hjk
          rw [e1, e2] at this
          omega
        · cases hj
      have e2 : wd (l.take (k + 1)) = wd (l.take k) + 2 ^ x.toNat := by
        rw [← wd_small hsm, take_getS hx, wd_append, Nat.or_comm]; simp [wd]
      have hlt32 : wd (l.take (k + 1)) < 4294967296 := wd_take_lt hr (k + 1)
      have hb0 := hb.1
      have hpw : (2 : Nat) ^ x.toNat < 4294967296 := show (2 : Nat) ^ x.toNat < 2 ^ 32 from Nat.pow_lt_pow_right (by decide) (by omega)
      have hpc : ((2 : Int) ^ x.toNat) = ((2 ^ x.toNat : Nat) : Int) := by simp
      have H1 := Lib.hid e2; have H2 := Lib.hid hlt32; have H3 := Lib.hid hpw; have H4 := Lib.hid hpc
      clear ha' hx e2 hlt32 hr hp hsm hpw hpc
      go_wp2_with fail
      go_round
      case rel =>
        refine ⟨k + 1, by omega, by go_num, ?_⟩
        rw [H4.out, wrap64_small (by have := H3.out; omega), H1.out]
        congr 1
        rw [← Int.natCast_add, wrap64_small (by rw [← H1.out]; have := H2.out; omega)]
      case measure => simp [intOf]; omega
    · have hf : Hid (wd (l.take k) = wd l) := by unfold Hid; rw [List.take_of_length_le (by omega)]
      go_wp2_with fail
      go_ret
      exact ⟨congrArg (fun u : Nat => Ending.returned (Value.int .i64 (u : Int))) hf.out, rfl⟩

/-! ### Subset -/
def subB (a b : List Int) : Bool := a.all fun x => b.contains x

set_option maxHeartbeats 1000000 in
theorem subset_any (w : World) (va vb : Value) (a b : List Int) (ha : Ints w va a) (hb : Ints w vb b) :
    Calls Try.prog 19 #[va, vb] w fun e w' => e = .returned (.bool (subB a b)) ∧ w = w' := by
  obtain ⟨ao, ca, hv, ma⟩ := ha.form
  have CA := Lib.hid (ha.cell hv)
  have HB := Lib.hid hb
  obtain ⟨bo, cb, hvb, mb⟩ := hb.form
  subst hv hvb
  clear ha hb
  go_enter Try.func19, Try.ntmps19
  go_wp2_with fail
  go_loop [5] (fun i => ∃ k : Nat, k ≤ a.length ∧ i = .int .i64 (k : Int) ∧ subB (a.take k) b = true) (fun i => a.length - (intOf i).toNat)
  case atStart => exact ⟨0, Nat.zero_le _, rfl, rfl⟩
  case round =>
    obtain ⟨k, hk, rfl, ht⟩ := hrel
    have HT := Lib.hid ht; clear ht
    by_cases hlt : k < a.length
    · obtain ⟨ba, oa, rfl, ha'⟩ := CA.out (by omega)
      obtain ⟨x, hx⟩ : ∃ x, a[k]? = some x := ⟨_, List.getElem?_eq_getElem hlt⟩
      have ha1 := ha' k _ hx
      have HX := Lib.hid hx
      clear ha' hx
      have e2 := take_getS HX.out
      by_cases hm : x ∈ b
      · have HN : Hid (subB (a.take (k + 1)) b = true) := by
          unfold Hid
          rw [e2]
          have := HT.out
          unfold subB at this ⊢
          rw [List.all_append, this]
          simp [hm]
        have HD := Lib.hid (decide_eq_true hm)
        clear hm e2
        go_wp2_with fail
        refine (has_any _ _ _ _ HB.out).mono ?_; rintro e w1 ⟨rfl, rfl⟩
        rw [HD.out]
        go_wp2_with fail
        go_round
        case rel => exact ⟨k + 1, by omega, by go_num, HN.out⟩
        case measure => simp [intOf]; omega
      · have hf : Hid (subB a b = false) := by
          unfold Hid subB
          rw [List.all_eq_false]
          exact ⟨x, List.mem_of_getElem? HX.out, by simp [hm]⟩
        have HD := Lib.hid (decide_eq_false hm)
        clear hm e2
        go_wp2_with fail
        refine (has_any _ _ _ _ HB.out).mono ?_; rintro e w1 ⟨rfl, rfl⟩
        rw [HD.out]
        go_wp2_with fail
        go_ret
        exact ⟨congrArg (fun b => Ending.returned (Value.bool b)) hf.out.symm, rfl⟩
    · have hf : Hid (subB a b = true) := by
        have := HT.out
        rw [List.take_of_length_le (by omega)] at this
        exact this
      go_wp2_with fail
      go_ret
      exact ⟨congrArg (fun b => Ending.returned (Value.bool b)) hf.out.symm, rfl⟩

/-! ### Applies -/
set_option maxHeartbeats 1000000 in
theorem applies_any (w : World) (vi vg vo vs : Value) (t : Tsk) (s : List Int) (k : Nat) (o : Opr) (h : TaskAt w vi vg vo t) (hs : Ints w vs s) (hk : t.ops[k]? = some o) :
    Calls Try.prog 16 #[.agg #[.int .i64 t.n, vi, vg, vo], vs, .int .i64 (k : Int)] w fun e w' => e = .returned (.bool (appL o s)) ∧ Keeps (fun _ => False) w w' := by
  obtain ⟨ai, ci, h1, _⟩ := h.init.form
  obtain ⟨ag, cg, h2, _⟩ := h.goal.form
  obtain ⟨ao, co, h3, hmo⟩ := h.ops.form
  obtain ⟨aa, cs, h4, _⟩ := hs.form
  subst h1 h2 h3 h4
  have hlt : k < t.ops.length := (List.getElem?_eq_some_iff.1 hk).1
  have K1 := (Keeps.refl (fun _ => False) w).alloc (.cells #[.int .i64 t.n, .slice ai t.init.length ci, .slice ag t.goal.length cg, .slice ao t.ops.length co] 25)
  have HT := h.keeps0 K1
  have HSS := Lib.hid (show Ints _ (.slice aa s.length cs) s from hs.keeps0 K1)
  have HB := (Four.new w (.int .i64 t.n) (.slice ai t.init.length ci) (.slice ag t.goal.length cg) (.slice ao t.ops.length co) 25)
  obtain ⟨bo, off, rfl, hcell⟩ := HT.ops.cell rfl (by omega)
  obtain ⟨va, vb, vc, c0, c1, c2, c3, ia, ib, ic⟩ := hcell k o hk
  obtain ⟨pa, pc, hpa, _⟩ := ia.form
  have HIA := Lib.hid ia; have HK := Lib.hid K1
  clear h hs HT hcell ia ib ic c1 c2 c3 hk K1
  go_enter Try.func16, Try.ntmps16
  go_upto_region 1 with fail
  generalize (w.alloc (.cells #[.int .i64 t.n, .slice ai t.init.length ci, .slice ag t.goal.length cg, .slice (some ⟨bo, off, none⟩) t.ops.length co] 25)) = w1 at HB HSS c0 HIA HK ⊢
  obtain ⟨d0, d1, d2, d3⟩ := HB
  subst hpa
  go_wp2_with fail
  refine (subset_any _ _ _ _ _ HIA.out HSS.out).mono ?_; rintro e w2 ⟨rfl, rfl⟩
  go_wp2_with fail
  go_ret
  exact ⟨rfl, HK.out⟩

end Go.Proofs.Ytdonadeodioplaa

/- The reference's After. -/
namespace Go.Proofs.Ytdonadeodioplaa
open Go.RowKit

def aftP (o : Opr) (s : List Int) (x : Int) : Bool := decide (x ∈ o.add) || (decide (x ∈ s) && !decide (x ∈ o.del))
/-- The facts behind an operator, below k. -/
def aftTo (o : Opr) (s : List Int) (k : Nat) : List Int := ((List.range k).map fun p : Nat => (p : Int)).filter (aftP o s)
theorem aftTo_succ (o : Opr) (s : List Int) (k : Nat) : aftTo o s (k + 1) = if aftP o s k = true then aftTo o s k ++ [(k : Int)] else aftTo o s k := by
  unfold aftTo
  rw [List.range_succ, List.map_append, List.filter_append]
  cases h : aftP o s k <;> simp [h]
theorem aftTo_le (o : Opr) (s : List Int) (k : Nat) : (aftTo o s k).length ≤ k := by
  unfold aftTo
  refine Nat.le_trans (List.length_filter_le _ _) (by simp)
theorem aftTo_aftL {n : Int} (h0 : 0 ≤ n) (o : Opr) (s : List Int) : aftTo o s n.toNat = aftL n o s := by
  refine sorted_ext ?_ (isSet_iff.1 (isSet_aftL n o s)).2 fun x => ?_
  · unfold aftTo
    refine List.Pairwise.sublist List.filter_sublist ?_
    rw [List.pairwise_map]
    refine List.Pairwise.imp ?_ (List.pairwise_lt_range (n := n.toNat))
    intro a b h; omega
  · rw [mem_aftL]
    unfold aftTo aftP
    simp only [List.mem_filter, List.mem_map, List.mem_range, Bool.or_eq_true, Bool.and_eq_true, Bool.not_eq_true', decide_eq_true_eq, decide_eq_false_iff_not]
    constructor
    · rintro ⟨⟨p, hp, rfl⟩, h⟩; exact ⟨⟨by omega, by omega⟩, h⟩
    · rintro ⟨⟨h1, h2⟩, h⟩; exact ⟨⟨x.toNat, by omega, by omega⟩, h⟩

set_option maxRecDepth 100000 in
set_option maxHeartbeats 2000000 in
theorem after_any (w : World) (vi vg vo vs : Value) (t : Tsk) (s : List Int) (k : Nat) (o : Opr) (h : TaskAt w vi vg vo t) (hs : Ints w vs s) (hk : t.ops[k]? = some o) (hn0 : 0 ≤ t.n) (hn1 : t.n ≤ 1000) :
    Calls Try.prog 18 #[.agg #[.int .i64 t.n, vi, vg, vo], vs, .int .i64 (k : Int)] w fun e w' => ∃ v, e = .returned v ∧ w'.ownsRow w.heap.size 3 1 v (aftL t.n o s).length ((aftL t.n o s).map (Value.int .i64)) ∧ Keeps (fun _ => False) w w' := by
  obtain ⟨i0, hi0, hz0, hz1, hz2⟩ := info_parts Try.info3
  obtain ⟨ai, ci, h1, _⟩ := h.init.form
  obtain ⟨ag, cg, h2, _⟩ := h.goal.form
  obtain ⟨ao, co, h3, hmo⟩ := h.ops.form
  obtain ⟨aa, cs, h4, _⟩ := hs.form
  subst h1 h2 h3 h4
  have hlt : k < t.ops.length := (List.getElem?_eq_some_iff.1 hk).1
  have K1 := (Keeps.refl (fun _ => False) w).alloc (.cells #[.int .i64 t.n, .slice ai t.init.length ci, .slice ag t.goal.length cg, .slice ao t.ops.length co] 25)
  have HT := h.keeps0 K1
  have HSS := Lib.hid (show Ints _ (.slice aa s.length cs) s from hs.keeps0 K1)
  have HB := Lib.hid (Four.new w (.int .i64 t.n) (.slice ai t.init.length ci) (.slice ag t.goal.length cg) (.slice ao t.ops.length co) 25)
  obtain ⟨bo, off, rfl, hcell⟩ := HT.ops.cell rfl (by omega)
  obtain ⟨va, vb, vc, c0, c1, c2, c3, ia, ib, ic⟩ := hcell k o hk
  obtain ⟨pb, pcb, hpb, _⟩ := ib.form
  obtain ⟨pc, pcc, hpc, _⟩ := ic.form
  subst hpb hpc
  have HIB := Lib.hid ib; have HIC := Lib.hid ic; have HK := Lib.hid K1; have HC1 := Lib.hid c1; have HC2 := Lib.hid c2
  clear h hs HT hcell ia ib ic c0 c1 c2 c3 hk K1
  go_enter Try.func18, Try.ntmps18
  go_upto_region 1 with fail
  generalize (w.alloc (.cells #[.int .i64 t.n, .slice ai t.init.length ci, .slice ag t.goal.length cg, .slice (some ⟨bo, off, none⟩) t.ops.length co] 25)) = w1 at HB HSS HC1 HC2 HIB HIC HK ⊢
  have hbx := HB.out.lt
  go_wp2_with fail
  go_loopw [7, 8] (fun v i wr => ∃ p : Nat, (p : Int) ≤ t.n ∧ i = .int .i64 (p : Int) ∧ wr.ownsRow w1.heap.size 3 1 v (aftTo o s p).length ((aftTo o s p).map (Value.int .i64)) ∧ Keeps (fun _ => False) w1 wr) (fun _ i _ => t.n.toNat - (intOf i).toNat)
  case atStart => exact ⟨0, by omega, rfl, World.ownsRow_nil _ _ _ _, Keeps.refl _ _⟩
  case round =>
    obtain ⟨p, hp, rfl, hown, hkw⟩ := hrel
    have HO := Lib.hid hown; have KW := Lib.hid hkw
    obtain ⟨d0, d1, d2, d3⟩ := HB.out.keeps0 hkw
    have hbr := (HB.out.keeps0 hkw).lt
    have b1 := hkw.cell HC1.out (fun h => h)
    have b2 := hkw.cell HC2.out (fun h => h)
    have SB := Lib.hid (show Ints wr (.slice pb o.add.length pcb) o.add from HIB.out.keeps0 hkw)
    have SC := Lib.hid (show Ints wr (.slice pc o.del.length pcc) o.del from HIC.out.keeps0 hkw)
    have SS := Lib.hid (show Ints wr (.slice aa s.length cs) s from HSS.out.keeps0 hkw)
    clear hown hkw
    have hle := aftTo_le o s p
    have hsz := KW.out.size
    have hszw := HK.out.size
    by_cases hlp : (p : Int) < t.n
    · obtain ⟨av, cv, hv⟩ := ownsRow_form1 HO.out
      subst hv
      by_cases ha : (p : Int) ∈ o.add
      · have HA := Lib.hid (decide_eq_true ha)
        have HS : Hid (aftTo o s (p + 1) = aftTo o s p ++ [(p : Int)]) := by unfold Hid; rw [aftTo_succ, if_pos (by simp [aftP, ha])]
        clear ha
        go_wp2_with fail
        refine (has_any _ _ _ _ SB.out).mono ?_; rintro e w3 ⟨rfl, rfl⟩
        rw [HA.out]
        go_wp2_with (at_builtin; refine wpList_append_d rfl _ _ _ rfl w1.heap.size 3 i0 _ 1 8 Try.underlying22 hi0 hz0 hz1 hz2 rfl (by omega) _ (aftTo o s p).length ((aftTo o s p).map (Value.int .i64)) (by rfl) (World.ownsRow.alloc HO.out (.cells #[.int .i64 (p : Int)] 3)) ⟨wr.heap.size, 0, none⟩ 1 1 [.int .i64 (p : Int)] (by rfl) (by rfl) ?hnews ?hone (by omega) (by unfold maxLen; omega) (by omega) (by simp; omega) (wr.heap.size + 1) (by simp) ?_)
        case hnews => exact World.news_of_block (cs := #[.int .i64 (p : Int)]) (t := 3) (fr := (0, 0)) (heap_alloc_new _ _)
        case hone => simp [Value.oneCell']
        intro gg cap2 w4 hown hgrow hat hlt4 hd4
        have HN := Lib.hid (show w4.ownsRow w1.heap.size 3 1 (.slice (some ⟨gg, 0, none⟩) ((aftTo o s p).length + 1) cap2) (aftTo o s (p + 1)).length ((aftTo o s (p + 1)).map (Value.int .i64)) by
          rw [HS.out, List.map_append, List.length_append]; exact hown)
        have HKN := Lib.hid (own_grown HO.out KW.out ((Keeps.refl _ wr).alloc (.cells #[.int .i64 (p : Int)] 3)) hgrow)
        clear hown hgrow hat hd4
        go_wp2_with fail
        go_roundw
        case rel => exact ⟨p + 1, by omega, by go_num, HN.out, HKN.out⟩
        case measure => simp [intOf]; omega
      · have HA := Lib.hid (decide_eq_false ha)
        by_cases hs : (p : Int) ∈ s
        · have HSD := Lib.hid (decide_eq_true hs)
          by_cases hd : (p : Int) ∈ o.del
          · have HDD := Lib.hid (decide_eq_true hd)
            have HS : Hid (aftTo o s (p + 1) = aftTo o s p) := by unfold Hid; rw [aftTo_succ, if_neg (by simp [aftP, ha, hd])]
            clear ha hs hd
            go_wp2_with fail
            refine (has_any _ _ _ _ SB.out).mono ?_; rintro e w3 ⟨rfl, rfl⟩
            rw [HA.out]
            go_wp2_with fail
            refine (has_any _ _ _ _ SS.out).mono ?_; rintro e w3 ⟨rfl, rfl⟩
            rw [HSD.out]
            go_wp2_with fail
            refine (has_any _ _ _ _ SC.out).mono ?_; rintro e w3 ⟨rfl, rfl⟩
            rw [HDD.out]
            go_wp2_with fail
            go_roundw
            case rel => exact ⟨p + 1, by omega, by go_num, by rw [HS.out]; exact HO.out, KW.out⟩
            case measure => simp [intOf]; omega
          · have HDD := Lib.hid (decide_eq_false hd)
            have HS : Hid (aftTo o s (p + 1) = aftTo o s p ++ [(p : Int)]) := by unfold Hid; rw [aftTo_succ, if_pos (by simp [aftP, hs, hd])]
            clear ha hs hd
            go_wp2_with fail
            refine (has_any _ _ _ _ SB.out).mono ?_; rintro e w3 ⟨rfl, rfl⟩
            rw [HA.out]
            go_wp2_with fail
            refine (has_any _ _ _ _ SS.out).mono ?_; rintro e w3 ⟨rfl, rfl⟩
            rw [HSD.out]
            go_wp2_with fail
            refine (has_any _ _ _ _ SC.out).mono ?_; rintro e w3 ⟨rfl, rfl⟩
            rw [HDD.out]
            go_wp2_with (at_builtin; refine wpList_append_d rfl _ _ _ rfl w1.heap.size 3 i0 _ 1 8 Try.underlying22 hi0 hz0 hz1 hz2 rfl (by omega) _ (aftTo o s p).length ((aftTo o s p).map (Value.int .i64)) (by rfl) (World.ownsRow.alloc HO.out (.cells #[.int .i64 (p : Int)] 3)) ⟨wr.heap.size, 0, none⟩ 1 1 [.int .i64 (p : Int)] (by rfl) (by rfl) ?hnews ?hone (by omega) (by unfold maxLen; omega) (by omega) (by simp; omega) (wr.heap.size + 1) (by simp) ?_)
            case hnews => exact World.news_of_block (cs := #[.int .i64 (p : Int)]) (t := 3) (fr := (0, 0)) (heap_alloc_new _ _)
            case hone => simp [Value.oneCell']
            intro gg cap2 w4 hown hgrow hat hlt4 hd4
            have HN := Lib.hid (show w4.ownsRow w1.heap.size 3 1 (.slice (some ⟨gg, 0, none⟩) ((aftTo o s p).length + 1) cap2) (aftTo o s (p + 1)).length ((aftTo o s (p + 1)).map (Value.int .i64)) by
              rw [HS.out, List.map_append, List.length_append]; exact hown)
            have HKN := Lib.hid (own_grown HO.out KW.out ((Keeps.refl _ wr).alloc (.cells #[.int .i64 (p : Int)] 3)) hgrow)
            clear hown hgrow hat hd4
            go_wp2_with fail
            go_roundw
            case rel => exact ⟨p + 1, by omega, by go_num, HN.out, HKN.out⟩
            case measure => simp [intOf]; omega
        · have HSD := Lib.hid (decide_eq_false hs)
          have HS : Hid (aftTo o s (p + 1) = aftTo o s p) := by unfold Hid; rw [aftTo_succ, if_neg (by simp [aftP, ha, hs])]
          clear ha hs
          go_wp2_with fail
          refine (has_any _ _ _ _ SB.out).mono ?_; rintro e w3 ⟨rfl, rfl⟩
          rw [HA.out]
          go_wp2_with fail
          refine (has_any _ _ _ _ SS.out).mono ?_; rintro e w3 ⟨rfl, rfl⟩
          rw [HSD.out]
          go_wp2_with fail
          go_roundw
          case rel => exact ⟨p + 1, by omega, by go_num, by rw [HS.out]; exact HO.out, KW.out⟩
          case measure => simp [intOf]; omega
    · have hpn : p = t.n.toNat := by omega
      have HE : Hid (aftTo o s p = aftL t.n o s) := by unfold Hid; rw [hpn]; exact aftTo_aftL hn0 o s
      clear hpn
      go_wp2_with fail
      go_ret
      refine ⟨_, rfl, ?_, HK.out.trans KW.out⟩
      have := HO.out
      rw [HE.out] at this
      exact ownsRow_mono this HK.out.size

end Go.Proofs.Ytdonadeodioplaa

namespace Go.Proofs.Ytdonadeodioplaa
open Go.RowKit

theorem Try.info_mask : (Try.prog.info? 146).map (fun i => (i.zero, i.size, i.bytes)) = some (some (.agg #[.int .u32 0, .int .u32 0, .int .u32 0, .int .i64 0]), 4, 24) := by kernel_rfl

def wopCells (ops : List Wop) : List Value := ops.flatMap fun o => [.int .u32 (o.pre : Int), .int .u32 (o.add : Int), .int .u32 (o.del : Int), .int .i64 o.cost]
def wordsOf (ops : List Opr) : List Wop := ops.map Opr.word

theorem length_wopCells (ops : List Wop) : (wopCells ops).length = ops.length * 4 := by
  induction ops with
  | nil => rfl
  | cons o r ih =>
    have e : wopCells (o :: r) = .int .u32 (o.pre : Int) :: .int .u32 (o.add : Int) :: .int .u32 (o.del : Int) :: .int .i64 o.cost :: wopCells r := rfl
    rw [e]; simp only [List.length_cons]; omega
theorem wopCells_append (a b : List Wop) : wopCells (a ++ b) = wopCells a ++ wopCells b := by unfold wopCells; exact List.flatMap_append

theorem word_still {w : World} {v : Value} {l : List Int} (h : Ints w v l) (hl : ∀ x ∈ l, 0 ≤ x ∧ x < 32) :
    Calls Try.prog 67 #[v] w fun e w' => e = .returned (.int .u32 (wd l : Nat)) ∧ w' = w :=
  (word_any w v l h hl).mono fun _ _ ⟨he, hw⟩ => ⟨he, hw.symm⟩

theorem set_bound {l : List Int} {n : Int} (h : isSetB l n = true) (hn : n ≤ 24) : ∀ x ∈ l, 0 ≤ x ∧ x < 32 := fun x hx => by have := (isSet_iff.1 h).1 x hx; omega

/-- A block that holds the words of a task. -/
structure WordsAt (w : World) (base b : Nat) (s g : Nat) (v : Value) (ops : List Wop) : Prop where
  blk : w.heap[b]? = some (.cells #[.int .u32 (s : Int), .int .u32 (g : Int), v] 143 (0, 0))
  own : w.ownsRow base 146 4 v ops.length (wopCells ops)
  low : base ≤ b
  ne : v.ownBlock ≠ some b

set_option maxHeartbeats 1000000 in
theorem grown_cell {w4 w5 : World} {o : Obj} {row : Option Nat} (hg : ((w4.alloc o).drew).grownBy w5 row) {b j : Nat} {x : Value} (h : w4.cell? ⟨b, j, none⟩ = some x) (hne : row ≠ some b) : w5.cell? ⟨b, j, none⟩ = some x :=
  hg.cell (a := ⟨b, j, none⟩) (((Keeps.refl (fun _ => False) w4).alloc o).drew.cell h (fun h => h)) (fun e => hne e.symm)
theorem grown_heap {w4 w5 : World} {o o' : Obj} {row : Option Nat} (hg : ((w4.alloc o).drew).grownBy w5 row) {b : Nat} (h : w4.heap[b]? = some o') (hne : row ≠ some b) : w5.heap[b]? = some o' := by
  have h1 := (((Keeps.refl (fun _ => False) w4).alloc o).drew).heap h (fun h => h)
  exact (hg.block b (lt_of_heap h1) (fun e => hne e.symm)).trans h1

theorem set_far {w : World} {b j c : Nat} {x u : Value} (h : w.cell? ⟨b, j, none⟩ = some x) (hne : b ≠ c) : (w.setCell ⟨c, 2, none⟩ u).cell? ⟨b, j, none⟩ = some x :=
  (World.cell?_of_block (heap_setCell_other w ⟨c, 2, none⟩ b u hne)).trans h

theorem ownsRow_mono4 {w : World} {base base' : Nat} {e : TypeId} {size : Nat} {v : Value} {n : Nat} {xs : List Value} (h : w.ownsRow base e size v n xs) (hb : base' ≤ base) : w.ownsRow base' e size v n xs := ownsRow_mono h hb

theorem WordsAt.keeps0 {w w' : World} {base b s g : Nat} {v : Value} {ops : List Wop} (h : WordsAt w base b s g v ops) (hk : Keeps (fun _ => False) w w') : WordsAt w' base b s g v ops :=
  ⟨hk.heap h.blk (fun h => h), hk.ownsRow h.own (fun _ _ h => h), h.low, h.ne⟩

theorem WordsAt.push {w4 w5 : World} {base bb s g n cap gg : Nat} {v : Value} {ops : List Wop} {o : Obj} {p : Wop} (h : WordsAt w4 base bb s g v ops) (hg : ((w4.alloc o).drew).grownBy w5 v.ownBlock) (hn : n = ops.length + 1)
    (hown : w5.ownsRow base 146 4 (.slice (some ⟨gg, 0, none⟩) n cap) n (wopCells ops ++ [.int .u32 (p.pre : Int), .int .u32 (p.add : Int), .int .u32 (p.del : Int), .int .i64 p.cost])) (hat : v.ownBlock = some gg ∨ gg = w4.heap.size + 1) :
    WordsAt (w5.setCell ⟨bb, 2, none⟩ (.slice (some ⟨gg, 0, none⟩) n cap)) base bb s g (.slice (some ⟨gg, 0, none⟩) n cap) (ops ++ [p]) := by
  have hb := grown_heap (w4 := w4) hg h.blk h.ne
  have hne : gg ≠ bb := by
    rcases hat with e | e
    · intro e'; exact h.ne (by rw [e, e'])
    · have := lt_of_heap h.blk; omega
  refine ⟨by rw [blk_set_same hb]; rfl, ?_, h.low, by simpa [Value.ownBlock] using hne⟩
  have hk : Keeps (fun b => b = bb) w5 (w5.setCell ⟨bb, 2, none⟩ (.slice (some ⟨gg, 0, none⟩) n cap)) := (Keeps.refl (fun b => b = bb) w5).setCell (p := ⟨bb, 2, none⟩) (.inl rfl) _
  have h2 : w5.ownsRow base 146 4 (.slice (some ⟨gg, 0, none⟩) n cap) (ops ++ [p]).length (wopCells (ops ++ [p])) := by
    rw [wopCells_append, List.length_append, show ops.length + [p].length = n by simp [hn]]; exact hown
  exact hk.ownsRow h2 (fun k hk e => by simp [Value.ownBlock] at hk; omega)

theorem WordsAt.pushKeeps {w2 w4 w5 : World} {bb s g : Nat} {v : Value} {ops : List Wop} {o : Obj} (h : WordsAt w4 bb bb s g v ops) (hg : ((w4.alloc o).drew).grownBy w5 v.ownBlock) (hb : w2.heap.size = bb) (hk : Keeps (fun _ => False) w2 w4) (u : Value) : Keeps (fun _ => False) w2 (w5.setCell ⟨bb, 2, none⟩ u) := by
  have h1 : Keeps (fun b => v.ownBlock = some b) (w4.alloc o).drew w5 := (Keeps.refl _ _).grown hg (fun k hk => .inl hk)
  have h2 : Keeps (fun _ => False) w2 w5 := (hk.trans ((Keeps.refl _ w4).alloc o).drew).trans' h1 (fun b e => .inr (by have := (World.ownsRow.lt h.own b e).1; omega))
  exact h2.setCell (p := ⟨bb, 2, none⟩) (.inr (by simp only; omega)) u

set_option maxHeartbeats 4000000 in
set_option maxRecDepth 100000 in
theorem of_any (w : World) (vi vg vo : Value) (t : Tsk) (h : TaskAt w vi vg vo t) (ok : t.Ok) :
    Calls Try.prog 79 #[.agg #[.int .i64 t.n, vi, vg, vo]] w fun e w' => ∃ b v, e = .returned (.pointer (some ⟨b, 0, none⟩)) ∧ WordsAt w' w.heap.size b (wd t.init) (wd t.goal) v (wordsOf t.ops) ∧ Keeps (fun _ => False) w w' := by
  obtain ⟨ai, ci, h1, _⟩ := h.init.form
  obtain ⟨ag, cg, h2, _⟩ := h.goal.form
  obtain ⟨ao, co, h3, hmo⟩ := h.ops.form
  subst h1 h2 h3
  have K1 := (Keeps.refl (fun _ => False) w).alloc (.cells #[.int .i64 t.n, .slice ai t.init.length ci, .slice ag t.goal.length cg, .slice ao t.ops.length co] 25)
  have HT := h.keeps0 K1
  have HB := Four.new w (.int .i64 t.n) (.slice ai t.init.length ci) (.slice ag t.goal.length cg) (.slice ao t.ops.length co) 25
  replace HT := Lib.hid HT; replace HB := Lib.hid HB; have OK := Lib.hid ok; have K1 := Lib.hid K1
  clear h ok
  go_enter Try.func79, Try.ntmps79
  go_upto_region 1 with fail
  generalize (w.alloc (.cells #[.int .i64 t.n, .slice ai t.init.length ci, .slice ag t.goal.length cg, .slice ao t.ops.length co] 25)) = w1 at HT HB K1 ⊢
  obtain ⟨d0, d1, d2, d3⟩ := HB.out
  have hbx := HB.out.lt
  have BI := Lib.hid (set_bound OK.out.init OK.out.n1); have BG := Lib.hid (set_bound OK.out.goal OK.out.n1)
  go_still_tail 7, (by kernel_rfl)
  still_call (word_still (HT.out.init.keeps0 ((Keeps.refl _ _).drew)) BI.out)
  repeat still_step
  still_call (word_still (HT.out.goal.keeps0 ((Keeps.refl _ _).drew)) BG.out)
  repeat still_step
  refine wpStill_nil ?_
  change wpList _ _ _ _ _ w1.drew
  have K2 := Lib.hid (K1.out.drew)
  have HT2 := Lib.hid (HT.out.keeps0 ((Keeps.refl _ _).drew))
  have HB2 := Lib.hid (HB.out.keeps0 ((Keeps.refl _ _).drew))
  generalize w1.drew = w2 at K2 HT2 HB2 ⊢
  clear d0 d1 d2 d3 hbx
  obtain ⟨d0, d1, d2, d3⟩ := HB2.out
  have hbx := HB2.out.lt
  obtain ⟨i0, hi0, hz0, hz1, hz2⟩ := info_parts Try.info_mask
  have HC := Lib.hid (HT2.out.ops.cell rfl)
  go_wp2_with fail
  obtain ⟨bb, hbb⟩ : ∃ bb, w2.heap.size = bb := ⟨_, rfl⟩
  have HS : Hid (WordsAt (w2.alloc (.cells #[.int .u32 ((wd t.init : Nat) : Int), .int .u32 ((wd t.goal : Nat) : Int), .slice none 0 0] 143)) bb bb (wd t.init) (wd t.goal) (.slice none 0 0) (wordsOf (t.ops.take 0)) ∧ Keeps (fun _ => False) w2 (w2.alloc (.cells #[.int .u32 ((wd t.init : Nat) : Int), .int .u32 ((wd t.goal : Nat) : Int), .slice none 0 0] 143))) :=
    ⟨⟨by rw [← hbb]; exact heap_alloc_new _ _, World.ownsRow_nil _ _ _ _, Nat.le_refl _, by simp [Value.ownBlock]⟩, (Keeps.refl _ _).alloc _⟩
  rw [hbb]
  have HBB := Lib.hid hbb
  clear hbb
  generalize (w2.alloc (.cells #[.int .u32 ((wd t.init : Nat) : Int), .int .u32 ((wd t.goal : Nat) : Int), .slice none 0 0] 143)) = w3 at HS ⊢
  go_loopw [17] (fun i wr => ∃ k : Nat, k ≤ t.ops.length ∧ i = .int .i64 (k : Int) ∧ (∃ v, WordsAt wr bb bb (wd t.init) (wd t.goal) v (wordsOf (t.ops.take k))) ∧ Keeps (fun _ => False) w2 wr) (fun i _ => t.ops.length - (intOf i).toNat)
  case atStart => exact ⟨0, Nat.zero_le _, rfl, ⟨_, HS.out.1⟩, HS.out.2⟩
  case round =>
    obtain ⟨k, hk, rfl, ⟨v, hw⟩, hkw⟩ := hrel
    have HW := Lib.hid hw; have KW := Lib.hid hkw
    clear hw hkw
    by_cases hlt : k < t.ops.length
    · obtain ⟨bo, oo, rfl, hcell⟩ := HC.out (by omega)
      obtain ⟨o, ho⟩ : ∃ o, t.ops[k]? = some o := ⟨_, List.getElem?_eq_getElem hlt⟩
      obtain ⟨va, vb, vc, p0, p1, p2, p3, i1, i2, i3⟩ := hcell k o ho
      have hom := OK.out.ops o (List.mem_of_getElem? ho)
      have U1 := Lib.hid (set_bound hom.pre OK.out.n1); have U2 := Lib.hid (set_bound hom.add OK.out.n1); have U3 := Lib.hid (set_bound hom.del OK.out.n1)
      have HTK := Lib.hid (take_getS ho)
      have q0 := KW.out.cell p0 (fun h => h)
      have q1 := KW.out.cell p1 (fun h => h)
      have q2 := KW.out.cell p2 (fun h => h)
      have q3 := KW.out.cell p3 (fun h => h)
      obtain ⟨a1, k1, f1, _⟩ := i1.form
      obtain ⟨a2, k2, f2, _⟩ := i2.form
      obtain ⟨a3, k3, f3, _⟩ := i3.form
      subst f1 f2 f3
      have K4 := (Keeps.refl (fun _ => False) wr).alloc (.cells #[.slice a1 o.pre.length k1, .slice a2 o.add.length k2, .slice a3 o.del.length k3, .int .i64 o.cost] 39)
      have HO4 := Four.new wr (.slice a1 o.pre.length k1) (.slice a2 o.add.length k2) (.slice a3 o.del.length k3) (.int .i64 o.cost) 39
      have I1 := Lib.hid (i1.keeps0 (KW.out.trans K4)); have I2 := Lib.hid (i2.keeps0 (KW.out.trans K4)); have I3 := Lib.hid (i3.keeps0 (KW.out.trans K4))
      clear hcell ho hom p0 p1 p2 p3 i1 i2 i3
      go_upto_region 5 with fail
      have KW4 := Lib.hid (KW.out.trans K4)
      have HO4' := Lib.hid HO4
      have HW4 := Lib.hid (HW.out.keeps0 K4)
      clear K4 HO4
      obtain ⟨b4, hb4⟩ : ∃ b4, wr.heap.size = b4 := ⟨_, rfl⟩
      rw [hb4] at HO4' ⊢
      have hv4 : v.ownBlock ≠ some b4 := fun e => by have := (World.ownsRow.lt HW.out.own b4 e).2; omega
      have hbb4 : b4 ≠ bb := by have := lt_of_heap HW.out.blk; omega
      have HNE := Lib.hid hbb4
      clear q0 q1 q2 q3 hb4 hbb4
      generalize (wr.alloc (.cells #[.slice a1 o.pre.length k1, .slice a2 o.add.length k2, .slice a3 o.del.length k3, .int .i64 o.cost] 39)) = w4 at KW4 HO4' HW4 I1 I2 I3 ⊢
      obtain ⟨c0, c1, c2, c3⟩ := HO4'.out
      have g2 : w4.cell? ⟨bb, 2, none⟩ = some v := by rw [cell_of_blk HW4.out.blk]; rfl
      have gz : w4.frozen? ⟨bb, 2, none⟩ = false := frozen_of_blk HW4.out.blk
      have gl := lt_of_heap HW4.out.blk
      have hg4 := HO4'.out.lt
      have hbb4 := HNE.out
      have J1 := Lib.hid (word_still (I1.out.keeps0 ((Keeps.refl _ _).drew)) U1.out)
      have J2 := Lib.hid (word_still (I2.out.keeps0 ((Keeps.refl _ _).drew)) U2.out)
      have J3 := Lib.hid (word_still (I3.out.keeps0 ((Keeps.refl _ _).drew)) U3.out)
      have hnb : (wordsOf (t.ops.take k)).length ≤ 40 := by unfold wordsOf; simp; have := OK.out.few; omega
      have hbase : bb ≤ w4.heap.size := by omega
      have e1 := World.new_ne w4 ⟨bb, 2, none⟩ g2
      refine wp_region_L (by kernel_rfl) (fun w' => w'.cell? ⟨bb, 2, none⟩ = some v ∧ w'.cell? ⟨b4, 0, none⟩ = some (.slice a1 o.pre.length k1) ∧ w'.cell? ⟨b4, 1, none⟩ = some (.slice a2 o.add.length k2) ∧ w'.cell? ⟨b4, 2, none⟩ = some (.slice a3 o.del.length k3) ∧ w'.cell? ⟨b4, 3, none⟩ = some (.int .i64 o.cost)) [0, 1, 2, 3, 4, 5, 6, 8, 9, 11, 12, 14, 15, 16] ?_
      have hS : w4.drew.cell? ⟨bb, 2, none⟩ = some v ∧ w4.drew.cell? ⟨b4, 0, none⟩ = some (.slice a1 o.pre.length k1) ∧ w4.drew.cell? ⟨b4, 1, none⟩ = some (.slice a2 o.add.length k2) ∧ w4.drew.cell? ⟨b4, 2, none⟩ = some (.slice a3 o.del.length k3) ∧ w4.drew.cell? ⟨b4, 3, none⟩ = some (.int .i64 o.cost) := ⟨g2, c0, c1, c2, c3⟩
      refine wpAnyL_take (i := 0) (v := ?_) rfl (by decide) (by kernel_rfl) (by kernel_rfl) (by kernel_rfl) (fun _ _ _ h => h) rfl ?_ hS ?_
      rotate_left
      · (intro w' hSw; obtain ⟨t0, t1, t2, t3, t4⟩ := hSw; go_simp; try with_reducible rfl)
      try simp only [Act.put, List.setIfInBounds_toArray]
      refine wpAnyL_take (i := 1) (v := ?_) rfl (by decide) (by kernel_rfl) (by kernel_rfl) (by kernel_rfl) (fun _ _ _ h => h) rfl ?_ hS ?_
      rotate_left
      · (intro w' hSw; obtain ⟨t0, t1, t2, t3, t4⟩ := hSw; go_simp; try with_reducible rfl)
      try simp only [Act.put]
      refine wpAnyL_take (i := 2) (v := ?_) rfl (by decide) (by kernel_rfl) (by kernel_rfl) (by kernel_rfl) (fun _ _ _ h => h) rfl ?_ hS ?_
      rotate_left
      · (intro w' hSw; obtain ⟨t0, t1, t2, t3, t4⟩ := hSw; go_simp; try with_reducible rfl)
      try simp only [Act.put]
      refine wpAnyL_take (i := 3) (v := ?_) rfl (by decide) (by kernel_rfl) (by kernel_rfl) (by kernel_rfl) (fun _ _ _ h => h) rfl ?_ hS ?_
      rotate_left
      · (intro w' hSw; obtain ⟨t0, t1, t2, t3, t4⟩ := hSw; go_simp; try with_reducible rfl)
      try simp only [Act.put]
      refine wpAnyL_take (i := 4) (v := ?_) rfl (by decide) (by kernel_rfl) (by kernel_rfl) (by kernel_rfl) (fun _ _ _ h => h) rfl ?_ hS ?_
      rotate_left
      · (intro w' hSw; obtain ⟨t0, t1, t2, t3, t4⟩ := hSw; go_simp; try with_reducible rfl)
      try simp only [Act.put]
      refine wpAnyL_take (i := 5) (v := ?_) rfl (by decide) (by kernel_rfl) (by kernel_rfl) (by kernel_rfl) (fun _ _ _ h => h) rfl ?_ hS ?_
      rotate_left
      · (intro w' hSw; obtain ⟨t0, t1, t2, t3, t4⟩ := hSw; go_simp; try with_reducible rfl)
      try simp only [Act.put]
      refine wpAnyL_take (i := 6) (v := ?_) rfl (by decide) (by kernel_rfl) (by kernel_rfl) (by kernel_rfl) (fun _ _ _ h => h) rfl ?_ hS ?_
      rotate_left
      · (intro w' hSw; obtain ⟨t0, t1, t2, t3, t4⟩ := hSw; go_simp; try with_reducible rfl)
      try simp only [Act.put]
      refine wpAnyL_take (i := 8) (v := ?_) rfl (by decide) (by kernel_rfl) (by kernel_rfl) (by kernel_rfl) (fun _ _ _ h => h) rfl ?_ hS ?_
      rotate_left
      · (intro w' hSw; obtain ⟨t0, t1, t2, t3, t4⟩ := hSw; go_simp; try with_reducible rfl)
      try simp only [Act.put]
      refine wpAnyL_take (i := 9) (v := ?_) rfl (by decide) (by kernel_rfl) (by kernel_rfl) (by kernel_rfl) (fun _ _ _ h => h) rfl ?_ hS ?_
      rotate_left
      · (intro w' hSw; obtain ⟨t0, t1, t2, t3, t4⟩ := hSw; go_simp; try with_reducible rfl)
      try simp only [Act.put]
      refine wpAnyL_take (i := 11) (v := ?_) rfl (by decide) (by kernel_rfl) (by kernel_rfl) (by kernel_rfl) (fun _ _ _ h => h) rfl ?_ hS ?_
      rotate_left
      · (intro w' hSw; obtain ⟨t0, t1, t2, t3, t4⟩ := hSw; go_simp; try with_reducible rfl)
      try simp only [Act.put]
      refine wpAnyL_take (i := 12) (v := ?_) rfl (by decide) (by kernel_rfl) (by kernel_rfl) (by kernel_rfl) (fun _ _ _ h => h) rfl ?_ hS ?_
      rotate_left
      · (intro w' hSw; obtain ⟨t0, t1, t2, t3, t4⟩ := hSw; go_simp; try with_reducible rfl)
      try simp only [Act.put]
      refine wpAnyL_take (i := 14) (v := ?_) rfl (by decide) (by kernel_rfl) (by kernel_rfl) (by kernel_rfl) (fun _ _ _ h => h) rfl ?_ hS ?_
      rotate_left
      · (intro w' hSw; obtain ⟨t0, t1, t2, t3, t4⟩ := hSw; go_simp; try with_reducible rfl)
      try simp only [Act.put]
      refine wpAnyL_take (i := 15) (v := ?_) rfl (by decide) (by kernel_rfl) (by kernel_rfl) (by kernel_rfl) (fun _ _ _ h => h) rfl ?_ hS ?_
      rotate_left
      · (intro w' hSw; obtain ⟨t0, t1, t2, t3, t4⟩ := hSw; go_simp; try with_reducible rfl)
      try simp only [Act.put]
      refine wpAnyL_one (i := 7) rfl (by kernel_rfl) (fun K hK => ?_)
      go_simp
      refine J1.out.mono ?_; rintro e w' ⟨rfl, rfl⟩
      refine hK _ _ hS ?_
      clear hK K
      try simp only [Act.put, List.setIfInBounds_toArray, List.set_cons_zero, List.set_cons_succ]
      refine wpAnyL_one (i := 10) rfl (by kernel_rfl) (fun K hK => ?_)
      go_simp
      refine J2.out.mono ?_; rintro e w' ⟨rfl, rfl⟩
      refine hK _ _ hS ?_
      clear hK K
      try simp only [Act.put, List.setIfInBounds_toArray, List.set_cons_zero, List.set_cons_succ]
      refine wpAnyL_one (i := 13) rfl (by kernel_rfl) (fun K hK => ?_)
      go_simp
      refine J3.out.mono ?_; rintro e w' ⟨rfl, rfl⟩
      refine hK _ _ hS ?_
      clear hK K
      try simp only [Act.put, List.setIfInBounds_toArray, List.set_cons_zero, List.set_cons_succ]
      refine wpAnyL_take (i := 16) (v := ?_) rfl (by decide) (by kernel_rfl) (by kernel_rfl) (by kernel_rfl) (fun _ _ _ h => h) rfl ?_ hS ?_
      rotate_left
      · (intro w' hSw; obtain ⟨t0, t1, t2, t3, t4⟩ := hSw; go_simp; try with_reducible rfl)
      try simp only [Act.put, List.setIfInBounds_toArray]
      refine wpAnyL_one (i := 17) rfl (by kernel_rfl) (fun K hK => ?_)
      go_simp
      refine hK _ _ ?_ ?_
      · obtain ⟨t0, t1, t2, t3, t4⟩ := hS
        have kk := (Keeps.refl (fun _ => False) w4.drew).alloc (.cells #[.int .u32 ((wd o.pre : Nat) : Int), .int .u32 ((wd o.add : Nat) : Int), .int .u32 ((wd o.del : Nat) : Int), .int .i64 o.cost] 146)
        exact ⟨kk.cell t0 (fun h => h), kk.cell t1 (fun h => h), kk.cell t2 (fun h => h), kk.cell t3 (fun h => h), kk.cell t4 (fun h => h)⟩
      clear hK K hS
      try simp only [Act.put, List.setIfInBounds_toArray, List.set_cons_zero, List.set_cons_succ]
      refine wpAnyL_one (i := 18) rfl (by kernel_rfl) (fun K hK => ?_)
      refine step_append_lies _ (by rfl) (.tmp 25) (.tmp 38) 141 (by rfl) bb 146 i0 _ 4 24 Try.underlying141 hi0 hz0 hz1 hz2 rfl (by omega) v (wordsOf (t.ops.take k)).length (wopCells (wordsOf (t.ops.take k))) (by rfl) ((HW4.out.own.drew).alloc _) ⟨w4.heap.size, 0, none⟩ 1 1 [.int .u32 ((wd o.pre : Nat) : Int), .int .u32 ((wd o.add : Nat) : Int), .int .u32 ((wd o.del : Nat) : Int), .int .i64 o.cost] (by rfl) (by rfl) (World.news_of_block (cs := #[.int .u32 ((wd o.pre : Nat) : Int), .int .u32 ((wd o.add : Nat) : Int), .int .u32 ((wd o.del : Nat) : Int), .int .i64 o.cost]) (t := 146) (fr := (0, 0)) (heap_alloc_new w4.drew _)) (by simp [Value.oneCell']) (by omega) (by unfold maxLen; omega) (by omega) (by simp; omega) (w4.heap.size + 1) (by simp) ?_
      intro g cap w5 hown hgrow hat hlt5
      have s0 := grown_cell (w4 := w4) hgrow g2 HW4.out.ne
      have s1 := grown_cell (w4 := w4) hgrow c0 hv4
      have s2 := grown_cell (w4 := w4) hgrow c1 hv4
      have s3 := grown_cell (w4 := w4) hgrow c2 hv4
      have s4 := grown_cell (w4 := w4) hgrow c3 hv4
      have sb := Lib.hid (grown_heap (w4 := w4) hgrow HW4.out.blk HW4.out.ne)
      have sz := frozen_of_blk (o := 2) sb.out
      have sl := lt_of_heap sb.out
      refine hK _ _ ⟨s0, s1, s2, s3, s4⟩ ?_
      clear hK K s1 s2 s3 s4
      try simp only [Act.put, List.setIfInBounds_toArray]
      refine wpAnyL_late (i := 19) rfl (by kernel_rfl) (by kernel_rfl) (fun K hK => ?_)
      go_simp
      refine hK _ _ ?_
      clear hK K
      refine wpAnyL_late (i := 20) rfl (by kernel_rfl) (by kernel_rfl) (fun K hK => ?_)
      go_simp
      refine hK _ _ ?_
      clear hK K
      refine wpAnyL_late (i := 21) rfl (by kernel_rfl) (by kernel_rfl) (fun K hK => ?_)
      go_simp
      refine hK _ _ ?_
      clear hK K
      refine wpAnyL_done (by kernel_rfl) ?_ _
      have HN := Lib.hid (show WordsAt (w5.setCell ⟨bb, 2, none⟩ (.slice (some ⟨g, 0, none⟩) ((wordsOf (t.ops.take k)).length + 1) cap)) bb bb (wd t.init) (wd t.goal) (.slice (some ⟨g, 0, none⟩) ((wordsOf (t.ops.take k)).length + 1) cap) (wordsOf (t.ops.take (k + 1))) by
        have e : wordsOf (t.ops.take (k + 1)) = wordsOf (t.ops.take k) ++ [o.word] := by rw [HTK.out]; unfold wordsOf; simp
        rw [e]
        exact WordsAt.push (w4 := w4) (p := o.word) HW4.out hgrow rfl hown hat)
      have HKN := Lib.hid (WordsAt.pushKeeps (w4 := w4) HW4.out hgrow HBB.out KW4.out (.slice (some ⟨g, 0, none⟩) ((wordsOf (t.ops.take k)).length + 1) cap))
      clear hown hgrow hat s0 sz sl
      generalize (w5.setCell ⟨bb, 2, none⟩ (.slice (some ⟨g, 0, none⟩) ((wordsOf (t.ops.take k)).length + 1) cap)) = w6 at HN HKN ⊢
      go_wp2_with fail
      go_roundw
      case rel => exact ⟨k + 1, by omega, by go_num, ⟨_, HN.out⟩, HKN.out⟩
      case measure => simp [intOf]; omega
    · obtain rfl : k = t.ops.length := by omega
      have hf := HW.out
      rw [List.take_length] at hf
      have HFIN := Lib.hid (show WordsAt wr w.heap.size bb (wd t.init) (wd t.goal) v (wordsOf t.ops) from ⟨hf.blk, ownsRow_mono4 hf.own (by have := K2.out.size; have := HBB.out; omega), by have := K2.out.size; have := HBB.out; omega, hf.ne⟩)
      clear hf
      go_wp2_with fail
      go_ret
      exact ⟨bb, v, rfl, HFIN.out, K2.out.trans KW.out⟩

end Go.Proofs.Ytdonadeodioplaa

namespace Go.Proofs.Ytdonadeodioplaa
open Go.RowKit

theorem Try.info22 : (Try.prog.info? 22).map (fun i => (i.zero, i.size, i.bytes)) = some (some (.slice none 0 0), 1, 24) := by kernel_rfl

theorem Ints.keepsS {S : Nat → Prop} {w w' : World} {v : Value} {l : List Int} (h : Ints w v l) (hk : Keeps S w w') (hs : 0 < l.length → ∀ k, v.ownBlock = some k → ¬ S k) : Ints w' v l := by
  obtain ⟨ao, cap, hv, hm, h⟩ := h
  refine ⟨ao, cap, hv, hm, fun hn => ?_⟩
  obtain ⟨b, off, ha, hc⟩ := h hn
  exact ⟨b, off, ha, fun j x hj => hk.cell (hc j x hj) (hs hn b (by rw [hv, ha]; rfl))⟩
theorem Ints.lt {w : World} {v : Value} {l : List Int} (h : Ints w v l) (h0 : 0 < l.length) (k : Nat) (hk : v.ownBlock = some k) : k < w.heap.size := by
  obtain ⟨ao, cap, hv, hm, h⟩ := h
  obtain ⟨b, off, ha, hc⟩ := h h0
  rw [hv, ha] at hk
  simp [Value.ownBlock] at hk
  subst hk
  have := World.block_lt_of_cell? w _ (hc 0 _ (by rw [List.getElem?_map, List.getElem?_eq_getElem h0]; rfl))
  simpa using this

/-- The rows of ReachedFrom: the states and their words. -/
structure Rows (W : World) (base : Nat) (v vw : Value) (L : List Nat) (vs : List Value) : Prop where
  out : W.ownsRow base 22 1 v L.length vs
  words : W.ownsRow base 3 1 vw L.length (L.map fun x : Nat => Value.int .i64 (x : Int))
  st : ∀ (i : Nat) (x : Nat), L[i]? = some x → ∃ u, vs[i]? = some u ∧ Ints W u (facts x) ∧ (0 < (facts x).length → ∀ k, u.ownBlock = some k → v.ownBlock ≠ some k ∧ vw.ownBlock ≠ some k)

theorem Rows.apart {W : World} {base : Nat} {v vw : Value} {L : List Nat} {vs : List Value} (h : Rows W base v vw L vs) (k : Nat) (hk : v.ownBlock = some k) : vw.ownBlock ≠ some k := by
  intro e
  rcases h.out.2 with ⟨rfl, _⟩ | ⟨g, cap, cur, rfl, _, hg, _⟩
  · simp [Value.ownBlock] at hk
  · rcases h.words.2 with ⟨rfl, _⟩ | ⟨g', cap', cur', rfl, _, hg', _⟩
    · simp [Value.ownBlock] at e
    · simp [Value.ownBlock] at hk e
      subst hk; subst e
      rw [hg] at hg'; simp at hg'

theorem Rows.keeps0 {W W' : World} {base : Nat} {v vw : Value} {L : List Nat} {vs : List Value} (h : Rows W base v vw L vs) (hk : Keeps (fun _ => False) W W') : Rows W' base v vw L vs :=
  ⟨hk.ownsRow h.out (fun _ _ h => h), hk.ownsRow h.words (fun _ _ h => h), fun i x hx => by
    obtain ⟨u, h1, h2, h3⟩ := h.st i x hx
    exact ⟨u, h1, h2.keeps0 hk, h3⟩⟩

/-- The rows with one state more. -/
theorem Rows.snoc {W7 W8 W9 : World} {base : Nat} {v vw vo' vw' vn : Value} {Q : List Nat} {vs : List Value} {y : Nat} (h : Rows W7 base v vw Q vs) (hn : Ints W7 vn (facts y))
    (hnb : ∀ k, vn.ownBlock = some k → v.ownBlock ≠ some k ∧ vw.ownBlock ≠ some k) (hnl : ∀ k, vn.ownBlock = some k → k < W7.heap.size)
    (K78 : Keeps (fun k => v.ownBlock = some k) W7 W8) (ho : W8.ownsRow base 22 1 vo' (Q.length + 1) (vs ++ [vn])) (hg : ∀ k, vo'.ownBlock = some k → v.ownBlock = some k ∨ W7.heap.size ≤ k)
    (K89 : Keeps (fun k => vw.ownBlock = some k) W8 W9) (hw : W9.ownsRow base 3 1 vw' (Q.length + 1) (Q.map (fun x : Nat => Value.int .i64 (x : Int)) ++ [.int .i64 (y : Int)])) (hg2 : ∀ k, vw'.ownBlock = some k → vw.ownBlock = some k ∨ W8.heap.size ≤ k) :
    Rows W9 base vo' vw' (Q ++ [y]) (vs ++ [vn]) := by
  have hlv : ∀ k, v.ownBlock = some k → k < W7.heap.size := fun k hk => (World.ownsRow.lt h.out k hk).2
  have hlw : ∀ k, vw.ownBlock = some k → k < W7.heap.size := fun k hk => (World.ownsRow.lt h.words k hk).2
  have hsz := K78.size
  refine ⟨?_, ?_, fun i x hx => ?_⟩
  · rw [List.length_append]
    refine K89.ownsRow ho (fun k hk e => ?_)
    rcases hg k hk with h1 | h1
    · exact h.apart k h1 e
    · have := hlw k e; omega
  · rw [List.length_append, List.map_append]; exact hw
  · by_cases hlt : i < Q.length
    · rw [List.getElem?_append_left hlt] at hx
      obtain ⟨u, h1, h2, h3⟩ := h.st i x hx
      have hlv2 : i < vs.length := (List.getElem?_eq_some_iff.1 h1).1
      refine ⟨u, by rw [List.getElem?_append_left hlv2]; exact h1, ?_, ?_⟩
      · exact (h2.keepsS K78 (fun h0 k hk e => (h3 h0 k hk).1 e)).keepsS K89 (fun h0 k hk e => (h3 h0 k hk).2 e)
      · intro h0 k hk
        have hl := Ints.lt h2 h0 k hk
        refine ⟨fun e => ?_, fun e => ?_⟩
        · rcases hg k e with h4 | h4
          · exact (h3 h0 k hk).1 h4
          · omega
        · rcases hg2 k e with h4 | h4
          · exact (h3 h0 k hk).2 h4
          · omega
    · have hvl : vs.length = Q.length := by simpa using h.out.1
      have hil := (List.getElem?_eq_some_iff.1 hx).1
      have hi : i = Q.length := by simp at hil; omega
      subst hi
      rw [List.getElem?_append_right (Nat.le_refl _)] at hx
      simp at hx; subst hx
      refine ⟨vn, by rw [← hvl, List.getElem?_append_right (Nat.le_refl _)]; simp, ?_, ?_⟩
      · exact (hn.keepsS K78 (fun _ k hk e => (hnb k hk).1 e)).keepsS K89 (fun _ k hk e => (hnb k hk).2 e)
      · intro h0 k hk
        have hl := hnl k hk
        refine ⟨fun e => ?_, fun e => ?_⟩
        · rcases hg k e with h4 | h4
          · exact (hnb k hk).1 h4
          · omega
        · rcases hg2 k e with h4 | h4
          · exact (hnb k hk).2 h4
          · omega

/-- A word is that of a set of facts below n. -/
def Good (n : Int) (x : Nat) : Prop := isSetB (facts x) n = true ∧ wd (facts x) = x

theorem good_wd {n : Int} (hn : n ≤ 32) {s : List Int} (hs : isSetB s n = true) : Good n (wd s) := by
  unfold Good
  rw [facts_wd (isSet_mono hs hn)]
  exact ⟨hs, rfl⟩
theorem good_next {n : Int} (hn : n ≤ 32) {o : Opr} (ho : o.Ok n) {x : Nat} (hx : Good n x) : appL o (facts x) = o.word.can x ∧ aftL n o (facts x) = facts (o.word.next x) ∧ Good n (o.word.next x) := by
  have h1 := appL_word ho hx.1
  have h2 := wd_aftL hn ho hx.1
  rw [hx.2] at h1 h2
  have h3 := isSet_aftL n o (facts x)
  refine ⟨h1, ?_, ?_⟩
  · rw [← h2, facts_wd (isSet_mono h3 hn)]
  · rw [← h2]; exact good_wd hn h3

theorem nexts_take {ops : List Wop} {j : Nat} {o : Wop} (h : ops[j]? = some o) (x : Nat) : nexts (ops.take (j + 1)) x = nexts (ops.take j) x ++ (if o.can x = true then [o.next x] else []) := by
  unfold nexts
  rw [take_getS h, List.filter_append, List.map_append]
  cases hc : o.can x <;> simp [hc]

theorem freshs_append (xs ys : List Nat) : ∀ seen, freshs seen (xs ++ ys) = freshs seen xs ++ freshs (seen ++ freshs seen xs) ys := by
  induction xs with
  | nil => intro seen; simp [freshs]
  | cons x r ih =>
    intro seen
    rw [List.cons_append, freshs, freshs]
    split
    · exact ih _
    · rw [ih]; simp

theorem nexts_split (ops : List Wop) (j x : Nat) : nexts ops x = nexts (ops.take j) x ++ nexts (ops.drop j) x := by
  unfold nexts
  rw [← List.map_append, ← List.filter_append, List.take_append_drop]

/-- What ReachedFrom hands back. -/
def FromPost (ops : List Wop) (s : Nat) (w : World) (e : Ending) (w' : World) : Prop := Keeps (fun _ => False) w w' ∧
  ((reached ops s = none ∧ e = .returned (.tuple #[.slice none 0 0, .bool false])) ∨
   (∃ l, reached ops s = some l ∧ ∃ v vw vs, e = .returned (.tuple #[v, .bool true]) ∧ Rows w' w.heap.size v vw l vs))

set_option maxRecDepth 100000 in
set_option maxHeartbeats 4000000 in
theorem reachedFrom_any (w : World) (vi vg vo va : Value) (t : Tsk) (s : List Int) (h : TaskAt w vi vg vo t) (ok : t.Ok) (hs : Ints w va s) (hset : isSetB s t.n = true) :
    Calls Try.prog 61 #[.agg #[.int .i64 t.n, vi, vg, vo], va] w (FromPost (wordsOf t.ops) (wd s) w) := by
  obtain ⟨i0, hi0, hz0, hz1, hz2⟩ := info_parts Try.info3
  obtain ⟨j0, hj0, jz0, jz1, jz2⟩ := info_parts Try.info22
  obtain ⟨ai, ci, h1, _⟩ := h.init.form
  obtain ⟨ag, cg, h2, _⟩ := h.goal.form
  obtain ⟨ao, co, h3, hmo⟩ := h.ops.form
  obtain ⟨aa, cs, h4, _⟩ := hs.form
  subst h1 h2 h3 h4
  have hn32 : t.n ≤ 32 := by have := ok.n1; omega
  have hs32 := isSet_mono hset hn32
  have HB := Lib.hid (Four.new w (.int .i64 t.n) (.slice ai t.init.length ci) (.slice ag t.goal.length cg) (.slice ao t.ops.length co) 25)
  have K1 := (Keeps.refl (fun _ => False) w).alloc (.cells #[.int .i64 t.n, .slice ai t.init.length ci, .slice ag t.goal.length cg, .slice ao t.ops.length co] 25)
  have HT := Lib.hid (h.keeps0 K1); have HSS := Lib.hid (show Ints _ (.slice aa s.length cs) s from hs.keeps0 K1)
  have HK := Lib.hid K1; have OK := Lib.hid ok; have SET := Lib.hid hset; have S32 := Lib.hid hs32
  clear h hs K1 ok hset hs32
  go_enter Try.func61, Try.ntmps61
  go_upto_region 1 with fail
  generalize (w.alloc (.cells #[.int .i64 t.n, .slice ai t.init.length ci, .slice ag t.goal.length cg, .slice ao t.ops.length co] 25)) = w1 at HB HT HSS HK ⊢
  have hbx := HB.out.lt
  have KA := (Keeps.refl (fun _ => False) w1).alloc (.cells #[.slice aa s.length cs] 22)
  have HB2 := Lib.hid (HB.out.keeps0 KA); have HT2 := Lib.hid (HT.out.keeps0 KA); have HS2 := Lib.hid (show Ints _ (.slice aa s.length cs) s from HSS.out.keeps0 KA)
  have HR2 := Lib.hid (heap_alloc_new w1 (.cells #[.slice aa s.length cs] 22))
  have HK2 := Lib.hid (HK.out.trans KA)
  clear KA
  go_wp2_with fail
  refine (rword_any _ _ s HS2.out S32.out).mono ?_; rintro e w2 ⟨rfl, rfl⟩
  go_wp2_with fail
  have hbx' := HB2.out.lt
  have HR3 := Lib.hid (show Rows ((w1.alloc (.cells #[.slice aa s.length cs] 22)).alloc (.cells #[.int .i64 ((wd s : Nat) : Int)] 3)) w1.heap.size (.slice (some ⟨w1.heap.size, 0, none⟩) 1 1) (.slice (some ⟨w1.heap.size + 1, 0, none⟩) 1 1) [wd s] [.slice aa s.length cs] by
    have n2 := heap_alloc_new (w1.alloc (.cells #[.slice aa s.length cs] 22)) (.cells #[.int .i64 ((wd s : Nat) : Int)] 3)
    rw [World.size_alloc] at n2
    have k2 := (Keeps.refl (fun _ => False) (w1.alloc (.cells #[.slice aa s.length cs] 22))).alloc (.cells #[.int .i64 ((wd s : Nat) : Int)] 3)
    refine ⟨⟨by simp, .inr ⟨w1.heap.size, 1, _, rfl, Nat.le_refl _, k2.heap HR2.out (fun h => h), by simp, by unfold maxLen; omega, by simp, by simp⟩⟩, ⟨by simp, .inr ⟨w1.heap.size + 1, 1, _, rfl, by omega, n2, by simp, by unfold maxLen; omega, by simp, by simp⟩⟩, fun i x hx => ?_⟩
    cases i with
    | zero =>
      simp at hx; subst hx
      refine ⟨_, rfl, ?_, fun h0 k hk => ?_⟩
      · rw [facts_wd S32.out]; exact HS2.out.keeps0 k2
      · rw [facts_wd S32.out] at h0
        have := Ints.lt HSS.out h0 k hk
        simp [Value.ownBlock]; omega
    | succ i => simp at hx)
  have HK3 := Lib.hid (show Keeps (fun _ => False) w1 ((w1.alloc (.cells #[.slice aa s.length cs] 22)).alloc (.cells #[.int .i64 ((wd s : Nat) : Int)] 3)) from ((Keeps.refl _ _).alloc _).alloc _)
  generalize ((w1.alloc (.cells #[.slice aa s.length cs] 22)).alloc (.cells #[.int .i64 ((wd s : Nat) : Int)] 3)) = w2 at HR3 HK3 ⊢
  clear HB2 HT2 HS2 HR2 HK2 hbx' hbx
  go_loopw [6, 7, 8] (fun v6 v7 i8 wr => ∃ (i : Nat) (L : List Nat) (vs : List Value), bfs (wordsOf t.ops) (wd s) i = some L ∧ i ≤ L.length ∧ (∀ x ∈ L, Good t.n x) ∧ i8 = .int .i64 (i : Int) ∧ Rows wr w1.heap.size v6 v7 L vs ∧ Keeps (fun _ => False) w1 wr) (fun _ _ i8 _ => 2001 - (intOf i8).toNat)
  case atStart => exact ⟨0, [wd s], _, rfl, by simp, by intro x hx; simp at hx; subst hx; exact good_wd (by have := OK.out.n1; omega) SET.out, rfl, HR3.out, HK3.out⟩
  case round =>
    obtain ⟨i, L, vs, hb, hil, hg, rfl, hr, hkw⟩ := hrel
    have hfew := (bfs_ok hb).few
    have HBF := Lib.hid hb; have HG := Lib.hid hg; have HR := Lib.hid hr; have KW := Lib.hid hkw
    have hbr := (HB.out.keeps0 hkw).lt
    obtain ⟨d0, d1, d2, d3⟩ := HB.out.keeps0 hkw
    obtain ⟨av, cv, hav⟩ := ownsRow_form1 hr.out
    obtain ⟨aw, cw, haw⟩ := ownsRow_form1 hr.words
    subst hav haw
    clear hb hg hr hkw
    by_cases hlt : i < L.length
    · obtain ⟨x, hx⟩ : ∃ x, L[i]? = some x := ⟨_, List.getElem?_eq_getElem hlt⟩
      have HX := Lib.hid hx
      clear hx
      have hx32 : Good t.n x := HG.out x (List.mem_of_getElem? HX.out)
      have HGX := Lib.hid hx32
      clear hx32
      go_upto_region 7 with fail
      go_loopw [6, 7, 9] (fun v6 v7 i9 wq => ∃ (j : Nat) (vs : List Value), j ≤ t.ops.length ∧ i9 = .int .i64 (j : Int) ∧ (L ++ freshs L (nexts ((wordsOf t.ops).take j) x)).length ≤ 2000 ∧ Rows wq w1.heap.size v6 v7 (L ++ freshs L (nexts ((wordsOf t.ops).take j) x)) vs ∧ Keeps (fun _ => False) w1 wq) (fun _ _ i9 _ => t.ops.length - (intOf i9).toNat)
      case atStart => exact ⟨0, vs, by omega, rfl, by simpa [nexts, freshs] using hfew, by simpa [nexts, freshs] using HR.out, KW.out⟩
      case round =>
        obtain ⟨j, vs2, hj, rfl, hfew2, hr2, hkq⟩ := hrel
        generalize hQ : L ++ freshs L (nexts ((wordsOf t.ops).take j) x) = Q at hfew2 hr2
        have HQ := Lib.hid hQ; have HR2 := Lib.hid hr2; have KQ := Lib.hid hkq
        have hbq := (HB.out.keeps0 hkq).lt
        obtain ⟨q0, q1, q2, q3⟩ := HB.out.keeps0 hkq
        obtain ⟨av2, cv2, hav2⟩ := ownsRow_form1 hr2.out
        obtain ⟨aw2, cw2, haw2⟩ := ownsRow_form1 hr2.words
        subst hav2 haw2
        clear hQ hr2 hkq d0 d1 d2 d3 hbr
        by_cases hjl : j < t.ops.length
        · obtain ⟨o, ho⟩ : ∃ o, t.ops[j]? = some o := ⟨_, List.getElem?_eq_getElem hjl⟩
          have HOO := Lib.hid ho
          have hok := OK.out.ops o (List.mem_of_getElem? ho)
          obtain ⟨hap, haf, hgn⟩ := good_next (by have := OK.out.n1; omega : t.n ≤ 32) hok HGX.out
          have HAP := Lib.hid hap; have HAF := Lib.hid haf; have HGN := Lib.hid hgn
          have hwo : (wordsOf t.ops)[j]? = some o.word := by unfold wordsOf; rw [List.getElem?_map, ho]; rfl
          have HNT := Lib.hid (nexts_take hwo x)
          clear ho hok hap haf hgn hwo
          have hQi : Q[i]? = some x := by rw [← HQ.out, List.getElem?_append_left hlt]; exact HX.out
          have hQl : i < Q.length := (List.getElem?_eq_some_iff.1 hQi).1
          obtain ⟨u, hu, hiu, hua⟩ := HR2.out.st i x hQi
          obtain ⟨gq, capq, hvq, hg1, hg2⟩ := HR2.out.out.form (by omega)
          simp only [Value.slice.injEq] at hvq
          obtain ⟨rfl, _, rfl⟩ := hvq
          have hcu : wr.cell? ⟨gq, i, none⟩ = some u := by
            have := World.ownsRow.cells HR2.out.out (g := gq) rfl i u hu
            have hadd : (⟨gq, 0, none⟩ : Addr).add i = ⟨gq, i, none⟩ := by unfold Addr.add; split <;> simp_all
            rwa [hadd] at this
          obtain ⟨au, cu, hfu, _⟩ := hiu.form
          have HIU := Lib.hid hiu; have HUA := Lib.hid hua; have HTQ := Lib.hid (HT.out.keeps0 KQ.out)
          subst hfu
          clear hQi hu hiu hua
          go_upto_region 9 with fail
          go_still_tail 6, (by kernel_rfl)
          change wpList _ _ _ _ _ wr.drew
          have KD := (Keeps.refl (fun _ => False) wr).drew
          have HTD := Lib.hid (HTQ.out.keeps0 KD); have HID := Lib.hid (show Ints wr.drew (.slice au (facts x).length cu) (facts x) from HIU.out.keeps0 KD)
          have HRD := Lib.hid (HR2.out.keeps0 KD); have KDD := Lib.hid (KQ.out.trans KD)
          have hcu2 := KD.cell hcu (fun h => h)
          clear KD hcu q0 q1 q2 q3 HTQ HIU HR2 KQ
          generalize wr.drew = w4 at HTD HID HRD KDD hcu2 ⊢
          go_wp2_with fail
          refine (applies_any _ _ _ _ _ t (facts x) j o HTD.out HID.out HOO.out).mono ?_; rintro e w5 ⟨rfl, hk5⟩
          rw [HAP.out]
          have HR5 := Lib.hid (HRD.out.keeps0 hk5); have HT5 := Lib.hid (HTD.out.keeps0 hk5); have HI5 := Lib.hid (show Ints w5 (.slice au (facts x).length cu) (facts x) from HID.out.keeps0 hk5); have K5 := Lib.hid (KDD.out.trans hk5)
          have hcu5 := hk5.cell hcu2 (fun h => h)
          clear hk5 HRD HTD HID KDD hcu2
          cases hcan : o.word.can x with
          | false =>
            have HSQ := Lib.hid (show L ++ freshs L (nexts ((wordsOf t.ops).take (j + 1)) x) = Q by rw [HNT.out, hcan]; simpa using HQ.out)
            clear hcan
            go_wp2_with fail
            go_roundw
            case rel => exact ⟨j + 1, vs2, by omega, by go_num, by rw [HSQ.out]; exact hfew2, by rw [HSQ.out]; exact HR5.out, K5.out⟩
            case measure => simp [intOf]; omega
          | true =>
            have HCAN := Lib.hid hcan
            clear hcan
            have hb5 := (HB.out.keeps0 K5.out).lt
            obtain ⟨q0, q1, q2, q3⟩ := HB.out.keeps0 K5.out
            go_upto_region 10 with fail
            go_still_tail 6, (by kernel_rfl)
            change wpList _ _ _ _ _ w5.drew
            have KD := (Keeps.refl (fun _ => False) w5).drew
            have HTD := Lib.hid (HT5.out.keeps0 KD); have HID := Lib.hid (show Ints w5.drew (.slice au (facts x).length cu) (facts x) from HI5.out.keeps0 KD)
            have hcu6 := KD.cell hcu5 (fun h => h)
            have HRD := Lib.hid (HR5.out.keeps0 KD); have KDD := Lib.hid (K5.out.trans KD)
            clear KD hcu5 q0 q1 q2 q3 HT5 HI5 HR5 K5 hb5
            generalize w5.drew = w6 at HTD HID HRD KDD hcu6 ⊢
            go_wp2_with fail
            refine (after_any _ _ _ _ _ t (facts x) j o HTD.out HID.out HOO.out OK.out.n0 (by have := OK.out.n1; omega)).mono ?_; rintro e w7 ⟨vn, rfl, hown7, hk7⟩
            rw [HAF.out] at hown7
            have HI7 := Lib.hid (show Ints w7 vn (facts (o.word.next x)) from Sl.of_own hown7 |> fun h => by simpa [Ints] using h)
            have HLO := Lib.hid (fun k hk => World.ownsRow.lt hown7 k hk)
            obtain ⟨an, cn, hvn⟩ := ownsRow_form1 hown7
            subst hvn
            have HR7 := Lib.hid (HRD.out.keeps0 hk7); have K7 := Lib.hid (KDD.out.trans hk7)
            have hs6 := hk7.size
            clear hown7 hk7 HTD HID KDD hcu6
            go_wp2_with fail
            refine (rword_any _ _ _ HI7.out (isSet_mono HGN.out.1 (by have := OK.out.n1; omega))).mono ?_; rintro e w8 ⟨rfl, rfl⟩
            rw [HGN.out.2]
            go_wp2_with fail
            have HW7 := Lib.hid (show Ints w7 (.slice aw2 Q.length cw2) (Q.map fun y : Nat => (y : Int)) by
              have h := Sl.of_own HR7.out.words
              unfold Ints
              rw [List.length_map, List.map_map]
              exact h)
            refine (has_any _ _ _ _ HW7.out).mono ?_; rintro e w8 ⟨rfl, rfl⟩
            have hsnoc := freshs_snoc (nexts ((wordsOf t.ops).take j) x) (o.word.next x) L
            rw [HQ.out] at hsnoc
            by_cases hmem : o.word.next x ∈ Q
            · have HD : Hid (decide (((o.word.next x : Nat) : Int) ∈ Q.map fun y : Nat => (y : Int)) = true) := by
                unfold Hid; rw [decide_eq_true_eq]; exact List.mem_map.2 ⟨_, hmem, rfl⟩
              have HSQ := Lib.hid (show L ++ freshs L (nexts ((wordsOf t.ops).take (j + 1)) x) = Q by
                rw [HNT.out, HCAN.out, if_pos rfl, hsnoc, if_pos hmem, List.append_nil]; exact HQ.out)
              rw [HD.out]
              clear hsnoc hmem
              go_wp2_with fail
              go_roundw
              case rel => exact ⟨j + 1, vs2, by omega, by go_num, by rw [HSQ.out]; exact hfew2, by rw [HSQ.out]; exact HR7.out, K7.out⟩
              case measure => simp [intOf]; omega
            · have HD : Hid (decide (((o.word.next x : Nat) : Int) ∈ Q.map fun y : Nat => (y : Int)) = false) := by
                unfold Hid; rw [decide_eq_false_iff_not]; intro h; obtain ⟨y, hy, e⟩ := List.mem_map.1 h; have : y = o.word.next x := by omega
                exact hmem (this ▸ hy)
              rw [HD.out]
              have hsn2 : L ++ freshs L (nexts ((wordsOf t.ops).take (j + 1)) x) = Q ++ [o.word.next x] := by
                rw [HNT.out, HCAN.out, if_pos rfl, hsnoc, if_neg hmem, ← List.append_assoc, HQ.out]
              by_cases h2000 : Q.length = 2000
              · have HNO := Lib.hid (show reached (wordsOf t.ops) (wd s) = none by
                  refine reached_of_none (i := i + 1) ?_ (by omega)
                  rw [bfs_step HBF.out HX.out, if_neg ?_]
                  rw [nexts_split (wordsOf t.ops) (j + 1) x, freshs_append, ← List.append_assoc, hsn2]
                  simp only [List.length_append, List.length_singleton]
                  omega)
                have hq : ((Q.length : Int) == 2000) = true := by rw [h2000]; rfl
                clear hsnoc hmem hsn2
                go_wp2_with fail
                refine bodyPost_ret (v := .tuple #[.slice none 0 0, .bool false]) (by simp [results, Try.results61, go_sem]) rfl ?_
                exact ⟨HK.out.trans K7.out, .inl ⟨HNO.out, rfl⟩⟩
              · have HSQ := Lib.hid hsn2
                have hq : ((Q.length : Int) == 2000) = false := by simp; omega
                have hq2 : Q.length < 2000 := by omega
                have hs7 := K7.out.size
                have HNB := Lib.hid (show ∀ k, (Value.slice an (facts (o.word.next x)).length cn).ownBlock = some k → (Value.slice (some ⟨gq, 0, none⟩) Q.length cv2).ownBlock ≠ some k ∧ (Value.slice aw2 Q.length cw2).ownBlock ≠ some k from fun k hk => by
                  have h1 := (HLO.out k hk).1
                  refine ⟨fun e => ?_, fun e => ?_⟩
                  · have := (World.ownsRow.lt HRD.out.out k e).2; omega
                  · have := (World.ownsRow.lt HRD.out.words k e).2; omega)
                clear hsnoc hmem hsn2 h2000
                go_wp2_with (at_builtin; refine wpList_append_d rfl _ _ _ rfl w1.heap.size 22 j0 _ 1 24 Try.underlying28 hj0 jz0 jz1 jz2 rfl (by omega) _ Q.length vs2 (by rfl) (World.ownsRow.alloc HR7.out.out (.cells #[.slice an (facts (o.word.next x)).length cn] 22)) ⟨w7.heap.size, 0, none⟩ 1 1 [.slice an (facts (o.word.next x)).length cn] (by rfl) (by rfl) ?hnews ?hone (by omega) (by unfold maxLen; omega) (by omega) (by simp; omega) (w7.heap.size + 1) (by simp) ?_)
                case hnews => exact World.news_of_block (cs := #[.slice an (facts (o.word.next x)).length cn]) (t := 22) (fr := (0, 0)) (heap_alloc_new _ _)
                case hone => simp [Value.oneCell']
                intro gg cap2 w8 hown hgrow hat hlt4 hd4
                have hk8 : Keeps (fun k => (Value.slice (some ⟨gq, 0, none⟩) Q.length cv2).ownBlock = some k) w7 w8 := ((Keeps.refl _ w7).alloc _).grown hgrow (fun k hk => .inl hk)
                have HOW := Lib.hid hown; have K78 := Lib.hid hk8
                have HG1 := Lib.hid (show ∀ k, (Value.slice (some ⟨gg, 0, none⟩) (Q.length + 1) cap2).ownBlock = some k → (Value.slice (some ⟨gq, 0, none⟩) Q.length cv2).ownBlock = some k ∨ w7.heap.size ≤ k from fun k hk => by
                  simp [Value.ownBlock] at hk
                  subst hk
                  rcases hat with h | h
                  · exact .inl h
                  · exact .inr (by omega))
                have HI8 := Lib.hid (HI7.out.keepsS hk8 (fun _ k hk e => (HNB.out k hk).1 e))
                have HW8 := Lib.hid (hk8.ownsRow HR7.out.words (fun k hk e => HR7.out.apart k e hk))
                have hs8 := hk8.size
                clear hown hgrow hat hd4 hk8
                go_wp2_with fail
                refine (rword_any _ _ _ HI8.out (isSet_mono HGN.out.1 (by have := OK.out.n1; omega))).mono ?_; rintro e w9 ⟨rfl, rfl⟩
                rw [HGN.out.2]
                go_wp2_with (at_builtin; refine wpList_append_d rfl _ _ _ rfl w1.heap.size 3 i0 _ 1 8 Try.underlying22 hi0 hz0 hz1 hz2 rfl (by omega) _ Q.length (Q.map fun x : Nat => Value.int .i64 (x : Int)) (by rfl) (World.ownsRow.alloc HW8.out (.cells #[.int .i64 ((o.word.next x : Nat) : Int)] 3)) ⟨w8.heap.size, 0, none⟩ 1 1 [.int .i64 ((o.word.next x : Nat) : Int)] (by rfl) (by rfl) ?hnews2 ?hone2 (by omega) (by unfold maxLen; omega) (by omega) (by simp; omega) (w8.heap.size + 1) (by simp) ?_)
                case hnews2 => exact World.news_of_block (cs := #[.int .i64 ((o.word.next x : Nat) : Int)]) (t := 3) (fr := (0, 0)) (heap_alloc_new _ _)
                case hone2 => simp [Value.oneCell']
                intro gw cap3 w9 hown hgrow hat hlt5 hd4
                have hk9 : Keeps (fun k => (Value.slice aw2 Q.length cw2).ownBlock = some k) w8 w9 := ((Keeps.refl _ w8).alloc _).grown hgrow (fun k hk => .inl hk)
                have HR9 := Lib.hid (HR7.out.snoc HI7.out HNB.out (fun k hk => (HLO.out k hk).2) K78.out HOW.out HG1.out hk9 hown (fun k hk => by
                  simp [Value.ownBlock] at hk
                  subst hk
                  rcases hat with h | h
                  · exact .inl h
                  · exact .inr (by omega)))
                have K9 := Lib.hid ((K7.out.trans' K78.out (fun k hk => .inr (World.ownsRow.lt HR7.out.out k hk).1)).trans' hk9 (fun k hk => .inr (World.ownsRow.lt HR7.out.words k hk).1))
                clear hown hgrow hat hd4 hk9
                go_wp2_with fail
                go_roundw
                case rel => exact ⟨j + 1, vs2 ++ [.slice an (facts (o.word.next x)).length cn], by omega, by go_num, by rw [HSQ.out, List.length_append, List.length_singleton]; omega, by rw [HSQ.out]; exact HR9.out, K9.out⟩
                case measure => simp [intOf]; omega
        · have HBN := Lib.hid (show bfs (wordsOf t.ops) (wd s) (i + 1) = some Q by
            have hje : (wordsOf t.ops).take j = wordsOf t.ops := List.take_of_length_le (by unfold wordsOf; rw [List.length_map]; omega)
            have hq := HQ.out
            rw [hje] at hq
            rw [bfs_step HBF.out HX.out, hq, if_pos hfew2])
          have HGQ := Lib.hid (show ∀ y ∈ Q, Good t.n y by
            intro y hy
            rw [← HQ.out] at hy
            rcases mem_freshs.1 hy with hy | hy
            · exact HG.out y hy
            · unfold nexts at hy
              obtain ⟨wo, hwo, rfl⟩ := List.mem_map.1 hy
              have hm := List.mem_of_mem_take (List.mem_filter.1 hwo).1
              unfold wordsOf at hm
              obtain ⟨o, ho, rfl⟩ := List.mem_map.1 hm
              exact (good_next (by have := OK.out.n1; omega) (OK.out.ops o ho) HGX.out).2.2)
          have hlq : i + 1 ≤ Q.length := by rw [← HQ.out, List.length_append]; omega
          go_wp2_with fail
          go_roundw
          case rel => exact ⟨i + 1, Q, vs2, HBN.out, hlq, HGQ.out, by go_num, HR2.out, KQ.out⟩
          case measure => simp [intOf]; omega
    · have HE := Lib.hid (reached_of_end HBF.out (by omega : i = L.length))
      go_wp2_with fail
      refine bodyPost_ret (v := .tuple #[.slice av L.length cv, .bool true]) (by simp [results, Try.results61, go_sem]) rfl ?_
      refine ⟨HK.out.trans KW.out, .inr ⟨L, HE.out, _, .slice aw L.length cw, vs, rfl, ?_⟩⟩
      exact ⟨ownsRow_mono HR.out.out HK.out.size, ownsRow_mono HR.out.words HK.out.size, HR.out.st⟩

end Go.Proofs.Ytdonadeodioplaa
