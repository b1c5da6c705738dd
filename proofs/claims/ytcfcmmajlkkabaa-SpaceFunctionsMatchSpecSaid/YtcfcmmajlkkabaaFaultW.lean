/- The reference's TaskFault. -/
import Derived.Test.YtcfcmmajlkkabaaValid
namespace Go.Proofs.Ytcfcmmajlkkabaa
open Go.RowKit

theorem rIsSet_b {v : Value} {l : List Int} {n : Int} {b : Bool} (w : World) (h : Ints w v l) (hb : isSetB l n = b) (hn0 : 0 ≤ n) (hn1 : n ≤ 1000) :
    Calls Try.prog 67 #[v, .int .i64 n] w fun e w' => e = .returned (.bool b) ∧ Keeps (fun _ => False) w w' := by rw [← hb]; exact rIsSet_val w v l n h hn0 hn1
theorem disjoint_b {va vb : Value} {a b : List Int} {r : Bool} (w : World) (ha : Ints w va a) (hb : Ints w vb b) (hr : disjB a b = r) :
    Calls Try.prog 68 #[va, vb] w fun e w' => e = .returned (.bool r) ∧ w = w' := by rw [← hr]; exact disjoint_any w va vb a b ha hb

set_option maxHeartbeats 2000000 in
theorem taskFault_any (w : World) (vi vg vo : Value) (t : Tsk) (h : TaskAt w vi vg vo t) :
    Calls Try.prog 26 #[.agg #[.int .i64 t.n, vi, vg, vo]] w fun e w' => e = .returned (.agg #[.int .i64 (taskFault t).1, .int .i64 (taskFault t).2]) ∧ Keeps (fun _ => False) w w' := by
  obtain ⟨ai, ci, h1, _⟩ := h.init.form
  obtain ⟨ag, cg, h2, _⟩ := h.goal.form
  obtain ⟨ao, co, h3, hmo⟩ := h.ops.form
  subst h1 h2 h3
  have K1 := (Keeps.refl (fun _ => False) w).alloc (.cells #[.int .i64 t.n, .slice ai t.init.length ci, .slice ag t.goal.length cg, .slice ao t.ops.length co] 25)
  have HT := h.keeps0 (K1.alloc (.cells #[.int .i64 0, .int .i64 0] 29))
  have HB := (Four.new w (.int .i64 t.n) (.slice ai t.init.length ci) (.slice ag t.goal.length cg) (.slice ao t.ops.length co) 25).keeps0 ((Keeps.refl _ _).alloc (.cells #[.int .i64 0, .int .i64 0] 29))
  have HF : Flt w ((w.alloc (.cells #[.int .i64 t.n, .slice ai t.init.length ci, .slice ag t.goal.length cg, .slice ao t.ops.length co] 25)).alloc (.cells #[.int .i64 0, .int .i64 0] 29)) (w.heap.size + 1) 29 :=
    ⟨by have := heap_alloc_new (w.alloc (.cells #[.int .i64 t.n, .slice ai t.init.length ci, .slice ag t.goal.length cg, .slice ao t.ops.length co] 25)) (.cells #[.int .i64 0, .int .i64 0] 29); rwa [World.size_alloc] at this, by omega, K1.alloc _⟩
  replace HT := Lib.hid HT; replace HB := Lib.hid HB; replace HF := Lib.hid HF
  clear h K1
  go_enter Try.func26, Try.ntmps26
  go_upto_region 1 with fail
  generalize ((w.alloc (.cells #[.int .i64 t.n, .slice ai t.init.length ci, .slice ag t.goal.length cg, .slice ao t.ops.length co] 25)).alloc (.cells #[.int .i64 0, .int .i64 0] 29)) = w1 at HT HB HF ⊢
  have hbx_w1 := HB.out.lt
  obtain ⟨d0, d1, d2, d3⟩ := HB.out
  by_cases hn : ¬ (0 ≤ t.n ∧ t.n ≤ 24)
  · have HP : Hid (taskFault t = (3, -1)) := by unfold Hid taskFault; rw [if_pos hn]
    have HIN := Lib.hid (inB_false' hn)
    clear hn
    go_wp2_with fail
    refine (in_val _ HIN.out).mono ?_; rintro e w2 ⟨rfl, hw2⟩
    obtain rfl : w1 = w2 := hw2.symm
    go_wp2_with fail
    refine (at_any _ _ _).mono ?_; rintro e wA ⟨rfl, hkA⟩
    have HFA := Lib.hid ((HF.out.keeps0 (Keeps.refl _ _)).keeps0 hkA)
    obtain ⟨e0, e1, z0, z1, hFA⟩ := HFA.out.cells
    clear hkA
    go_wp2_with fail
    refine bodyPost_ret (results_cell_row rfl _ _ (w.heap.size + 1) 29 _ (0, 0) _ rfl (HFA.out.set (.int .i64 3) (.int .i64 (-1))).1 Try.underlying29 rfl (by kernel_rfl)) rfl ?_
    exact ⟨by rw [HP.out], (HFA.out.set _ _).2⟩
  · have hn0 : 0 ≤ t.n := by omega
    have hn1 : t.n ≤ 24 := by omega
    have hn1' : t.n ≤ 1000 := by omega
    have P1 : taskFault t = if isSetB t.init t.n = false then (5, -2) else
      if isSetB t.goal t.n = false then (5, -3) else
      if 40 < t.ops.length then (2, -1) else opsFault t.n 0 t.ops := by unfold taskFault; rw [if_neg hn]
    have HIN := Lib.hid (inB_true' hn0 hn1)
    clear hn
    go_wp2_with fail
    refine (in_val _ HIN.out).mono ?_; rintro e w0 ⟨rfl, hw0⟩
    obtain rfl : w1 = w0 := hw0.symm
    cases b1 : isSetB t.init t.n with
    | false =>
      have HP : Hid (taskFault t = (5, -2)) := by unfold Hid; rw [P1, if_pos b1]
      have B1 := Lib.hid b1
      clear b1 P1
      go_wp2_with fail
      refine (rIsSet_b _ HT.out.init B1.out hn0 hn1').mono ?_; rintro e w2 ⟨rfl, hk_w2⟩
      have KA := Lib.hid ((Keeps.refl _ _).trans hk_w2)
      have hbx_w2 := (HB.out.keeps0 KA.out).lt
      obtain ⟨d0, d1, d2, d3⟩ := HB.out.keeps0 KA.out
      clear hk_w2
      go_wp2_with fail
      refine (at_any _ _ _).mono ?_; rintro e wA ⟨rfl, hkA⟩
      have HFA := Lib.hid ((HF.out.keeps0 KA.out).keeps0 hkA)
      obtain ⟨e0, e1, z0, z1, hFA⟩ := HFA.out.cells
      clear hkA
      go_wp2_with fail
      refine bodyPost_ret (results_cell_row rfl _ _ (w.heap.size + 1) 29 _ (0, 0) _ rfl (HFA.out.set (.int .i64 5) (.int .i64 (-2))).1 Try.underlying29 rfl (by kernel_rfl)) rfl ?_
      exact ⟨by rw [HP.out], (HFA.out.set _ _).2⟩
    | true =>
      rw [if_neg (by simp [b1])] at P1
      cases b2 : isSetB t.goal t.n with
      | false =>
        have HP : Hid (taskFault t = (5, -3)) := by unfold Hid; rw [P1, if_pos b2]
        have B1 := Lib.hid b1; have B2 := Lib.hid b2
        clear b1 b2 P1
        go_wp2_with fail
        refine (rIsSet_b _ HT.out.init B1.out hn0 hn1').mono ?_; rintro e w2 ⟨rfl, hk_w2⟩
        have KA := Lib.hid ((Keeps.refl _ _).trans hk_w2)
        have hbx_w2 := (HB.out.keeps0 KA.out).lt
        obtain ⟨d0, d1, d2, d3⟩ := HB.out.keeps0 KA.out
        clear hk_w2
        go_wp2_with fail
        refine (rIsSet_b _ (HT.out.goal.keeps0 KA.out) B2.out hn0 hn1').mono ?_; rintro e w3 ⟨rfl, hk_w3⟩
        have KB := Lib.hid (KA.out.trans hk_w3)
        have hbx_w3 := (HB.out.keeps0 KB.out).lt
        obtain ⟨d0, d1, d2, d3⟩ := HB.out.keeps0 KB.out
        clear hk_w3
        go_wp2_with fail
        refine (at_any _ _ _).mono ?_; rintro e wA ⟨rfl, hkA⟩
        have HFA := Lib.hid ((HF.out.keeps0 KB.out).keeps0 hkA)
        obtain ⟨e0, e1, z0, z1, hFA⟩ := HFA.out.cells
        clear hkA
        go_wp2_with fail
        refine bodyPost_ret (results_cell_row rfl _ _ (w.heap.size + 1) 29 _ (0, 0) _ rfl (HFA.out.set (.int .i64 5) (.int .i64 (-3))).1 Try.underlying29 rfl (by kernel_rfl)) rfl ?_
        exact ⟨by rw [HP.out], (HFA.out.set _ _).2⟩
      | true =>
        rw [if_neg (by simp [b2])] at P1
        have B1 := Lib.hid b1; have B2 := Lib.hid b2
        clear b1 b2
        by_cases h40 : 40 < t.ops.length
        · have HP : Hid (taskFault t = (2, -1)) := by unfold Hid; rw [P1, if_pos h40]
          clear P1
          go_wp2_with fail
          refine (rIsSet_b _ HT.out.init B1.out hn0 hn1').mono ?_; rintro e w2 ⟨rfl, hk_w2⟩
          have KA := Lib.hid ((Keeps.refl _ _).trans hk_w2)
          have hbx_w2 := (HB.out.keeps0 KA.out).lt
          obtain ⟨d0, d1, d2, d3⟩ := HB.out.keeps0 KA.out
          clear hk_w2
          go_wp2_with fail
          refine (rIsSet_b _ (HT.out.goal.keeps0 KA.out) B2.out hn0 hn1').mono ?_; rintro e w3 ⟨rfl, hk_w3⟩
          have KB := Lib.hid (KA.out.trans hk_w3)
          have hbx_w3 := (HB.out.keeps0 KB.out).lt
          obtain ⟨d0, d1, d2, d3⟩ := HB.out.keeps0 KB.out
          clear hk_w3
          go_wp2_with fail
          refine (at_any _ _ _).mono ?_; rintro e wA ⟨rfl, hkA⟩
          have HFA := Lib.hid ((HF.out.keeps0 KB.out).keeps0 hkA)
          obtain ⟨e0, e1, z0, z1, hFA⟩ := HFA.out.cells
          clear hkA
          go_wp2_with fail
          refine bodyPost_ret (results_cell_row rfl _ _ (w.heap.size + 1) 29 _ (0, 0) _ rfl (HFA.out.set (.int .i64 2) (.int .i64 (-1))).1 Try.underlying29 rfl (by kernel_rfl)) rfl ?_
          exact ⟨by rw [HP.out], (HFA.out.set _ _).2⟩
        · rw [if_neg h40] at P1
          have HQ := Lib.hid P1
          clear P1
          go_wp2_with fail
          refine (rIsSet_b _ HT.out.init B1.out hn0 hn1').mono ?_; rintro e w2 ⟨rfl, hk_w2⟩
          have KA := Lib.hid ((Keeps.refl _ _).trans hk_w2)
          have hbx_w2 := (HB.out.keeps0 KA.out).lt
          obtain ⟨d0, d1, d2, d3⟩ := HB.out.keeps0 KA.out
          clear hk_w2
          go_wp2_with fail
          refine (rIsSet_b _ (HT.out.goal.keeps0 KA.out) B2.out hn0 hn1').mono ?_; rintro e w3 ⟨rfl, hk_w3⟩
          have KB := Lib.hid (KA.out.trans hk_w3)
          have hbx_w3 := (HB.out.keeps0 KB.out).lt
          obtain ⟨d0, d1, d2, d3⟩ := HB.out.keeps0 KB.out
          clear hk_w3
          have HC := Lib.hid (HT.out.ops.cell rfl)
          go_wp2_with fail
          go_loopw [3] (fun i wr => ∃ k : Nat, k ≤ t.ops.length ∧ i = .int .i64 (k : Int) ∧ opsFault t.n 0 t.ops = opsFault t.n (k : Int) (t.ops.drop k) ∧ Keeps (fun _ => False) w1 wr) (fun i _ => t.ops.length - (intOf i).toNat)
          case atStart => exact ⟨0, Nat.zero_le _, rfl, rfl, KB.out⟩
          case round =>
            obtain ⟨k, hk, rfl, ht, hkw⟩ := hrel
            have HTL := Lib.hid ht; clear ht
            have KW := Lib.hid hkw; clear hkw
            have hbx := (HB.out.keeps0 KW.out).lt
            obtain ⟨d0, d1, d2, d3⟩ := HB.out.keeps0 KW.out
            by_cases hlt : k < t.ops.length
            · obtain ⟨bo, oo, rfl, hcell⟩ := HC.out (by omega)
              obtain ⟨o, ho⟩ : ∃ o, t.ops[k]? = some o := ⟨_, List.getElem?_eq_getElem hlt⟩
              obtain ⟨va, vb, vc, p0, p1, p2, p3, i1, i2, i3⟩ := hcell k o ho
              have q0 := KW.out.cell p0 (fun h => h)
              have q1 := KW.out.cell p1 (fun h => h)
              have q2 := KW.out.cell p2 (fun h => h)
              have q3 := KW.out.cell p3 (fun h => h)
              obtain ⟨a1, k1, f1, _⟩ := i1.form
              obtain ⟨a2, k2, f2, _⟩ := i2.form
              obtain ⟨a3, k3, f3, _⟩ := i3.form
              subst f1 f2 f3
              have K4 := (Keeps.refl (fun _ => False) wr).alloc (.cells #[.slice a1 o.pre.length k1, .slice a2 o.add.length k2, .slice a3 o.del.length k3, .int .i64 o.cost] 78)
              have HO4 := Four.new wr (.slice a1 o.pre.length k1) (.slice a2 o.add.length k2) (.slice a3 o.del.length k3) (.int .i64 o.cost) 78
              have I1 := Lib.hid (i1.keeps0 (KW.out.trans K4)); have I2 := Lib.hid (i2.keeps0 (KW.out.trans K4)); have I3 := Lib.hid (i3.keeps0 (KW.out.trans K4))
              have HG := Lib.hid (opsFault_get (n := t.n) (i := (k : Int)) ho)
              clear hcell ho p0 p1 p2 p3 i1 i2 i3
              go_upto_region 13 with fail
              have KW4 := Lib.hid (KW.out.trans K4)
              have HO4' := Lib.hid HO4
              have lwr := HO4.lt
              clear K4 HO4
              obtain ⟨bb, hbb⟩ : ∃ bb, wr.heap.size = bb := ⟨_, rfl⟩
              rw [hbb] at HO4' lwr ⊢
              clear q0 q1 q2 q3
              generalize (wr.alloc (.cells #[.slice a1 o.pre.length k1, .slice a2 o.add.length k2, .slice a3 o.del.length k3, .int .i64 o.cost] 78)) = w4 at KW4 HO4' I1 I2 I3 lwr ⊢
              clear hbb
              obtain ⟨d0, d1, d2, d3⟩ := HB.out.keeps0 KW4.out
              have hbx4 := (HB.out.keeps0 KW4.out).lt
              obtain ⟨c0, c1, c2, c3⟩ := HO4'.out
              cases c1_ : isSetB o.pre t.n with
              | false =>
                have HP : Hid (taskFault t = (5, (k : Int))) := by
                  unfold Hid
                  have hc : opCode o t.n = 5 := by unfold opCode; simp [c1_]
                  rw [HQ.out, HTL.out, HG.out, hc, if_neg (by decide)]
                have C1 := Lib.hid c1_
                clear c1_
                go_wp2_with fail
                refine (rIsSet_b _ I1.out C1.out hn0 hn1').mono ?_; rintro e w5 ⟨rfl, hk5⟩
                have KW5 := Lib.hid (KW4.out.trans hk5)
                have M1 := Lib.hid (hk5)
                obtain ⟨d0, d1, d2, d3⟩ := HB.out.keeps0 KW5.out
                obtain ⟨c0, c1, c2, c3⟩ := HO4'.out.keeps0 M1.out
                have hb5 := (HO4'.out.keeps0 M1.out).lt
                have hb6 := (HB.out.keeps0 KW5.out).lt
                clear hk5
                go_wp2_with fail
                refine (at_any _ _ _).mono ?_; rintro e wA ⟨rfl, hkA⟩
                have HFA := Lib.hid ((HF.out.keeps0 KW5.out).keeps0 hkA)
                obtain ⟨e0, e1, z0, z1, hFA⟩ := HFA.out.cells
                clear hkA
                go_wp2_with fail
                refine bodyPost_ret (results_cell_row rfl _ _ (w.heap.size + 1) 29 _ (0, 0) _ rfl (HFA.out.set (.int .i64 5) (.int .i64 (k : Int))).1 Try.underlying29 rfl (by kernel_rfl)) rfl ?_
                exact ⟨by rw [HP.out], (HFA.out.set _ _).2⟩
              | true =>
                cases c2_ : isSetB o.add t.n with
                | false =>
                  have HP : Hid (taskFault t = (5, (k : Int))) := by
                    unfold Hid
                    have hc : opCode o t.n = 5 := by unfold opCode; simp [c2_]
                    rw [HQ.out, HTL.out, HG.out, hc, if_neg (by decide)]
                  have C1 := Lib.hid c1_
                  have C2 := Lib.hid c2_
                  clear c1_ c2_
                  go_wp2_with fail
                  refine (rIsSet_b _ I1.out C1.out hn0 hn1').mono ?_; rintro e w5 ⟨rfl, hk5⟩
                  have KW5 := Lib.hid (KW4.out.trans hk5)
                  have M1 := Lib.hid (hk5)
                  obtain ⟨d0, d1, d2, d3⟩ := HB.out.keeps0 KW5.out
                  obtain ⟨c0, c1, c2, c3⟩ := HO4'.out.keeps0 M1.out
                  have hb5 := (HO4'.out.keeps0 M1.out).lt
                  have hb6 := (HB.out.keeps0 KW5.out).lt
                  clear hk5
                  go_wp2_with fail
                  refine (rIsSet_b _ (I2.out.keeps0 M1.out) C2.out hn0 hn1').mono ?_; rintro e w6 ⟨rfl, hk5⟩
                  have KW6 := Lib.hid (KW5.out.trans hk5)
                  have M2 := Lib.hid (M1.out.trans hk5)
                  obtain ⟨d0, d1, d2, d3⟩ := HB.out.keeps0 KW6.out
                  obtain ⟨c0, c1, c2, c3⟩ := HO4'.out.keeps0 M2.out
                  have hb5 := (HO4'.out.keeps0 M2.out).lt
                  have hb6 := (HB.out.keeps0 KW6.out).lt
                  clear hk5
                  go_wp2_with fail
                  refine (at_any _ _ _).mono ?_; rintro e wA ⟨rfl, hkA⟩
                  have HFA := Lib.hid ((HF.out.keeps0 KW6.out).keeps0 hkA)
                  obtain ⟨e0, e1, z0, z1, hFA⟩ := HFA.out.cells
                  clear hkA
                  go_wp2_with fail
                  refine bodyPost_ret (results_cell_row rfl _ _ (w.heap.size + 1) 29 _ (0, 0) _ rfl (HFA.out.set (.int .i64 5) (.int .i64 (k : Int))).1 Try.underlying29 rfl (by kernel_rfl)) rfl ?_
                  exact ⟨by rw [HP.out], (HFA.out.set _ _).2⟩
                | true =>
                  cases c3_ : isSetB o.del t.n with
                  | false =>
                    have HP : Hid (taskFault t = (5, (k : Int))) := by
                      unfold Hid
                      have hc : opCode o t.n = 5 := by unfold opCode; simp [c3_]
                      rw [HQ.out, HTL.out, HG.out, hc, if_neg (by decide)]
                    have C1 := Lib.hid c1_
                    have C2 := Lib.hid c2_
                    have C3 := Lib.hid c3_
                    clear c1_ c2_ c3_
                    go_wp2_with fail
                    refine (rIsSet_b _ I1.out C1.out hn0 hn1').mono ?_; rintro e w5 ⟨rfl, hk5⟩
                    have KW5 := Lib.hid (KW4.out.trans hk5)
                    have M1 := Lib.hid (hk5)
                    obtain ⟨d0, d1, d2, d3⟩ := HB.out.keeps0 KW5.out
                    obtain ⟨c0, c1, c2, c3⟩ := HO4'.out.keeps0 M1.out
                    have hb5 := (HO4'.out.keeps0 M1.out).lt
                    have hb6 := (HB.out.keeps0 KW5.out).lt
                    clear hk5
                    go_wp2_with fail
                    refine (rIsSet_b _ (I2.out.keeps0 M1.out) C2.out hn0 hn1').mono ?_; rintro e w6 ⟨rfl, hk5⟩
                    have KW6 := Lib.hid (KW5.out.trans hk5)
                    have M2 := Lib.hid (M1.out.trans hk5)
                    obtain ⟨d0, d1, d2, d3⟩ := HB.out.keeps0 KW6.out
                    obtain ⟨c0, c1, c2, c3⟩ := HO4'.out.keeps0 M2.out
                    have hb5 := (HO4'.out.keeps0 M2.out).lt
                    have hb6 := (HB.out.keeps0 KW6.out).lt
                    clear hk5
                    go_wp2_with fail
                    refine (rIsSet_b _ (I3.out.keeps0 M2.out) C3.out hn0 hn1').mono ?_; rintro e w7 ⟨rfl, hk5⟩
                    have KW7 := Lib.hid (KW6.out.trans hk5)
                    have M3 := Lib.hid (M2.out.trans hk5)
                    obtain ⟨d0, d1, d2, d3⟩ := HB.out.keeps0 KW7.out
                    obtain ⟨c0, c1, c2, c3⟩ := HO4'.out.keeps0 M3.out
                    have hb5 := (HO4'.out.keeps0 M3.out).lt
                    have hb6 := (HB.out.keeps0 KW7.out).lt
                    clear hk5
                    go_wp2_with fail
                    refine (at_any _ _ _).mono ?_; rintro e wA ⟨rfl, hkA⟩
                    have HFA := Lib.hid ((HF.out.keeps0 KW7.out).keeps0 hkA)
                    obtain ⟨e0, e1, z0, z1, hFA⟩ := HFA.out.cells
                    clear hkA
                    go_wp2_with fail
                    refine bodyPost_ret (results_cell_row rfl _ _ (w.heap.size + 1) 29 _ (0, 0) _ rfl (HFA.out.set (.int .i64 5) (.int .i64 (k : Int))).1 Try.underlying29 rfl (by kernel_rfl)) rfl ?_
                    exact ⟨by rw [HP.out], (HFA.out.set _ _).2⟩
                  | true =>
                    cases c4_ : disjB o.add o.del with
                    | false =>
                      have HP : Hid (taskFault t = (5, (k : Int))) := by
                        unfold Hid
                        have hc : opCode o t.n = 5 := by unfold opCode; simp [c4_]
                        rw [HQ.out, HTL.out, HG.out, hc, if_neg (by decide)]
                      have C1 := Lib.hid c1_
                      have C2 := Lib.hid c2_
                      have C3 := Lib.hid c3_
                      have C4 := Lib.hid c4_
                      clear c1_ c2_ c3_ c4_
                      go_wp2_with fail
                      refine (rIsSet_b _ I1.out C1.out hn0 hn1').mono ?_; rintro e w5 ⟨rfl, hk5⟩
                      have KW5 := Lib.hid (KW4.out.trans hk5)
                      have M1 := Lib.hid (hk5)
                      obtain ⟨d0, d1, d2, d3⟩ := HB.out.keeps0 KW5.out
                      obtain ⟨c0, c1, c2, c3⟩ := HO4'.out.keeps0 M1.out
                      have hb5 := (HO4'.out.keeps0 M1.out).lt
                      have hb6 := (HB.out.keeps0 KW5.out).lt
                      clear hk5
                      go_wp2_with fail
                      refine (rIsSet_b _ (I2.out.keeps0 M1.out) C2.out hn0 hn1').mono ?_; rintro e w6 ⟨rfl, hk5⟩
                      have KW6 := Lib.hid (KW5.out.trans hk5)
                      have M2 := Lib.hid (M1.out.trans hk5)
                      obtain ⟨d0, d1, d2, d3⟩ := HB.out.keeps0 KW6.out
                      obtain ⟨c0, c1, c2, c3⟩ := HO4'.out.keeps0 M2.out
                      have hb5 := (HO4'.out.keeps0 M2.out).lt
                      have hb6 := (HB.out.keeps0 KW6.out).lt
                      clear hk5
                      go_wp2_with fail
                      refine (rIsSet_b _ (I3.out.keeps0 M2.out) C3.out hn0 hn1').mono ?_; rintro e w7 ⟨rfl, hk5⟩
                      have KW7 := Lib.hid (KW6.out.trans hk5)
                      have M3 := Lib.hid (M2.out.trans hk5)
                      obtain ⟨d0, d1, d2, d3⟩ := HB.out.keeps0 KW7.out
                      obtain ⟨c0, c1, c2, c3⟩ := HO4'.out.keeps0 M3.out
                      have hb5 := (HO4'.out.keeps0 M3.out).lt
                      have hb6 := (HB.out.keeps0 KW7.out).lt
                      clear hk5
                      go_wp2_with fail
                      refine (disjoint_b _ (I2.out.keeps0 M3.out) (I3.out.keeps0 M3.out) C4.out).mono ?_; rintro e w8 ⟨rfl, rfl⟩
                      go_wp2_with fail
                      refine (at_any _ _ _).mono ?_; rintro e wA ⟨rfl, hkA⟩
                      have HFA := Lib.hid ((HF.out.keeps0 KW7.out).keeps0 hkA)
                      obtain ⟨e0, e1, z0, z1, hFA⟩ := HFA.out.cells
                      clear hkA
                      go_wp2_with fail
                      refine bodyPost_ret (results_cell_row rfl _ _ (w.heap.size + 1) 29 _ (0, 0) _ rfl (HFA.out.set (.int .i64 5) (.int .i64 (k : Int))).1 Try.underlying29 rfl (by kernel_rfl)) rfl ?_
                      exact ⟨by rw [HP.out], (HFA.out.set _ _).2⟩
                    | true =>
                      have HO : Hid (opCode o t.n = if 0 ≤ o.cost ∧ o.cost ≤ 100 then 0 else 3) := by unfold Hid opCode; simp [c1_, c2_, c3_, c4_]
                      have C1 := Lib.hid c1_
                      have C2 := Lib.hid c2_
                      have C3 := Lib.hid c3_
                      have C4 := Lib.hid c4_
                      clear c1_ c2_ c3_ c4_
                      go_wp2_with fail
                      refine (rIsSet_b _ I1.out C1.out hn0 hn1').mono ?_; rintro e w5 ⟨rfl, hk5⟩
                      have KW5 := Lib.hid (KW4.out.trans hk5)
                      have M1 := Lib.hid (hk5)
                      obtain ⟨d0, d1, d2, d3⟩ := HB.out.keeps0 KW5.out
                      obtain ⟨c0, c1, c2, c3⟩ := HO4'.out.keeps0 M1.out
                      have hb5 := (HO4'.out.keeps0 M1.out).lt
                      have hb6 := (HB.out.keeps0 KW5.out).lt
                      clear hk5
                      go_wp2_with fail
                      refine (rIsSet_b _ (I2.out.keeps0 M1.out) C2.out hn0 hn1').mono ?_; rintro e w6 ⟨rfl, hk5⟩
                      have KW6 := Lib.hid (KW5.out.trans hk5)
                      have M2 := Lib.hid (M1.out.trans hk5)
                      obtain ⟨d0, d1, d2, d3⟩ := HB.out.keeps0 KW6.out
                      obtain ⟨c0, c1, c2, c3⟩ := HO4'.out.keeps0 M2.out
                      have hb5 := (HO4'.out.keeps0 M2.out).lt
                      have hb6 := (HB.out.keeps0 KW6.out).lt
                      clear hk5
                      go_wp2_with fail
                      refine (rIsSet_b _ (I3.out.keeps0 M2.out) C3.out hn0 hn1').mono ?_; rintro e w7 ⟨rfl, hk5⟩
                      have KW7 := Lib.hid (KW6.out.trans hk5)
                      have M3 := Lib.hid (M2.out.trans hk5)
                      obtain ⟨d0, d1, d2, d3⟩ := HB.out.keeps0 KW7.out
                      obtain ⟨c0, c1, c2, c3⟩ := HO4'.out.keeps0 M3.out
                      have hb5 := (HO4'.out.keeps0 M3.out).lt
                      have hb6 := (HB.out.keeps0 KW7.out).lt
                      clear hk5
                      go_wp2_with fail
                      refine (disjoint_b _ (I2.out.keeps0 M3.out) (I3.out.keeps0 M3.out) C4.out).mono ?_; rintro e w8 ⟨rfl, rfl⟩
                      by_cases hcost : 0 ≤ o.cost ∧ o.cost ≤ 100
                      · have HIN2 := Lib.hid (inB_true' hcost.1 hcost.2)
                        have HN : Hid (opsFault t.n 0 t.ops = opsFault t.n ((k + 1 : Nat) : Int) (t.ops.drop (k + 1))) := by
                          unfold Hid; rw [HTL.out, HG.out, HO.out, if_pos hcost, if_pos rfl]; rfl
                        clear hcost
                        go_wp2_with fail
                        refine (in_val _ HIN2.out).mono ?_; rintro e w9 ⟨rfl, hw9⟩
                        subst hw9
                        go_wp2_with fail
                        go_roundw
                        case rel => exact ⟨k + 1, by omega, by go_num, HN.out, KW7.out⟩
                        case measure => simp [intOf]; omega
                      · have HIN2 := Lib.hid (inB_false' hcost)
                        have HP : Hid (taskFault t = (3, (k : Int))) := by
                          unfold Hid; rw [HQ.out, HTL.out, HG.out, HO.out, if_neg hcost, if_neg (by decide)]
                        clear hcost
                        go_wp2_with fail
                        refine (in_val _ HIN2.out).mono ?_; rintro e w9 ⟨rfl, hw9⟩
                        subst hw9
                        go_wp2_with fail
                        refine (at_any _ _ _).mono ?_; rintro e wA ⟨rfl, hkA⟩
                        have HFA := Lib.hid ((HF.out.keeps0 KW7.out).keeps0 hkA)
                        obtain ⟨e0, e1, z0, z1, hFA⟩ := HFA.out.cells
                        clear hkA
                        go_wp2_with fail
                        refine bodyPost_ret (results_cell_row rfl _ _ (w.heap.size + 1) 29 _ (0, 0) _ rfl (HFA.out.set (.int .i64 3) (.int .i64 (k : Int))).1 Try.underlying29 rfl (by kernel_rfl)) rfl ?_
                        exact ⟨by rw [HP.out], (HFA.out.set _ _).2⟩
            · have HP : Hid (taskFault t = (0, 0)) := by unfold Hid; rw [HQ.out, HTL.out, List.drop_of_length_le (by omega)]; rfl
              have HF4 := Lib.hid (HF.out.keeps0 KW.out)
              obtain ⟨e0, e1, z0, z1, hF⟩ := HF4.out.cells
              go_wp2_with fail
              refine bodyPost_ret (results_cell_row rfl _ _ (w.heap.size + 1) 29 _ (0, 0) _ rfl (HF4.out.set (.int .i64 0) (.int .i64 0)).1 Try.underlying29 rfl (by kernel_rfl)) rfl ?_
              exact ⟨by rw [HP.out], (HF4.out.set _ _).2⟩

end Go.Proofs.Ytcfcmmajlkkabaa
