/- novelty: the law that Plan is the reference's. -/
import Derived.Test.YtcfcmmajlkkabaaNovRef
import Derived.Test.YtcfcmmajlkkabaaExN
namespace Go.Proofs.Ytcfcmmajlkkabaa
open Go.RowKit

theorem quad_cells {w : World} {B : Nat} {a b c d : Value} {T : TypeId} (h : w.heap[B]? = some (.cells #[a, b, c, d] T (0, 0))) : w.cell? ⟨B, 0, none⟩ = some a ∧ w.cell? ⟨B, 1, none⟩ = some b ∧ w.cell? ⟨B, 2, none⟩ = some c ∧ w.cell? ⟨B, 3, none⟩ = some d ∧ B < w.heap.size :=
  ⟨by rw [cell_of_blk h]; rfl, by rw [cell_of_blk h]; rfl, by rw [cell_of_blk h]; rfl, by rw [cell_of_blk h]; rfl, lt_of_heap h⟩

theorem noResult_yes (w : World) (ao : Option Addr) (cap : Nat) : Calls Try.prog 35 #[.agg #[.bool false, .slice ao 0 cap, .int .i64 0, .int .i64 0]] w fun e w' => e = .returned (.bool true) ∧ Keeps (fun _ => False) w w' :=
  noResult_any w false ao 0 cap 0 0 (by omega)
theorem ints_same (w : World) (va vb : Value) (l : List Int) (ha : Ints w va l) (hb : Ints w vb l) : Calls Try.prog 24 #[va, vb] w fun e w' => e = .returned (.bool true) ∧ Keeps (fun _ => False) w w' := by
  refine (ints_any w va vb l l ha hb).mono ?_
  rintro e w' ⟨rfl, hk⟩
  exact ⟨by rw [beq_self_eq_true], hk⟩

theorem nplanF_bad {t : Tsk} {k : Int} (h : (taskFault t).1 ≠ 0) : nplanF t k = taskFault t := by unfold nplanF; rw [if_pos h]
theorem nplanF_range {t : Tsk} {k : Int} (h : (taskFault t).1 = 0) (hk : k < 0 ∨ 4 < k) : nplanF t k = (3, -8) := by unfold nplanF; rw [if_neg (by simpa using h), if_pos hk]
theorem nplanF_exp {t : Tsk} {k : Int} (h : (taskFault t).1 = 0) (hk : ¬ (k < 0 ∨ 4 < k)) : nplanF t k = expF t := by
  unfold nplanF expF
  rw [if_neg (by simpa using h), if_neg hk, if_pos h]
  cases explored t <;> rfl

set_option maxRecDepth 100000 in
set_option maxHeartbeats 4000000 in
theorem nplanLaw_any (w : World) (vi vg vo : Value) (t : Tsk) (k : Int) (h : TaskAt w vi vg vo t) :
    Calls Try.prog 6 #[.agg #[.int .i64 t.n, vi, vg, vo], .int .i64 k] w fun e w' => e = .returned (.bool true) ∧ Keeps (fun _ => False) w w' := by
  obtain ⟨ai, ci, h1, _⟩ := h.init.form
  obtain ⟨ag, cg, h2, _⟩ := h.goal.form
  obtain ⟨ao, co, h3, hmo⟩ := h.ops.form
  subst h1 h2 h3
  have HB := Lib.hid (Four.new w (.int .i64 t.n) (.slice ai t.init.length ci) (.slice ag t.goal.length cg) (.slice ao t.ops.length co) 25)
  have K1 := (Keeps.refl (fun _ => False) w).alloc (.cells #[.int .i64 t.n, .slice ai t.init.length ci, .slice ag t.goal.length cg, .slice ao t.ops.length co] 25)
  have HT := Lib.hid (h.keeps0 K1); have HK := Lib.hid K1
  clear h K1
  go_enter Try.func6, Try.ntmps6
  go_upto_region 1 with fail
  generalize (w.alloc (.cells #[.int .i64 t.n, .slice ai t.init.length ci, .slice ag t.goal.length cg, .slice ao t.ops.length co] 25)) = w1 at HB HT HK ⊢
  generalize w.heap.size = bt at HB ⊢
  go_wp2_with fail
  refine (noveltyExample_any _).mono ?_; rintro e w2 ⟨rfl, hk⟩
  have HB2 := Lib.hid (HB.out.keeps0 hk); have HT2 := Lib.hid (HT.out.keeps0 hk); have K2 := Lib.hid (HK.out.trans hk)
  have hbx := HB2.out.lt
  obtain ⟨d0, d1, d2, d3⟩ := HB2.out
  clear hk
  go_wp2_with fail
  refine (wide_any _ _ _ _ t HT2.out).mono ?_; rintro e w3 ⟨rfl, hk⟩
  have HB3 := Lib.hid (HB2.out.keeps0 hk); have HT3 := Lib.hid (HT2.out.keeps0 hk); have K3 := Lib.hid (K2.out.trans hk)
  clear d0 d1 d2 d3 hk hbx HB HT HK HB2 HT2 K2
  cases hw : wideB t with
  | true =>
    clear hw
    go_wp2_with fail
    go_ret
    exact ⟨rfl, K3.out⟩
  | false =>
    clear hw
    have hbx := HB3.out.lt
    obtain ⟨d0, d1, d2, d3⟩ := HB3.out
    go_wp2_with fail
    refine (nplan_any _ _ _ _ t k HT3.out).mono ?_; rintro e w4 ⟨hk, fnd, vp, lp, c, n, fc, fi, rfl, hvp, hr⟩
    obtain ⟨ap, cp, hpv, _⟩ := hvp.form
    subst hpv
    have KA := (hk.alloc (.cells #[.bool fnd, .slice ap lp.length cp, .int .i64 c, .int .i64 n] 52)).alloc (.cells #[.int .i64 fc, .int .i64 fi] 29)
    have KB := ((Keeps.refl (fun _ => False) w4).alloc (.cells #[.bool fnd, .slice ap lp.length cp, .int .i64 c, .int .i64 n] 52)).alloc (.cells #[.int .i64 fc, .int .i64 fi] 29)
    have h5 := heap_alloc_new (w4.alloc (.cells #[.bool fnd, .slice ap lp.length cp, .int .i64 c, .int .i64 n] 52)) (.cells #[.int .i64 fc, .int .i64 fi] 29)
    rw [World.size_alloc] at h5
    have HF5 := Lib.hid h5
    have HR5 := Lib.hid (((Keeps.refl (fun _ => False) _).alloc (.cells #[.int .i64 fc, .int .i64 fi] 29)).heap (heap_alloc_new w4 (.cells #[.bool fnd, .slice ap lp.length cp, .int .i64 c, .int .i64 n] 52)) (fun h => h))
    have HB5 := Lib.hid (HB3.out.keeps0 KA); have HT5 := Lib.hid (HT3.out.keeps0 KA); have K5 := Lib.hid (K3.out.trans KA); have HP5 := Lib.hid (hvp.keeps0 KB); have HR := Lib.hid hr
    clear d0 d1 d2 d3 hbx hk KA KB h5 hvp hr HB3 HT3 K3
    simp only [resV, fltV]
    go_upto_region 6 with fail
    generalize (w4.alloc (.cells #[.bool fnd, .slice ap lp.length cp, .int .i64 c, .int .i64 n] 52)).alloc (.cells #[.int .i64 fc, .int .i64 fi] 29) = w5 at HF5 HR5 HB5 HT5 K5 HP5 ⊢
    generalize w4.heap.size = b4 at HF5 HR5 ⊢
    have hbx := HB5.out.lt
    obtain ⟨d0, d1, d2, d3⟩ := HB5.out
    go_wp2_with fail
    refine (taskFault_any _ _ _ _ t HT5.out).mono ?_; rintro e w6 ⟨rfl, hk⟩
    generalize hft : taskFault t = f
    have HFT := Lib.hid hft
    have KA := hk.alloc (.cells #[.int .i64 f.1, .int .i64 f.2] 29)
    have H7 := Lib.hid (heap_alloc_new w6 (.cells #[.int .i64 f.1, .int .i64 f.2] 29))
    have K57 := Lib.hid KA
    have hb6 : w5.heap.size ≤ w6.heap.size := hk.size
    clear d0 d1 d2 d3 hbx hk KA hft
    go_upto_region 7 with fail
    generalize w6.alloc (.cells #[.int .i64 f.1, .int .i64 f.2] 29) = w7 at H7 K57 ⊢
    generalize w6.heap.size = b6 at H7 hb6 ⊢
    obtain ⟨q0, q1, y0, y1, hl6⟩ := pair_cells H7.out
    obtain ⟨p0, p1, z0, z1, hl5⟩ := pair_cells (K57.out.heap HF5.out (fun h => h))
    obtain ⟨r0, r1, r2, r3, hl4⟩ := quad_cells (K57.out.heap HR5.out (fun h => h))
    by_cases hc : f.1 = 0
    · have hok : t.Ok := taskFault_zero.1 (by rw [HFT.out]; exact hc)
      have hf0 : f = (0, 0) := by rw [← HFT.out]; exact taskFault_ok hok
      subst hf0
      have OK := Lib.hid hok
      clear hc hok
      by_cases hk : k < 0 ∨ 4 < k
      · have HIN : Hid (inB k 0 4 = false) := by unfold Hid inB; simp; omega
        have HR2 := Lib.hid (show ((3, -8) : Int × Int) = (fc, fi) ∧ fnd = false ∧ lp = [] ∧ c = 0 ∧ n = 0 by
          have hn : nplanF t k = (3, -8) := nplanF_range (by rw [HFT.out]) hk
          rcases HR.out with ⟨h1, _, h3⟩ | ⟨_, _, h1, h2, _⟩
          · rw [hn] at h1; exact ⟨h1, h3⟩
          · omega)
        obtain ⟨h1, rfl, rfl, rfl, rfl⟩ := HR2.out
        cases h1
        clear hk HR HR2
        go_wp2_with fail
        refine (in_val _ HIN.out).mono ?_; rintro e w8 ⟨rfl, rfl⟩
        go_wp2_with fail
        refine (at_any _ _ _).mono ?_; rintro e w9 ⟨rfl, hk⟩
        have H9 := Lib.hid (hk.heap H7.out (fun h => h)); have K59 := Lib.hid (K57.out.trans hk)
        clear q0 q1 y0 y1 hl6 p0 p1 z0 z1 hl5 r0 r1 r2 r3 hl4 hk
        obtain ⟨q0, q1, y0, y1, hl6⟩ := pair_cells H9.out
        have kp := keeps_pair (w := w9) b6 (.int .i64 3) (.int .i64 (-8))
        have HA := Lib.hid (pair_set H9.out (.int .i64 3) (.int .i64 (-8)))
        have KA := Lib.hid (K59.out.trans' kp (fun i hi => .inr (by omega)))
        clear kp
        go_upto_region 9 with fail
        generalize (w9.setCell ⟨b6, 0, none⟩ (.int .i64 3)).setCell ⟨b6, 1, none⟩ (.int .i64 (-8)) = wa at HA KA ⊢
        clear q0 q1 y0 y1 hl6
        obtain ⟨q0, q1, y0, y1, hl6⟩ := pair_cells HA.out
        obtain ⟨p0, p1, z0, z1, hl5⟩ := pair_cells (KA.out.heap HF5.out (fun h => h))
        obtain ⟨r0, r1, r2, r3, hl4⟩ := quad_cells (KA.out.heap HR5.out (fun h => h))
        go_wp2_with fail
        refine (noResult_yes _ _ _).mono ?_; rintro e wb ⟨rfl, hk⟩
        have KB := Lib.hid (K5.out.trans (KA.out.trans hk))
        clear hk
        go_wp2_with fail
        go_ret
        exact ⟨rfl, KB.out⟩
      · have HIN : Hid (inB k 0 4 = true) := by unfold Hid inB; simp; omega
        have hk4 : 0 ≤ k ∧ k ≤ 4 := by omega
        have NF2 := Lib.hid (show nplanF t k = expF t from nplanF_exp (by rw [HFT.out]) hk)
        clear hk
        have HB7 := HB5.out.keeps0 K57.out
        have hbx := HB7.lt
        obtain ⟨d0, d1, d2, d3⟩ := HB7
        go_wp2_with fail
        refine (in_val _ HIN.out).mono ?_; rintro e w8 ⟨rfl, rfl⟩
        go_wp2_with fail
        refine (explored_any _ _ _ _ t (HT5.out.keeps0 K57.out)).mono ?_; rintro e w9 ⟨rfl, hk⟩
        generalize hex : expF t = g
        have HEX := Lib.hid hex
        have H9 := Lib.hid (hk.heap H7.out (fun h => h)); have K59 := Lib.hid (K57.out.trans hk)
        clear q0 q1 y0 y1 hl6 p0 p1 z0 z1 hl5 r0 r1 r2 r3 hl4 hk d0 d1 d2 d3 hbx hex
        obtain ⟨q0, q1, y0, y1, hl6⟩ := pair_cells H9.out
        have kp := keeps_pair (w := w9) b6 (.int .i64 g.1) (.int .i64 g.2)
        have HA := Lib.hid (pair_set H9.out (.int .i64 g.1) (.int .i64 g.2))
        have KA := Lib.hid (K59.out.trans' kp (fun i hi => .inr (by omega)))
        clear kp
        go_upto_region 11 with fail
        generalize (w9.setCell ⟨b6, 0, none⟩ (.int .i64 g.1)).setCell ⟨b6, 1, none⟩ (.int .i64 g.2) = wa at HA KA ⊢
        clear q0 q1 y0 y1 hl6
        obtain ⟨q0, q1, y0, y1, hl6⟩ := pair_cells HA.out
        obtain ⟨p0, p1, z0, z1, hl5⟩ := pair_cells (KA.out.heap HF5.out (fun h => h))
        obtain ⟨r0, r1, r2, r3, hl4⟩ := quad_cells (KA.out.heap HR5.out (fun h => h))
        by_cases hc : g.1 = 0
        · have hx : ∃ l, explored t = some l := by
            cases hx : explored t with
            | some l => exact ⟨l, rfl⟩
            | none =>
              have h1 := HEX.out
              unfold expF at h1
              rw [if_pos (by rw [HFT.out]), hx] at h1
              rw [← h1] at hc; simp at hc
          obtain ⟨l, hx⟩ := hx
          have hg0 : g = (0, 0) := by rw [← HEX.out]; unfold expF; rw [if_pos (by rw [HFT.out]), hx]
          subst hg0
          have HX := Lib.hid hx
          have HR2 : Hid (∃ o m, NPlanRes t k o m fnd lp c n fc fi) := by
            unfold Hid
            rcases HR.out with ⟨h1, h2, _⟩ | ⟨_, _, _, _, l', o, m, _, h3⟩
            · rw [NF2.out, HEX.out] at h1; cases h1; exact absurd rfl h2
            · exact ⟨o, m, h3⟩
          obtain ⟨o, m, hres⟩ := HR2.out
          have HRES := Lib.hid hres
          obtain ⟨kn, rfl⟩ : ∃ kn : Nat, k = (kn : Int) := ⟨k.toNat, by omega⟩
          have HBA := HB5.out.keeps0 KA.out
          have hbx := HBA.lt
          obtain ⟨d0, d1, d2, d3⟩ := HBA
          clear hc hx hres HR HR2
          go_wp2_with fail
          refine (novRef_any _ _ _ _ t kn l (HT5.out.keeps0 KA.out) OK.out HX.out (by omega)).mono ?_; rintro e wb ⟨hk, o', m', v', hnv, rfl, hiv, hvlo⟩
          have hu := HRES.out.res.unique (show NovRes (accW (wd t.goal)) (covW ((kn : Int)).toNat) (wordsOf t.ops) (wd t.init) o' m' by rw [show ((kn : Int)).toNat = kn by omega]; exact hnv)
          obtain ⟨rfl, rfl⟩ := hu
          obtain ⟨aq, cq, hq, _⟩ := hiv.form
          subst hq
          have HI := Lib.hid hiv; have HB' := Lib.hid (hk.heap HA.out (fun h => h)); have KB := Lib.hid (KA.out.trans hk); have HVLO := Lib.hid hvlo
          clear q0 q1 y0 y1 hl6 p0 p1 z0 z1 hl5 r0 r1 r2 r3 hl4 hnv hiv hk hvlo d0 d1 d2 d3 hbx
          have HLQ := Lib.hid (show (intsP (o.getD [])).length = (o.getD []).length from intsP_len _)
          have HPIN := Lib.hid (show PlanIn t (intsP (o.getD [])) by
            cases o with
            | none => intro z hz; simp [intsP] at hz
            | some p => obtain ⟨y, hy, _⟩ := HRES.out.res.run; exact planIn_run hy)
          have HGD := Lib.hid HRES.out.good; have HBAD := Lib.hid HRES.out.bad; have HFA := Lib.hid HRES.out.fault
          clear HRES
          rw [← HLQ.out] at HFA
          generalize intsP (o.getD []) = lq at HI HPIN HGD HFA HLQ HVLO ⊢
          generalize o.isSome = bo at HGD ⊢
          obtain ⟨q0, q1, y0, y1, hl6⟩ := pair_cells HB'.out
          go_wp2_with fail
          refine (wayFault_any _ _ _ _ _ _).mono ?_; rintro e wc ⟨rfl, hk⟩
          rw [HFA.out]
          have HC := Lib.hid (hk.heap HB'.out (fun h => h)); have KC := Lib.hid (KB.out.trans hk); have HIC := Lib.hid (HI.out.keeps0 hk)
          clear q0 q1 y0 y1 hl6 hk
          obtain ⟨q0, q1, y0, y1, hl6⟩ := pair_cells HC.out
          have kp := keeps_pair (w := wc) b6 (.int .i64 fc) (.int .i64 fi)
          have HD := Lib.hid (pair_set HC.out (.int .i64 fc) (.int .i64 fi))
          have KD := Lib.hid (KC.out.trans' kp (fun i hi => .inr (by omega)))
          have HID := Lib.hid (HIC.out.keepsS kp (fun h0 j hj e' => by have h1 := HVLO.out j hj; have h2 := lt_of_heap HA.out; omega))
          clear kp
          go_upto_region 15 with fail
          generalize (wc.setCell ⟨b6, 0, none⟩ (.int .i64 fc)).setCell ⟨b6, 1, none⟩ (.int .i64 fi) = wd' at HD KD HID ⊢
          clear q0 q1 y0 y1 hl6
          obtain ⟨q0, q1, y0, y1, hl6⟩ := pair_cells HD.out
          obtain ⟨p0, p1, z0, z1, hl5⟩ := pair_cells (KD.out.heap HF5.out (fun h => h))
          obtain ⟨r0, r1, r2, r3, hl4⟩ := quad_cells (KD.out.heap HR5.out (fun h => h))
          by_cases hc : fc = 0
          · obtain ⟨rfl, rfl, rfl, rfl⟩ := HGD.out hc
            subst hc
            have hl60 : lp.length ≤ 1000000 := by
              have h := HFA.out
              unfold wayF at h
              by_cases h60 : 60 < lp.length
              · rw [if_pos ⟨rfl, h60⟩] at h; cases h
              · omega
            clear HGD HBAD HFA q1 y0 y1 p1 z0 z1
            have HBD := HB5.out.keeps0 KD.out
            have hbx := HBD.lt
            obtain ⟨d0, d1, d2, d3⟩ := HBD
            have KDD := (Keeps.refl (fun _ => False) wd').drew
            have HPD := Lib.hid ((HP5.out.keeps0 KD.out).keeps0 KDD); have HQD := Lib.hid (HID.out.keeps0 KDD); have HTD := Lib.hid ((HT5.out.keeps0 KD.out).keeps0 KDD); have KE := Lib.hid (K5.out.trans (KD.out.trans KDD))
            clear KDD
            go_upto_region 17 with fail
            go_region_held3 (fun w' => w'.cell? ⟨b4 + 1, 0, none⟩ = some (.int .i64 0) ∧ w'.cell? ⟨b4, 0, none⟩ = some (.bool fnd) ∧ w'.cell? ⟨b4, 1, none⟩ = some (.slice ap lp.length cp) ∧ w'.cell? ⟨b4, 2, none⟩ = some (.int .i64 (costL t lp)) ∧ w'.cell? ⟨b4, 3, none⟩ = some (.int .i64 (m : Int)) ∧
                w'.cell? ⟨bt, 0, none⟩ = some (.int .i64 t.n) ∧ w'.cell? ⟨bt, 1, none⟩ = some (.slice ai t.init.length ci) ∧ w'.cell? ⟨bt, 2, none⟩ = some (.slice ag t.goal.length cg) ∧ w'.cell? ⟨bt, 3, none⟩ = some (.slice ao t.ops.length co))
              (go_keep)
              (first
                | (go_at_call 24; refine (ints_same wd'.drew _ _ lp HPD.out HQD.out).mono ?_; rintro e we ⟨rfl, hk⟩; have HTE := Lib.hid (HTD.out.keeps0 hk); have HQE := Lib.hid (HQD.out.keeps0 hk); have KF := Lib.hid (KE.out.trans hk); have t0 := hk.cell p0 (fun h => h); have t1 := hk.cell r0 (fun h => h); have t2 := hk.cell r1 (fun h => h); have t3 := hk.cell r2 (fun h => h); have t4 := hk.cell r3 (fun h => h); have t5 := hk.cell d0 (fun h => h); have t6 := hk.cell d1 (fun h => h); have t7 := hk.cell d2 (fun h => h); have t8 := hk.cell d3 (fun h => h); clear hk)
                | (go_at_call 37; refine (costOf_any _ _ _ _ _ t lp HTE.out OK.out HQE.out HPIN.out hl60).mono ?_; rintro e wf ⟨rfl, hk⟩; have KG := Lib.hid (KF.out.trans hk); have u0 := hk.cell t0 (fun h => h); have u1 := hk.cell t1 (fun h => h); have u2 := hk.cell t2 (fun h => h); have u3 := hk.cell t3 (fun h => h); have u4 := hk.cell t4 (fun h => h); have u5 := hk.cell t5 (fun h => h); have u6 := hk.cell t6 (fun h => h); have u7 := hk.cell t7 (fun h => h); have u8 := hk.cell t8 (fun h => h); clear hk))
            all_goals
              go_wp2_with fail
              go_ret
              exact ⟨rfl, KG.out⟩
          · have hc3 : (fc != 0) = true := by simpa using hc
            obtain ⟨rfl, rfl, rfl, rfl⟩ := HBAD.out hc
            clear hc HGD HBAD
            go_wp2_with fail
            refine (noResult_yes _ _ _).mono ?_; rintro e we ⟨rfl, hk⟩
            have KE := Lib.hid (K5.out.trans (KD.out.trans hk))
            clear hk
            go_wp2_with fail
            go_ret
            exact ⟨rfl, KE.out⟩
        · have HR2 := Lib.hid (show g = (fc, fi) ∧ fnd = false ∧ lp = [] ∧ c = 0 ∧ n = 0 by
            rcases HR.out with ⟨h1, _, h3⟩ | ⟨h1, _⟩
            · rw [NF2.out, HEX.out] at h1; exact ⟨h1, h3⟩
            · rw [NF2.out, HEX.out] at h1; rw [h1] at hc; exact absurd rfl hc)
          obtain ⟨rfl, rfl, rfl, rfl, rfl⟩ := HR2.out
          have hc3 : (fc != 0) = true := by simpa using hc
          clear hc HR HR2
          go_wp2_with fail
          refine (noResult_yes _ _ _).mono ?_; rintro e wb ⟨rfl, hk⟩
          have KB := Lib.hid (K5.out.trans (KA.out.trans hk))
          clear hk
          go_wp2_with fail
          go_ret
          exact ⟨rfl, KB.out⟩
    · have HR2 := Lib.hid (show f = (fc, fi) ∧ fnd = false ∧ lp = [] ∧ c = 0 ∧ n = 0 by
        have hn : nplanF t k = f := by rw [nplanF_bad (by rw [HFT.out]; exact hc), HFT.out]
        rcases HR.out with ⟨h1, _, h3⟩ | ⟨h1, _⟩
        · rw [hn] at h1; exact ⟨h1, h3⟩
        · rw [hn] at h1; rw [h1] at hc; exact absurd rfl hc)
      obtain ⟨rfl, rfl, rfl, rfl, rfl⟩ := HR2.out
      have hc2 : (fc == 0) = false := by simpa using hc
      have hc3 : (fc != 0) = true := by simpa using hc
      clear hc HR HR2
      go_wp2_with fail
      refine (noResult_yes _ _ _).mono ?_; rintro e w8 ⟨rfl, hk⟩
      have K8 := Lib.hid (K5.out.trans (K57.out.trans hk))
      clear hk
      go_wp2_with fail
      go_ret
      exact ⟨rfl, K8.out⟩

end Go.Proofs.Ytcfcmmajlkkabaa
