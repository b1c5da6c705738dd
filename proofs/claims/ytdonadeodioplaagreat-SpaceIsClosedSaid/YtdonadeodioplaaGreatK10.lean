/- space: SpaceIsClosed walked. No condition beyond what each theorem says. -/
import Derived.Test.YtdonadeodioplaaGreatK9

namespace Go.Proofs.YtdonadeodioplaaGreat
open Go.RowKit

theorem less_sorted {t : Tsk} (ok : t.Ok) {l ws : List Nat} (hx : explored t = some l) (hw : WsOf t l ws) {i a b : Nat} (ha : ws[i]? = some a) (hb : ws[i + 1]? = some b) : lessL (facts a) (facts b) = true := by
  obtain ⟨_, _, _, hsh, _, n6, _, _⟩ := costs_need ok hx hw.1
  obtain ⟨hal, ea⟩ := List.getElem?_eq_some_iff.1 ha
  obtain ⟨hbl, eb⟩ := List.getElem?_eq_some_iff.1 hb
  have ho : ordW a b := by
    have := List.pairwise_iff_getElem.1 hw.2 i (i + 1) hal hbl (by omega)
    rwa [ea, eb] at this
  have hne : a ≠ b := fun e => by
    subst e
    have := nodup_ix hsh.1 ha hb
    omega
  unfold lessL
  rw [decide_eq_true_eq]
  unfold ordW cmpW at ho
  have h3 := cmpL_neg (facts b) (facts a)
  rcases Int.lt_trichotomy (cmpL (facts a) (facts b)) 0 with h | h | h
  · exact h
  · exact absurd (facts_inj (by simpa using n6 a (List.mem_of_getElem? ha)) (by simpa using n6 b (List.mem_of_getElem? hb)) (cmpL_eq h)) hne
  · omega

set_option maxRecDepth 100000 in
set_option maxHeartbeats 1000000 in
theorem closedLaw_any (w : World) (vi vg vo : Value) (t : Tsk) (h : TaskAt w vi vg vo t) :
    Calls Tryz.prog 3 #[.agg #[.int .i64 t.n, vi, vg, vo]] w fun e w' => e = .returned (.bool true) ∧ Keeps (fun _ => False) w w' := by
  obtain ⟨ai, ci, h1, _⟩ := h.init.form
  obtain ⟨ag, cg, h2, _⟩ := h.goal.form
  obtain ⟨ao, co, h3, hmo⟩ := h.ops.form
  subst h1 h2 h3
  have HB := Lib.hid (Four.new w (.int .i64 t.n) (.slice ai t.init.length ci) (.slice ag t.goal.length cg) (.slice ao t.ops.length co) 25)
  have K1 := (Keeps.refl (fun _ => False) w).alloc (.cells #[.int .i64 t.n, .slice ai t.init.length ci, .slice ag t.goal.length cg, .slice ao t.ops.length co] 25)
  have HT := Lib.hid (h.keeps0 K1); have HK := Lib.hid K1
  clear h K1
  go_enter Tryz.func3, Tryz.ntmps3
  go_upto_region 1 with fail
  generalize (w.alloc (.cells #[.int .i64 t.n, .slice ai t.init.length ci, .slice ag t.goal.length cg, .slice ao t.ops.length co] 25)) = w1 at HB HT HK ⊢
  generalize w.heap.size = bt at HB ⊢
  go_wp2_with fail
  refine (spaceExample_any _).mono ?_; rintro e w2 ⟨rfl, hk⟩
  have HB1 := Lib.hid (HB.out.keeps0 hk); have HT1 := Lib.hid (HT.out.keeps0 hk); have HK1 := Lib.hid (HK.out.trans hk)
  clear HB HT HK
  clear hk
  have hbxd := HB1.out.lt
  obtain ⟨d0, d1, d2, d3⟩ := HB1.out
  go_wp2_with fail
  refine (wide_any _ _ _ _ t HT1.out).mono ?_; rintro e w3 ⟨rfl, hk⟩
  clear hbxd d0 d1 d2 d3
  have HB2 := Lib.hid (HB1.out.keeps0 hk); have HT2 := Lib.hid (HT1.out.keeps0 hk); have HK2 := Lib.hid (HK1.out.trans hk)
  clear HB1 HT1 HK1
  clear hk
  cases hw : wideB t with
  | true =>
    clear hw
    go_wp2_with fail
    go_ret
    exact ⟨rfl, HK2.out⟩
  | false =>
    clear hw
    rcases exp_cases t with ⟨c, i, hc, he⟩ | ⟨hok, l, hx, he⟩
    ·
      have HC := Lib.hid hc; have HE := Lib.hid he
      have hcb : (c != 0) = true := by simpa using hc
      clear hc he
      have hbxd := HB2.out.lt
      obtain ⟨d0, d1, d2, d3⟩ := HB2.out
      go_wp2_with fail
      refine (explore_bad HT2.out HC.out HE.out).mono ?_; rintro e y1 ⟨rfl, hk⟩
      clear hbxd d0 d1 d2 d3
      simp only [fltV]
      have KA := (Keeps.refl (fun _ => False) y1).alloc (.cells #[.int .i64 c, .int .i64 i] 30)
      have KB := hk.trans KA
      have HB3 := Lib.hid (HB2.out.keeps0 KB); have HT3 := Lib.hid (HT2.out.keeps0 KB); have HK3 := Lib.hid (HK2.out.trans KB)
      clear HB2 HT2 HK2
      have F1 := Lib.hid (heap_alloc_new y1 (.cells #[.int .i64 c, .int .i64 i] 30))
      clear hk KA KB
      go_upto_region 6 with fail
      generalize y1.alloc (.cells #[.int .i64 c, .int .i64 i] 30) = z1 at HB3 HT3 HK3 F1 ⊢
      generalize y1.heap.size = b1 at F1 ⊢
      obtain ⟨p1, q1, r1, s1, l1⟩ := pair_cells F1.out
      clear r1 s1
      go_wp2_with fail
      go_ret
      exact ⟨rfl, HK3.out⟩
    ·
      have OK := Lib.hid hok; have HX := Lib.hid hx
      clear hok hx he
      have hbxd := HB2.out.lt
      obtain ⟨d0, d1, d2, d3⟩ := HB2.out
      go_wp2_with fail
      refine (explore_good HT2.out OK.out HX.out).mono ?_; rintro e y1 ⟨ws, v1, hws, rfl, hr, hk⟩
      have WS := Lib.hid hws
      obtain ⟨a1, c1, hv, _⟩ := hr.form
      rw [List.length_map] at hv
      subst hv
      clear hbxd d0 d1 d2 d3
      simp only [fltV]
      have KA := (Keeps.refl (fun _ => False) y1).alloc (.cells #[.int .i64 0, .int .i64 0] 30)
      have KB := hk.trans KA
      have HB3 := Lib.hid (HB2.out.keeps0 KB); have HT3 := Lib.hid (HT2.out.keeps0 KB); have HK3 := Lib.hid (HK2.out.trans KB)
      clear HB2 HT2 HK2
      have F1 := Lib.hid (heap_alloc_new y1 (.cells #[.int .i64 0, .int .i64 0] 30))
      have V1 := Lib.hid (hr.keeps0 KA)
      clear hk KA KB
      go_upto_region 6 with fail
      generalize y1.alloc (.cells #[.int .i64 0, .int .i64 0] 30) = z1 at HB3 HT3 HK3 F1 V1 ⊢
      generalize y1.heap.size = b1 at F1 ⊢
      clear hr hws
      obtain ⟨p1, q1, r1, s1, l1⟩ := pair_cells F1.out
      clear r1 s1
      have hfew : ws.length ≤ 2000 := (costs_need OK.out HX.out WS.out.1).2.2.2.2.1
      obtain ⟨hgd, ⟨ki, hki, hpl⟩, hrc, _⟩ := WS.out.good OK.out HX.out
      have HGD := Lib.hid hgd; have HRC := Lib.hid hrc; have HPL := Lib.hid hpl
      have HSH := Lib.hid (costs_need OK.out HX.out WS.out.1).2.2.2.1
      clear hgd hrc hki hpl
      have hbxd := HB3.out.lt
      obtain ⟨d0, d1, d2, d3⟩ := HB3.out
      go_wp2_with fail
      refine (place_any _ _ _ _ t.init V1.out HT3.out.init).mono ?_; rintro e z2 ⟨rfl, hk⟩
      rw [HPL.out]
      clear hbxd d0 d1 d2 d3
      have HB4 := Lib.hid (HB3.out.keeps0 hk); have HT4 := Lib.hid (HT3.out.keeps0 hk); have HK4 := Lib.hid (HK3.out.trans hk); have F11 := Lib.hid (hk.heap F1.out (fun h => h)); have V11 := Lib.hid (V1.out.keeps0 hk)
      clear HB3 HT3 HK3 F1 V1
      clear hk p1 q1 l1
      have HCV := Lib.hid (V11.out.cell rfl)
      have hki0 : ¬ ((ki : Int) < 0) := by omega
      go_wp2_with fail
      go_loopw [5] (fun v5 wr => ∃ i : Nat, i ≤ ws.length ∧ v5 = .int .i64 (i : Int) ∧ Keeps (fun _ => False) z2 wr) (fun v5 _ => ws.length - (intOf v5).toNat)
      case atStart => exact ⟨0, Nat.zero_le _, rfl, Keeps.refl _ _⟩
      case round =>
        obtain ⟨i, hi, rfl, hkr⟩ := hrel
        have HKR := Lib.hid hkr
        clear hkr
        by_cases hlt : i < ws.length
        · obtain ⟨x, hx⟩ : ∃ x, ws[i]? = some x := ⟨_, List.getElem?_eq_getElem hlt⟩
          have hxw := List.mem_of_getElem? hx
          have HGX := Lib.hid (HGD.out x hxw); have HXW := Lib.hid hxw; have HXI := Lib.hid hx
          obtain ⟨bl, ol, rfl, hx'⟩ := HCV.out (by rw [List.length_map]; omega)
          have HXX := Lib.hid hx'
          obtain ⟨uf, hu, hiu⟩ := hx' i (facts x) (by rw [List.getElem?_map, hx]; rfl)
          obtain ⟨af, cf, hfu, _⟩ := hiu.form
          have HIU := Lib.hid hiu
          subst hfu
          have HU := Lib.hid hu
          clear hx hxw hx' hu hiu
          have HBr := Lib.hid (HB4.out.keeps0 HKR.out); have HTr := Lib.hid (HT4.out.keeps0 HKR.out)
          have hbx := HBr.out.lt
          have hsz := HKR.out.size
          obtain ⟨d0, d1, d2, d3⟩ := HBr.out
          have hcu := HKR.out.cell HU.out (fun h => h)
          have HIr := Lib.hid (show Ints wr (.slice af (facts x).length cf) (facts x) from HIU.out.keeps0 HKR.out)
          have i0 : (0 : Int) ≤ (i : Int) := by omega
          have i1 : (i : Int) < (ws.length : Int) := by omega
          go_upto_region 13 with fail
          have KD : Keeps (fun _ => False) wr wr.drew := (Keeps.refl (fun _ => False) wr).drew
          have KA : Keeps (fun _ => False) wr.drew (wr.alloc (.cells #[.int .i64 0, .int .i64 0] 30)).drew := by
            have h := (Keeps.refl (fun _ => False) wr.drew).alloc (.cells #[.int .i64 0, .int .i64 0] 30)
            exact h
          have HZ8 := Lib.hid (show (wr.alloc (.cells #[.int .i64 0, .int .i64 0] 30)).drew.heap[wr.heap.size]? = some (.cells #[.int .i64 0, .int .i64 0] 30 (0, 0)) from heap_alloc_new wr _)
          have HTD := Lib.hid (HTr.out.keeps0 KD); have HID := Lib.hid (show Ints wr.drew (.slice af (facts x).length cf) (facts x) from HIr.out.keeps0 KD); have KRD := Lib.hid (HKR.out.trans KD)
          obtain ⟨d0', d1', d2', d3'⟩ := ((HBr.out.keeps0 KD).keeps0 KA)
          have hcu' := KA.cell (KD.cell hcu (fun h => h)) (fun h => h)
          go_region_held3 (fun w' => w'.cell? ⟨bt, 0, none⟩ = some (.int .i64 t.n) ∧ w'.cell? ⟨bt, 1, none⟩ = some (.slice ai t.init.length ci) ∧ w'.cell? ⟨bt, 2, none⟩ = some (.slice ag t.goal.length cg) ∧ w'.cell? ⟨bt, 3, none⟩ = some (.slice ao t.ops.length co) ∧ w'.cell? ⟨bl, ol + i, none⟩ = some (.slice af (facts x).length cf))
            (go_keep)
            (first
              | (go_at_call 8; refine (applicable_any _ _ _ _ _ t x HTD.out OK.out HGX.out HID.out).mono ?_; rintro e w9 ⟨v9, rfl, hpv, hk⟩; simp only [fltV]; obtain ⟨a9, c9, hv9, _⟩ := hpv.form; subst hv9; have HPV := Lib.hid hpv; clear hpv; have KE := Lib.hid (KRD.out.trans hk); have t0 := hk.cell d0 (fun h => h); have t1 := hk.cell d1 (fun h => h); have t2 := hk.cell d2 (fun h => h); have t3 := hk.cell d3 (fun h => h); have t4 := hk.cell hcu (fun h => h); clear hk)
              | (go_at_call 8; refine (applicable_any _ _ _ _ _ t x (HTD.out.keeps0 KA) OK.out HGX.out (HID.out.keeps0 KA)).mono ?_; rintro e w9 ⟨v9, rfl, hpv, hk⟩; simp only [fltV]; obtain ⟨a9, c9, hv9, _⟩ := hpv.form; subst hv9; have HPV := Lib.hid hpv; clear hpv; have KE := Lib.hid ((KRD.out.trans KA).trans hk); have HZ9 := Lib.hid (hk.heap HZ8.out (fun h => h)); obtain ⟨q0, q1, y0, y1, hl6⟩ := pair_cells HZ9.out; have e0 := setCell_id q0; have e1 := setCell_id q1; have t0 := hk.cell d0' (fun h => h); have t1 := hk.cell d1' (fun h => h); have t2 := hk.cell d2' (fun h => h); have t3 := hk.cell d3' (fun h => h); have t4 := hk.cell hcu' (fun h => h); clear hk))
          all_goals
            first
              | (have KF := Lib.hid KE.out
                 have HFZ := Lib.hid HZ9.out
                 have HPW := Lib.hid HPV.out
                 clear t0 t1 t2 t3 t4 q0 q1 y0 y1 e0 e1 HZ9 hl6 HPV
                 generalize w9 = wz at HFZ KF HPW ⊢
                 generalize wr.heap.size = b7 at HFZ ⊢)
              | (have HFZ := Lib.hid (heap_alloc_new w9 (.cells #[.int .i64 0, .int .i64 0] 30))
                 have KF := Lib.hid (KE.out.alloc (.cells #[.int .i64 0, .int .i64 0] 30))
                 have HPW := Lib.hid (show Ints _ (.slice a9 (intsP (applN (wordsOf t.ops) x t.ops.length)).length c9) (intsP (applN (wordsOf t.ops) x t.ops.length)) from HPV.out.keeps0 ((Keeps.refl (fun _ => False) w9).alloc (.cells #[.int .i64 0, .int .i64 0] 30)))
                 clear t0 t1 t2 t3 t4 HPV
                 generalize w9.alloc (.cells #[.int .i64 0, .int .i64 0] 30) = wz at HFZ KF HPW ⊢
                 generalize w9.heap.size = b7 at HFZ ⊢)
          all_goals
            clear d0 d1 d2 d3 hbx hcu d0' d1' d2' d3' hcu' KD KA HTD HID KRD HZ8 HBr HTr HIr
            have HIz := Lib.hid (show Ints wz (.slice af (facts x).length cf) (facts x) from HIU.out.keeps0 KF.out)
            have hcu := KF.out.cell HU.out (fun h => h)
            obtain ⟨f0, f1, y0, y1, hlf⟩ := pair_cells HFZ.out
            clear y0 y1
            have HAL := Lib.hid (fun j (hj : j ∈ applN (wordsOf t.ops) x t.ops.length) => applN_mem hj)
            have HAN := Lib.hid (applN_le (wordsOf t.ops) x t.ops.length)
            have HOP := Lib.hid OK.out.few
            generalize applN (wordsOf t.ops) x t.ops.length = AL at HPW HAL HAN ⊢
            have hpn : (intsP AL).length = AL.length := by unfold intsP; rw [List.length_map]
            rw [hpn] at HPW ⊢
            have HPN := Lib.hid hpn
            clear hpn
            have hal : AL.length ≤ 40 := by have := HAN.out; have := HOP.out; omega
            rcases Nat.eq_zero_or_pos i with h0 | h0
            case' inl =>
              have hd0 : decide (0 < i) = false := by simp; omega
              have hd1 : decide ((0 : Int) < (i : Int)) = false := by simp; omega
              clear h0
              go_upto_region 14 with fail
              go_quiet (fail)
            case' inr =>
              have hd0 : decide (0 < i) = true := by simp; omega
              have hd1 : decide ((0 : Int) < (i : Int)) = true := by simp; omega
              have hW : IntKind.i64.wrap ((i : Int) - 1) = ((i - 1 : Nat) : Int) := by rw [IntWalk.i64_in _ (by omega)]; omega
              have j0 : (0 : Int) ≤ ((i - 1 : Nat) : Int) := by omega
              have j1 : ((i - 1 : Nat) : Int) < (ws.length : Int) := by omega
              obtain ⟨pa, hpa⟩ : ∃ a, ws[i - 1]? = some a := ⟨_, List.getElem?_eq_getElem (by omega)⟩
              obtain ⟨ua, hua, hia⟩ := HXX.out (i - 1) (facts pa) (by rw [List.getElem?_map, hpa]; rfl)
              obtain ⟨aa, ca, hfa, _⟩ := hia.form
              subst hfa
              have hca := KF.out.cell hua (fun h => h)
              have HIA := Lib.hid (show Ints wz (.slice aa (facts pa).length ca) (facts pa) from hia.keeps0 KF.out)
              have HLB := Lib.hid (less_sorted OK.out HX.out WS.out hpa (by rw [Nat.sub_add_cancel h0]; exact HXI.out))
              clear h0 hpa hua hia
              go_upto_region 14 with fail
              go_quiet ((go_at_call 9; exact Calls.quiet_of (less_b _ _ _ (HIA.out.keeps0 ((Keeps.refl _ _).drewN _)) (HIz.out.keeps0 ((Keeps.refl _ _).drewN _)) HLB.out)))
            all_goals
              have KG := Lib.hid ((Keeps.refl (fun _ => False) wz).drewN nq)
              generalize wz.drewN nq = wg at KG ⊢
              have HPC := Lib.hid (HPW.out.cell rfl)
              go_wp2_with fail
              go_loopw [8] (fun v8 wq => ∃ k : Nat, k ≤ AL.length ∧ v8 = .int .i64 (k : Int) ∧ Keeps (fun _ => False) wz wq) (fun v8 _ => AL.length - (intOf v8).toNat)
              case atStart => exact ⟨0, Nat.zero_le _, rfl, KG.out⟩
              case round =>
                obtain ⟨k, hk, rfl, hkq⟩ := hrel
                have HKQ := Lib.hid hkq
                have HKZ := Lib.hid (KF.out.trans hkq)
                clear hkq
                by_cases hkl : k < AL.length
                · obtain ⟨j, hj⟩ : ∃ j, AL[k]? = some j := ⟨_, List.getElem?_eq_getElem hkl⟩
                  obtain ⟨hjl, o', ho', hcan⟩ := HAL.out j (List.mem_of_getElem? hj)
                  obtain ⟨o, ho⟩ : ∃ o, t.ops[j]? = some o := ⟨_, List.getElem?_eq_getElem hjl⟩
                  have hwo : o' = o.word := by
                    have : (wordsOf t.ops)[j]? = some o.word := by unfold wordsOf; rw [List.getElem?_map, ho]; rfl
                    rw [this] at ho'; cases ho'; rfl
                  subst hwo
                  have HO := Lib.hid ho; have HCAN := Lib.hid hcan
                  have hnin := HSH.out.2 x HXW.out o.word (List.mem_of_getElem? ho') hcan
                  have HNG := Lib.hid (HGD.out _ hnin)
                  have HPLN : Hid (∃ kk : Nat, placeL (ws.map facts) (facts (o.word.next x)) = (kk : Int)) := by
                    unfold Hid
                    rcases place_mem (by have := OK.out.n1; omega) HGD.out HNG.out.1 with ⟨k', h1, h2⟩ | ⟨h1, _⟩
                    · exact ⟨k', h2⟩
                    · rw [HNG.out.2] at h1; exact absurd hnin h1
                  obtain ⟨bp, op, rfl, hpc⟩ := HPC.out (by rw [HPN.out]; omega)
                  have hco := HKQ.out.cell (hpc k (j : Int) (by unfold intsP; rw [List.getElem?_map, hj]; rfl)) (fun h => h)
                  have HBr := Lib.hid (HB4.out.keeps0 HKZ.out); have HTr := Lib.hid (HT4.out.keeps0 HKZ.out)
                  have hbx := HBr.out.lt
                  have hsz := HKZ.out.size
                  obtain ⟨d0, d1, d2, d3⟩ := HBr.out
                  have hcu := HKZ.out.cell HU.out (fun h => h)
                  have HIr := Lib.hid (show Ints wr (.slice af (facts x).length cf) (facts x) from HIU.out.keeps0 HKZ.out)
                  have i0 : (0 : Int) ≤ (i : Int) := by omega
                  have i1 : (i : Int) < (ws.length : Int) := by omega
                  have k0 : (0 : Int) ≤ (k : Int) := by omega
                  have k1 : (k : Int) < (AL.length : Int) := by omega
                  clear hj hjl ho' hcan ho hnin hpc
                  go_upto_region 19 with fail
                  have KD : Keeps (fun _ => False) wr wr.drew := (Keeps.refl (fun _ => False) wr).drew
                  have KA : Keeps (fun _ => False) wr.drew (wr.alloc (.cells #[.int .i64 0, .int .i64 0] 30)).drew := by
                    have h := (Keeps.refl (fun _ => False) wr.drew).alloc (.cells #[.int .i64 0, .int .i64 0] 30)
                    exact h
                  have HZ8 := Lib.hid (show (wr.alloc (.cells #[.int .i64 0, .int .i64 0] 30)).drew.heap[wr.heap.size]? = some (.cells #[.int .i64 0, .int .i64 0] 30 (0, 0)) from heap_alloc_new wr _)
                  have HTD := Lib.hid (HTr.out.keeps0 KD); have HID := Lib.hid (show Ints wr.drew (.slice af (facts x).length cf) (facts x) from HIr.out.keeps0 KD); have KRD := Lib.hid (HKQ.out.trans KD)
                  obtain ⟨d0', d1', d2', d3'⟩ := ((HBr.out.keeps0 KD).keeps0 KA)
                  have hcu' := KA.cell (KD.cell hcu (fun h => h)) (fun h => h)
                  have hco' := KA.cell (KD.cell hco (fun h => h)) (fun h => h)
                  go_region_held3 (fun w' => w'.cell? ⟨bt, 0, none⟩ = some (.int .i64 t.n) ∧ w'.cell? ⟨bt, 1, none⟩ = some (.slice ai t.init.length ci) ∧ w'.cell? ⟨bt, 2, none⟩ = some (.slice ag t.goal.length cg) ∧ w'.cell? ⟨bt, 3, none⟩ = some (.slice ao t.ops.length co) ∧ w'.cell? ⟨bl, ol + i, none⟩ = some (.slice af (facts x).length cf) ∧ w'.cell? ⟨bp, op + k, none⟩ = some (.int .i64 (j : Int)))
                    (go_keep)
                    (first
                      | (go_at_call 10; refine (apply_any _ _ _ _ _ t x j o HTD.out OK.out HGX.out HID.out HO.out HCAN.out).mono ?_; rintro e w9 ⟨v9, rfl, hpv, hk⟩; simp only [fltV]; obtain ⟨a11, c11, hv9, _⟩ := hpv.form; subst hv9; have HPV := Lib.hid hpv; clear hpv; have KE := Lib.hid (KRD.out.trans hk); have t0 := hk.cell d0 (fun h => h); have t1 := hk.cell d1 (fun h => h); have t2 := hk.cell d2 (fun h => h); have t3 := hk.cell d3 (fun h => h); have t4 := hk.cell hcu (fun h => h); have t5 := hk.cell hco (fun h => h); clear hk)
                      | (go_at_call 10; refine (apply_any _ _ _ _ _ t x j o (HTD.out.keeps0 KA) OK.out HGX.out (HID.out.keeps0 KA) HO.out HCAN.out).mono ?_; rintro e w9 ⟨v9, rfl, hpv, hk⟩; simp only [fltV]; obtain ⟨a11, c11, hv9, _⟩ := hpv.form; subst hv9; have HPV := Lib.hid hpv; clear hpv; have KE := Lib.hid ((KRD.out.trans KA).trans hk); have HZ9 := Lib.hid (hk.heap HZ8.out (fun h => h)); obtain ⟨q0, q1, y0, y1, hl6⟩ := pair_cells HZ9.out; have e0 := setCell_id q0; have e1 := setCell_id q1; have t0 := hk.cell d0' (fun h => h); have t1 := hk.cell d1' (fun h => h); have t2 := hk.cell d2' (fun h => h); have t3 := hk.cell d3' (fun h => h); have t4 := hk.cell hcu' (fun h => h); have t5 := hk.cell hco' (fun h => h); clear hk))
                  all_goals
                    first
                      | (have KF2 := Lib.hid KE.out
                         have HFZ2 := Lib.hid HZ9.out
                         have HPW2 := Lib.hid HPV.out
                         clear t0 t1 t2 t3 t4 t5 q0 q1 y0 y1 e0 e1 HZ9 hl6 HPV
                         generalize w9 = wy at HFZ2 KF2 HPW2 ⊢
                         generalize wr.heap.size = b10 at HFZ2 ⊢)
                      | (have HFZ2 := Lib.hid (heap_alloc_new w9 (.cells #[.int .i64 0, .int .i64 0] 30))
                         have KF2 := Lib.hid (KE.out.alloc (.cells #[.int .i64 0, .int .i64 0] 30))
                         have HPW2 := Lib.hid (show Ints _ (.slice a11 (facts (o.word.next x)).length c11) (facts (o.word.next x)) from HPV.out.keeps0 ((Keeps.refl (fun _ => False) w9).alloc (.cells #[.int .i64 0, .int .i64 0] 30)))
                         clear t0 t1 t2 t3 t4 t5 HPV
                         generalize w9.alloc (.cells #[.int .i64 0, .int .i64 0] 30) = wy at HFZ2 KF2 HPW2 ⊢
                         generalize w9.heap.size = b10 at HFZ2 ⊢)
                  all_goals
                    obtain ⟨f2, f3, y2, y3, hlg⟩ := pair_cells HFZ2.out
                    clear y2 y3
                    obtain ⟨kk, hkk⟩ := HPLN.out
                    have HKK := Lib.hid hkk
                    have hk0 : ¬ ((kk : Int) < 0) := by omega
                    clear hkk
                    go_wp2_with fail
                    refine (place_any _ _ _ (ws.map facts) (facts (o.word.next x)) (V11.out.keeps0 (KF.out.trans KF2.out)) HPW2.out).mono ?_; rintro e wx ⟨rfl, hk⟩
                    rw [HKK.out]
                    have KX := Lib.hid (KF2.out.trans hk)
                    clear hk
                    go_wp2_with fail
                    go_roundw
                    case rel => exact ⟨k + 1, by omega, by go_num, KX.out⟩
                    case measure => simp only [intOf]; omega
                · go_wp2_with fail
                  go_roundw
                  case rel => exact ⟨i + 1, by omega, by go_num, HKZ.out⟩
                  case measure => simp only [intOf]; omega
        · go_wp2_with fail
          go_ret
          exact ⟨rfl, HK4.out.trans HKR.out⟩

end Go.Proofs.YtdonadeodioplaaGreat
