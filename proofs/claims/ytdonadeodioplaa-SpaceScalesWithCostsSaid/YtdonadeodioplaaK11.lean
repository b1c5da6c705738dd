/- space: SpaceDistancesAreConsistent walked. space.Path over any tree of parents (the text of Path's walk over a weaker tree). novelty.covered. novelty.search: the frame of the walk. novelty.search: what the round knows. No condition beyond what each theorem says. -/
import Derived.Test.YtdonadeodioplaaK10
import Derived.Test.YtdonadeodioplaaK6
import Derived.Test.YtdonadeodioplaaK2
import Derived.Test.YtdonadeodioplaaK4
import Derived.Test.YtdonadeodioplaaK5
import Derived.Test.YtdonadeodioplaaK9
import Derived.Test.YtdonadeodioplaaK1

namespace Go.Proofs.Ytdonadeodioplaa
open Go.RowKit

set_option maxRecDepth 100000 in
set_option maxHeartbeats 1000000 in
theorem sdisLaw_any (w : World) (vi vg vo : Value) (t : Tsk) (h : TaskAt w vi vg vo t) :
    Calls Try.prog 3 #[.agg #[.int .i64 t.n, vi, vg, vo]] w fun e w' => e = .returned (.bool true) ∧ Keeps (fun _ => False) w w' := by
  obtain ⟨ai, ci, h1, _⟩ := h.init.form
  obtain ⟨ag, cg, h2, _⟩ := h.goal.form
  obtain ⟨ao, co, h3, hmo⟩ := h.ops.form
  subst h1 h2 h3
  have HB := Lib.hid (Four.new w (.int .i64 t.n) (.slice ai t.init.length ci) (.slice ag t.goal.length cg) (.slice ao t.ops.length co) 25)
  have K1 := (Keeps.refl (fun _ => False) w).alloc (.cells #[.int .i64 t.n, .slice ai t.init.length ci, .slice ag t.goal.length cg, .slice ao t.ops.length co] 25)
  have HT := Lib.hid (h.keeps0 K1); have HK := Lib.hid K1
  clear h K1
  go_enter Try.func3, Try.ntmps3
  go_upto_region 1 with fail
  generalize (w.alloc (.cells #[.int .i64 t.n, .slice ai t.init.length ci, .slice ag t.goal.length cg, .slice ao t.ops.length co] 25)) = w1 at HB HT HK ⊢
  generalize w.heap.size = bt at HB ⊢
  go_wp2_with fail
  refine (spaceExample_any _).mono ?_; rintro e w2 ⟨rfl, hk⟩
  have HB2 := Lib.hid (HB.out.keeps0 hk); have HT2 := Lib.hid (HT.out.keeps0 hk); have K2 := Lib.hid (HK.out.trans hk)
  have hbx := HB2.out.lt
  obtain ⟨d0, d1, d2, d3⟩ := HB2.out
  clear hk
  go_wp2_with fail
  refine (wide_any _ _ _ _ t HT2.out).mono ?_; rintro e w3 ⟨rfl, hk⟩
  have HB3 := Lib.hid (HB2.out.keeps0 hk); have HT3 := Lib.hid (HT2.out.keeps0 hk); have K3 := Lib.hid (K2.out.trans hk)
  clear d0 d1 d2 d3 hk hbx HB HT HK HB2 HT2 K2
  cases hw : wideB t with
  | true =>
    go_wp2_with fail
    go_ret
    exact ⟨rfl, K3.out⟩
  | false =>
    clear hw
    rcases exp_cases t with ⟨c, i, hc, he⟩ | ⟨hok, l, hx, he⟩
    · have HC := Lib.hid hc; have HE := Lib.hid he
      clear hc he
      have hbx := HB3.out.lt
      obtain ⟨d0, d1, d2, d3⟩ := HB3.out
      go_wp2_with fail
      refine (explore_bad HT3.out HC.out HE.out).mono ?_; rintro e y1 ⟨rfl, hk⟩
      simp only [fltV]
      have KB := hk.trans ((Keeps.refl (fun _ => False) y1).alloc (.cells #[.int .i64 c, .int .i64 i] 30))
      have HB4 := Lib.hid (HB3.out.keeps0 KB); have HT4 := Lib.hid (HT3.out.keeps0 KB); have K4 := Lib.hid (K3.out.trans KB); have F1 := Lib.hid (heap_alloc_new y1 (.cells #[.int .i64 c, .int .i64 i] 30))
      clear hk KB d0 d1 d2 d3 hbx HB3 HT3 K3
      go_upto_region 6 with fail
      generalize y1.alloc (.cells #[.int .i64 c, .int .i64 i] 30) = z1 at HB4 HT4 K4 F1 ⊢
      generalize y1.heap.size = b1 at F1 ⊢
      have hbx := HB4.out.lt
      obtain ⟨d0, d1, d2, d3⟩ := HB4.out
      go_wp2_with fail
      refine (distances_bad HT4.out HC.out HE.out).mono ?_; rintro e y2 ⟨rfl, hk⟩
      simp only [fltV]
      have KB := hk.trans ((Keeps.refl (fun _ => False) y2).alloc (.cells #[.int .i64 c, .int .i64 i] 30))
      have K5 := Lib.hid (K4.out.trans KB); have F2 := Lib.hid (heap_alloc_new y2 (.cells #[.int .i64 c, .int .i64 i] 30)); have F1' := Lib.hid (KB.heap F1.out (fun h => h))
      clear hk KB d0 d1 d2 d3 hbx HB4 HT4 K4 F1
      go_upto_region 7 with fail
      generalize y2.alloc (.cells #[.int .i64 c, .int .i64 i] 30) = z2 at K5 F1' F2 ⊢
      generalize y2.heap.size = b2 at F2 ⊢
      obtain ⟨p1, q1, r1, s1, l1⟩ := pair_cells F1'.out
      obtain ⟨p2, q2, r2, s2, l2⟩ := pair_cells F2.out
      have hc3 : (c != 0) = true := by simpa using HC.out
      go_wp2_with fail
      go_ret
      exact ⟨rfl, K5.out⟩
    · have OK := Lib.hid hok; have HX := Lib.hid hx
      clear hok hx he
      have hbx := HB3.out.lt
      obtain ⟨d0, d1, d2, d3⟩ := HB3.out
      go_wp2_with fail
      refine (explore_good HT3.out OK.out HX.out).mono ?_; rintro e y1 ⟨ws, v1, hws, rfl, hr, hk⟩
      have WS := Lib.hid hws
      obtain ⟨a1, c1, hv, _⟩ := hr.form
      rw [List.length_map] at hv
      subst hv
      simp only [fltV]
      have KA := (Keeps.refl (fun _ => False) y1).alloc (.cells #[.int .i64 0, .int .i64 0] 30)
      have KB := hk.trans KA
      have HB4 := Lib.hid (HB3.out.keeps0 KB); have HT4 := Lib.hid (HT3.out.keeps0 KB); have K4 := Lib.hid (K3.out.trans KB); have F1 := Lib.hid (heap_alloc_new y1 (.cells #[.int .i64 0, .int .i64 0] 30)); have V1 := Lib.hid (hr.keeps0 KA)
      clear hk KA KB d0 d1 d2 d3 hbx HB3 HT3 K3 hr hws
      go_upto_region 6 with fail
      generalize y1.alloc (.cells #[.int .i64 0, .int .i64 0] 30) = z1 at HB4 HT4 K4 F1 V1 ⊢
      generalize y1.heap.size = b1 at F1 ⊢
      have hbx := HB4.out.lt
      obtain ⟨d0, d1, d2, d3⟩ := HB4.out
      go_wp2_with fail
      refine (distances_good HT4.out OK.out HX.out WS.out).mono ?_; rintro e y2 ⟨v2, D, rfl, hd, hr, hk⟩
      obtain ⟨a2, c2, hv, _⟩ := hr.form
      rw [List.length_map] at hv
      subst hv
      simp only [fltV]
      have KA := (Keeps.refl (fun _ => False) y2).alloc (.cells #[.int .i64 0, .int .i64 0] 30)
      have KB := hk.trans KA
      have HD := Lib.hid hd
      have HB5 := Lib.hid (HB4.out.keeps0 KB); have HT5 := Lib.hid (HT4.out.keeps0 KB); have K5 := Lib.hid (K4.out.trans KB); have F2 := Lib.hid (heap_alloc_new y2 (.cells #[.int .i64 0, .int .i64 0] 30)); have F1' := Lib.hid (KB.heap F1.out (fun h => h)); have V1' := Lib.hid (V1.out.keeps0 KB); have V2 := Lib.hid (hr.keeps0 KA)
      clear hk KA KB d0 d1 d2 d3 hbx HB4 HT4 K4 F1 V1 hr hd
      go_upto_region 7 with fail
      generalize y2.alloc (.cells #[.int .i64 0, .int .i64 0] 30) = z2 at HB5 HT5 K5 F1' F2 V1' V2 ⊢
      generalize y2.heap.size = b2 at F2 ⊢
      obtain ⟨p1, q1, r1, s1, l1⟩ := pair_cells F1'.out
      obtain ⟨p2, q2, r2, s2, l2⟩ := pair_cells F2.out
      clear r1 s1 r2 s2
      obtain ⟨n1, n2, n3, hsh, hfew, n6, n7, n8⟩ := costs_need OK.out HX.out WS.out.1
      obtain ⟨hgd, hpl0, hrc, har⟩ := WS.out.good OK.out HX.out
      have HGD := Lib.hid hgd; have HSH := Lib.hid hsh; have HN7 := Lib.hid n7
      have HCV := Lib.hid (V1'.out.cell rfl)
      have HDV := Lib.hid (V2.out.cell (show Value.slice a2 ws.length c2 = .slice a2 (ws.map D).length c2 by rw [List.length_map]))
      have HOC := Lib.hid (HT5.out.ops.cell rfl)
      have hopl : (wordsOf t.ops).length = t.ops.length := by unfold wordsOf; rw [List.length_map]
      have HOPL := Lib.hid hopl
      clear n1 n2 n3 hsh n6 n7 n8 hgd hpl0 hrc har hopl
      go_wp2_with fail
      go_loopw [7] (fun v7 wr => ∃ i : Nat, i ≤ ws.length ∧ v7 = .int .i64 (i : Int) ∧ Keeps (fun _ => False) z2 wr) (fun v7 _ => ws.length - (intOf v7).toNat)
      case atStart => exact ⟨0, Nat.zero_le _, rfl, Keeps.refl _ _⟩
      case round =>
        obtain ⟨i, hi, rfl, hkr⟩ := hrel
        have HKR := Lib.hid hkr
        clear hkr p1 q1 l1 p2 q2 l2
        by_cases hlt : i < ws.length
        · obtain ⟨x, hx⟩ : ∃ x, ws[i]? = some x := ⟨_, List.getElem?_eq_getElem hlt⟩
          have HXI := Lib.hid hx
          have hxw := List.mem_of_getElem? hx
          have HGX := Lib.hid (HGD.out x hxw)
          obtain ⟨bl, ol, rfl, hx'⟩ := HCV.out (by rw [List.length_map]; omega)
          obtain ⟨uf, hu, hiu⟩ := hx' i (facts x) (by rw [List.getElem?_map, hx]; rfl)
          obtain ⟨af, cf, hfu, _⟩ := hiu.form
          have HIU := Lib.hid hiu
          subst hfu
          have HU := Lib.hid hu
          obtain ⟨bd, od, rfl, hd'⟩ := HDV.out (by rw [List.length_map]; omega)
          have HDI := Lib.hid (hd' i (D x) (by rw [List.getElem?_map, hx]; rfl))
          have HDA := Lib.hid hd'
          have HBEST := Lib.hid (dist_best HSH.out HD.out (fun o ho => (HN7.out o ho).1) hxw)
          clear hx hxw hx' hu hiu hd'
          go_wp2_with fail
          go_loopw [8, 9] (fun v8 v9 wq => ∃ j : Nat, j ≤ t.ops.length ∧ v9 = .int .i64 (j : Int) ∧ v8 = .int .i64 (bestC D x ((wordsOf t.ops).take j)) ∧ Keeps (fun _ => False) z2 wq) (fun _ v9 _ => t.ops.length - (intOf v9).toNat)
          case atStart => exact ⟨0, Nat.zero_le _, rfl, rfl, HKR.out⟩
          case round =>
            obtain ⟨j, hj, rfl, rfl, hkq⟩ := hrel
            have HKQ := Lib.hid hkq
            clear hkq
            by_cases hjl : j < t.ops.length
            · obtain ⟨o, ho⟩ : ∃ o, t.ops[j]? = some o := ⟨_, List.getElem?_eq_getElem hjl⟩
              have HOO := Lib.hid ho
              obtain ⟨bo, oo, rfl, ho'⟩ := HOC.out (by omega)
              obtain ⟨va, vb, vc, _, _, _, c3, _⟩ := ho' j o ho
              have HC3 := Lib.hid c3
              clear ho' c3
              have hok := OK.out.ops o (List.mem_of_getElem? ho)
              obtain ⟨hap, haf, hgn⟩ := good_next (by have := OK.out.n1; omega) hok HGX.out
              have HAP := Lib.hid hap; have HAF := Lib.hid haf; have HGN := Lib.hid hgn
              have hwo : (wordsOf t.ops)[j]? = some o.word := by unfold wordsOf; rw [List.getElem?_map, ho]; rfl
              have hbs : bestC D x ((wordsOf t.ops).take (j + 1)) = if o.word.can x = true then min (bestC D x ((wordsOf t.ops).take j)) (o.word.cost + D (o.word.next x)) else bestC D x ((wordsOf t.ops).take j) := by rw [take_getS hwo, bestC_snoc]
              have HBSN := Lib.hid hbs; have HWO := Lib.hid (List.mem_of_getElem? hwo)
              have HBq := Lib.hid (HB5.out.keeps0 HKQ.out); have HTq := Lib.hid (HT5.out.keeps0 HKQ.out)
              have hbx := HBq.out.lt
              obtain ⟨d0, d1, d2, d3⟩ := HBq.out
              have hcu := HKQ.out.cell HU.out (fun h => h)
              have HIq := Lib.hid (show Ints wr (.slice af (facts x).length cf) (facts x) from HIU.out.keeps0 HKQ.out)
              have i0 : (0 : Int) ≤ (i : Int) := by omega
              have i1 : (i : Int) < (ws.length : Int) := by omega
              clear ho hok hap haf hgn hwo hbs
              go_upto_region 18 with fail
              go_still_tail 6, (by kernel_rfl)
              change wpList _ _ _ _ _ wr.drew
              have KD := (Keeps.refl (fun _ => False) wr).drew
              have HTD := Lib.hid (HTq.out.keeps0 KD); have HID := Lib.hid (show Ints wr.drew (.slice af (facts x).length cf) (facts x) from HIq.out.keeps0 KD); have KQD := Lib.hid (HKQ.out.trans KD)
              clear KD d0 d1 d2 d3 hbx hcu HBq HTq HIq HKQ
              generalize wr.drew = w4 at HTD HID KQD ⊢
              go_wp2_with fail
              refine (applies_any _ _ _ _ _ t (facts x) j o HTD.out HID.out HOO.out).mono ?_; rintro en w5 ⟨rfl, hk⟩
              rw [HAP.out]
              have K6 := Lib.hid (KQD.out.trans hk); have HT6 := Lib.hid (HTD.out.keeps0 hk); have HI6 := Lib.hid (show Ints w5 (.slice af (facts x).length cf) (facts x) from HID.out.keeps0 hk)
              clear hk HTD HID KQD
              cases hcan : o.word.can x with
              | false =>
                have HB0 := Lib.hid (show bestC D x ((wordsOf t.ops).take (j + 1)) = bestC D x ((wordsOf t.ops).take j) by rw [HBSN.out, if_neg (by rw [hcan]; simp)])
                clear hcan
                go_wp2_with fail
                go_roundw
                case rel => exact ⟨j + 1, by omega, by go_num, by rw [HB0.out], K6.out⟩
                case measure => simp only [intOf]; omega
              | true =>
                have HB1 := Lib.hid (show bestC D x ((wordsOf t.ops).take (j + 1)) = min (bestC D x ((wordsOf t.ops).take j)) (o.word.cost + D (o.word.next x)) by rw [HBSN.out, if_pos hcan])
                have hnin : o.word.next x ∈ ws := HSH.out.2 x (List.mem_of_getElem? HXI.out) o.word HWO.out hcan
                obtain ⟨k, hkk⟩ := List.mem_iff_getElem?.1 hnin
                have hkl := (List.getElem?_eq_some_iff.1 hkk).1
                have HKK := Lib.hid hkk
                have HPLK : Hid (placeL (ws.map facts) (facts (o.word.next x)) = (k : Int)) := by
                  unfold Hid
                  obtain ⟨hd, hcl⟩ := HSH.out
                  have hgy := HGN.out
                  rcases place_mem (by have := OK.out.n1; omega) HGD.out hgy.1 with ⟨k', h1, h2⟩ | ⟨h1, _⟩
                  · rw [hgy.2] at h1
                    have : k' = k := nodup_ix hd h1 hkk
                    subst this; exact h2
                  · rw [hgy.2] at h1; exact absurd hnin h1
                have HCAN := Lib.hid hcan
                clear hcan hnin hkk
                have HBw := Lib.hid (HB5.out.keeps0 K6.out)
                have hbx := HBw.out.lt
                obtain ⟨d0, d1, d2, d3⟩ := HBw.out
                have hcu := K6.out.cell HU.out (fun h => h)
                go_upto_region 19 with fail
                have KD := (Keeps.refl (fun _ => False) w5).drew
                have HT7 := Lib.hid (HT6.out.keeps0 KD); have HI7 := Lib.hid (show Ints w5.drew (.slice af (facts x).length cf) (facts x) from HI6.out.keeps0 KD); have K7 := Lib.hid (K6.out.trans KD)
                have hn1000 : t.n ≤ 1000 := by have := OK.out.n1; omega
                clear KD
                go_region_held3 (fun w' => w'.cell? ⟨bt, 0, none⟩ = some (.int .i64 t.n) ∧ w'.cell? ⟨bt, 1, none⟩ = some (.slice ai t.init.length ci) ∧ w'.cell? ⟨bt, 2, none⟩ = some (.slice ag t.goal.length cg) ∧ w'.cell? ⟨bt, 3, none⟩ = some (.slice (some ⟨bo, oo, none⟩) t.ops.length co) ∧ w'.cell? ⟨bl, ol + i, none⟩ = some (.slice af (facts x).length cf))
                  (go_keep)
                  (first
                    | (go_at_call 18; refine (after_any w5.drew _ _ _ _ t (facts x) j o HT7.out HI7.out HOO.out OK.out.n0 hn1000).mono ?_; rintro en w8 ⟨vn, rfl, hown, hk⟩; rw [HAF.out] at hown; have HN := Lib.hid (Ints.of_own hown); have K8 := Lib.hid (K7.out.trans hk); obtain ⟨an, cn, hvn⟩ := ownsRow_form1 hown; subst hvn; have HL8 := Lib.hid (V1'.out.keeps0 K8.out); have t0 := hk.cell d0 (fun h => h); have t1 := hk.cell d1 (fun h => h); have t2 := hk.cell d2 (fun h => h); have t3 := hk.cell d3 (fun h => h); have t4 := hk.cell hcu (fun h => h); clear hown hk)
                    | (go_at_call 17; refine (place_any w8 _ _ (ws.map facts) (facts (o.word.next x)) HL8.out HN.out).mono ?_; rintro en w9 ⟨rfl, hk⟩; rw [HPLK.out]; have K9 := Lib.hid (K8.out.trans hk); have u0 := hk.cell t0 (fun h => h); have u1 := hk.cell t1 (fun h => h); have u2 := hk.cell t2 (fun h => h); have u3 := hk.cell t3 (fun h => h); have u4 := hk.cell t4 (fun h => h); clear hk))
                all_goals
                  have c3 := K9.out.cell HC3.out (fun h => h)
                  have cd := K9.out.cell (HDA.out k (D (o.word.next x)) (by rw [List.getElem?_map, HKK.out]; rfl)) (fun h => h)
                  have q3 : (0 : Int) ≤ (k : Int) := by omega
                  have q4 : (k : Int) < (ws.length : Int) := by omega
                  have q5 : (0 : Int) ≤ (j : Int) := by omega
                  have q6 : (j : Int) < (t.ops.length : Int) := by omega
                  have q7 : ¬ ((k : Int) < 0) := by omega
                  have hcy := opt_low HD.out (HSH.out.2 x (List.mem_of_getElem? HXI.out) o.word HWO.out HCAN.out)
                  have hbig : bigC = 1000000000 := rfl
                  have hoc := HN7.out o.word HWO.out
                  have hoc' : o.word.cost = o.cost := rfl
                  have hW : IntKind.i64.wrap (o.cost + D (o.word.next x)) = o.cost + D (o.word.next x) := IntWalk.i64_in _ (by omega)
                  have KX := Lib.hid (K9.out.trans ((Keeps.refl (fun _ => False) w9).drew))
                  have HB1' := Lib.hid (show bestC D x ((wordsOf t.ops).take (j + 1)) = min (bestC D x ((wordsOf t.ops).take j)) (o.cost + D (o.word.next x)) from HB1.out)
                  clear hcy hbig hoc hoc'
                  go_upto_region 22 with fail
                  go_still_tail 12, (by kernel_rfl)
                  change wpList _ _ _ _ _ w9.drew
                  go_wp2_with fail
                  go_roundw
                  case rel => exact ⟨j + 1, by omega, by go_num, by rw [HB1'.out], KX.out⟩
                  case measure => simp only [intOf]; omega
            · have hje : j = t.ops.length := by omega
              subst hje
              have hfull : bestC D x ((wordsOf t.ops).take t.ops.length) = bestC D x (wordsOf t.ops) := by rw [List.take_of_length_le (by rw [HOPL.out]; exact Nat.le_refl _)]
              have HFU := Lib.hid hfull
              have HBw := Lib.hid (HB5.out.keeps0 HKQ.out); have HTw := Lib.hid (HT5.out.keeps0 HKQ.out)
              have hbx := HBw.out.lt
              obtain ⟨d0, d1, d2, d3⟩ := HBw.out
              have hcu := HKQ.out.cell HU.out (fun h => h)
              have HIw := Lib.hid (show Ints wr (.slice af (facts x).length cf) (facts x) from HIU.out.keeps0 HKQ.out)
              have i0 : (0 : Int) ≤ (i : Int) := by omega
              have i1 : (i : Int) < (ws.length : Int) := by omega
              clear hfull
              go_upto_region 23 with fail
              go_still_tail 6, (by kernel_rfl)
              change wpList _ _ _ _ _ wr.drew
              have KD := (Keeps.refl (fun _ => False) wr).drew
              have HTD := Lib.hid (HTw.out.keeps0 KD); have HID := Lib.hid (show Ints wr.drew (.slice af (facts x).length cf) (facts x) from HIw.out.keeps0 KD); have KQD := Lib.hid (HKQ.out.trans KD)
              clear KD d0 d1 d2 d3 hbx hcu HBw HTw HIw HKQ
              generalize wr.drew = w4 at HTD HID KQD ⊢
              have hcd := KQD.out.cell HDI.out (fun h => h)
              go_wp2_with fail
              refine (subset_goal _ _ _ t x HTD.out.goal HID.out).mono ?_; rintro en w5 ⟨rfl, rfl⟩
              rw [goalW_goalB OK.out HGX.out]
              cases hgb : goalB (wd t.goal) x with
              | true =>
                have hdx : D x = 0 := by rw [HBEST.out, if_pos hgb]
                rw [hdx] at hcd
                have HDX := Lib.hid hdx
                clear hgb hdx
                go_wp2_with fail
                go_roundw
                case rel => exact ⟨i + 1, by omega, by go_num, KQD.out⟩
                case measure => simp only [intOf]; omega
              | false =>
                have hdx : D x = bestC D x ((wordsOf t.ops).take t.ops.length) := by rw [HFU.out, HBEST.out, if_neg (by rw [hgb]; simp)]
                rw [hdx] at hcd
                have HDX := Lib.hid hdx
                generalize bestC D x ((wordsOf t.ops).take t.ops.length) = bb at hcd HDX ⊢
                have hne : (bb != bb) = false := by simp
                clear hgb hdx
                go_wp2_with fail
                go_roundw
                case rel => exact ⟨i + 1, by omega, by go_num, KQD.out⟩
                case measure => simp only [intOf]; omega
        · go_wp2_with fail
          go_ret
          exact ⟨rfl, K5.out.trans HKR.out⟩

end Go.Proofs.Ytdonadeodioplaa

namespace Go.Proofs.Ytdonadeodioplaa
open Go.RowKit Go.Sort Go.Proofs

structure PTree (ops : List Wop) (s : Nat) (T : List Ent) : Prop where
  nodup : (keysT T).Nodup
  head : T[0]? = some ⟨s, s, 0, []⟩
  run : ∀ e ∈ T, runOps ops s e.path = some e.to
  parent : ∀ (j : Nat) e, T[j]? = some e → 0 < j → ∃ (k : Nat) (f : Ent), k < j ∧ True ∧ T[k]? = some f ∧ e.frm = f.to ∧ e.path = f.path ++ [e.op] ∧ e.op < ops.length
  reach : ∀ e ∈ T, Reach ops s e.to

theorem PTree.inj {ops : List Wop} {s : Nat} {T : List Ent} (h : PTree ops s T) {j k : Nat} {e f : Ent} (he : T[j]? = some e) (hf : T[k]? = some f) (hef : e.to = f.to) : j = k := by
  have h1 : (keysT T)[j]? = some e.to := by unfold keysT; rw [List.getElem?_map, he]; rfl
  have h2 : (keysT T)[k]? = some f.to := by unfold keysT; rw [List.getElem?_map, hf]; rfl
  obtain ⟨l1, g1⟩ := List.getElem?_eq_some_iff.1 h1
  obtain ⟨l2, g2⟩ := List.getElem?_eq_some_iff.1 h2
  exact (List.getElem_inj h.nodup).1 (by rw [g1, g2, hef])

theorem PTree.start (ops : List Wop) (s : Nat) : PTree ops s [⟨s, s, 0, []⟩] := by
  refine ⟨by simp [keysT], rfl, fun e he => ?_, fun j e hj h0 => ?_, fun e he => ?_⟩
  · simp at he; subst he; rfl
  · cases j with
    | zero => omega
    | succ j => simp at hj
  · simp at he; subst he; exact .refl

theorem PTree.add {ops : List Wop} {s : Nat} {T : List Ent} (h : PTree ops s T) {e : Ent} (he : e ∈ T) {x : Stp} (hx : x ∈ wsteps ops e.to) (hn : x.to ∉ keysT T) : PTree ops s (T ++ [e.of x]) := by
  obtain ⟨o, ho, hc, _, hto⟩ := wsteps_mem.1 hx
  obtain ⟨i, hi⟩ := List.mem_iff_getElem?.1 he
  refine ⟨?_, ?_, fun f hf => ?_, fun j f hj h0 => ?_, fun f hf => ?_⟩
  · show (List.map Ent.to (T ++ [e.of x])).Nodup
    rw [List.map_append]
    refine List.nodup_append.2 ⟨h.nodup, by simp, fun a ha b hb => ?_⟩
    simp [Ent.of] at hb
    subst hb
    rintro rfl
    exact hn ha
  · have := (List.getElem?_eq_some_iff.1 h.head).1
    rw [List.getElem?_append_left this]; exact h.head
  · rcases List.mem_append.1 hf with hf | hf
    · exact h.run f hf
    · simp at hf; subst hf
      show runOps ops s (e.path ++ [x.op]) = some x.to
      rw [hto]
      exact runOps_snoc' (h.run e he) ho hc
  · by_cases hlt : j < T.length
    · rw [List.getElem?_append_left hlt] at hj
      obtain ⟨k, g, h1, h2, h3, h4⟩ := h.parent j f hj h0
      exact ⟨k, g, h1, h2, by rw [List.getElem?_append_left (by omega)]; exact h3, h4⟩
    · have hil := (List.getElem?_eq_some_iff.1 hj).1
      have hj' : j = T.length := by simp at hil; omega
      subst hj'
      rw [List.getElem?_append_right (Nat.le_refl _)] at hj
      simp at hj; subst hj
      have hl := (List.getElem?_eq_some_iff.1 hi).1
      exact ⟨i, e, hl, trivial, by rw [List.getElem?_append_left hl]; exact hi, rfl, rfl, (List.getElem?_eq_some_iff.1 ho).1⟩
  · rcases List.mem_append.1 hf with hf | hf
    · exact h.reach f hf
    · simp at hf; subst hf
      refine .step (h.reach e he) ?_
      show x.to ∈ nexts ops e.to
      unfold nexts
      rw [hto]
      exact List.mem_map.2 ⟨o, List.mem_filter.2 ⟨List.mem_of_getElem? ho, hc⟩, rfl⟩

theorem PTree.few {ops : List Wop} {s : Nat} {T : List Ent} (h : PTree ops s T) {l : List Nat} (hr : reached ops s = some l) : T.length ≤ l.length := by
  have := nodup_sub_length h.nodup (b := l) (fun x hx => by
    unfold keysT at hx
    obtain ⟨e, he, rfl⟩ := List.mem_map.1 hx
    exact ((reached_some hr).2.2.2 e.to).2 (h.reach e he))
  unfold keysT at this
  rwa [List.length_map] at this

set_option maxRecDepth 100000 in
set_option maxHeartbeats 1000000 in
theorem path_p (w : World) (m : Nat) (ops : List Wop) (s : Nat) (T : List Ent) (k : Nat) (e : Ent) (ok : PTree ops s T) (hm : IMap w m .u32 (parL T)) (he : T[k]? = some e) (few : T.length ≤ 100000) :
    Calls Try.prog 102 #[.map (some m), .int .u32 (s : Int), .int .u32 (e.to : Int)] w fun en w' => ∃ v, en = .returned v ∧ w'.ownsRow w.heap.size 3 1 v e.path.length ((intsP e.path).map (Value.int .i64)) ∧ Keeps (fun _ => False) w w' := by
  obtain ⟨i0, hi0, hz0, hz1, hz2⟩ := info_parts Try.info3
  have HM := Lib.hid hm; have OK := Lib.hid ok; have HE := Lib.hid he; have FEW := Lib.hid few
  have hkl := (List.getElem?_eq_some_iff.1 he).1
  clear hm ok he few
  go_enter Try.func102, Try.ntmps102
  go_wp2_with fail
  go_loopw [2, 7] (fun x v wr => ∃ (j : Nat) (f : Ent) (out : List Nat), T[j]? = some f ∧ out.length + j ≤ k ∧ e.path = f.path ++ out.reverse ∧ x = .int .u32 (f.to : Int) ∧ wr.ownsRow w.heap.size 3 1 v (intsP out).length ((intsP out).map (Value.int .i64)) ∧ Keeps (fun _ => False) w wr)
    (fun x _ _ => ((keysT T).idxOf (intOf x).toNat))
  case atStart => exact ⟨k, e, [], HE.out, by simp, by simp, rfl, World.ownsRow_nil _ _ _ _, Keeps.refl _ _⟩
  case round =>
    obtain ⟨j, f, out, hj, hjk, hp, rfl, hown, hkw⟩ := hrel
    have HO := Lib.hid hown; have KW := Lib.hid hkw; have HP := Lib.hid hp; have HJ := Lib.hid hj; have HJK := Lib.hid hjk
    have hmw := HM.out.keeps hkw (fun h => h)
    clear hown hkw hp hj hjk
    obtain ⟨av, cv, hv⟩ := ownsRow_form1 HO.out
    subst hv
    by_cases hne : f.to = s
    · have hb : ((f.to : Int) != (s : Int)) = false := by simp [hne]
      have hf : f.path = [] := by
        have h0 := OK.out.inj HJ.out OK.out.head hne
        subst h0
        have h1 := HJ.out
        rw [OK.out.head] at h1
        cases h1; rfl
      have HPE := Lib.hid (show (intsP out).reverse = intsP e.path by
        rw [HP.out, hf]; simp [intsP])
      clear hne hf
      go_wp2_with fail
      refine (reverse_any _ _ _ _ (intsP out) HO.out (by have := HJK.out; have := FEW.out; simp [intsP]; omega)).mono ?_
      rintro e' w5 ⟨rfl, hown2, hk5⟩
      have HO5 := Lib.hid hown2
      have K5 := Lib.hid (KW.out.trans' hk5 (fun b hb => .inr (World.ownsRow.lt HO.out b hb).1))
      clear hown2 hk5
      go_wp2_with fail
      go_ret
      refine ⟨_, rfl, ?_, K5.out⟩
      have h2 : (intsP out).length = e.path.length := by
        have := congrArg List.length HPE.out
        simpa [intsP] using this
      have h1 := HO5.out
      rw [HPE.out] at h1
      generalize (Value.slice av (intsP out).length cv) = v at h1
      rw [h2] at h1
      exact h1
    · have hb : ((f.to : Int) != (s : Int)) = true := by simp; omega
      have hj0 : 0 < j := by
        rcases Nat.eq_zero_or_pos j with h0 | h0
        · exfalso
          have h1 := HJ.out
          rw [h0, OK.out.head] at h1
          cases h1; exact hne rfl
        · exact h0
      obtain ⟨k2, g, h1, h2, h3, h4, h5, h6⟩ := OK.out.parent j f HJ.out hj0
      have HG := Lib.hid h3; have HFG := Lib.hid h4; have HPG := Lib.hid h5; have HKJ := Lib.hid h1
      have hlk := (hmw.run_lookup_hit (P := Try.prog) Try.underlying163 Try.underlying75 (parL_nodup OK.out.nodup) (parL_mem (List.mem_of_getElem? HJ.out))).2
      clear hne h1 h2 h3 h4 h5 h6 hj0
      have HB := Lib.hid (heap_alloc_new wr (.cells #[.int .u32 (f.frm : Int), .int .i64 (f.op : Int)] 162))
      have KA := Lib.hid ((Keeps.refl (fun _ => False) wr).alloc (.cells #[.int .u32 (f.frm : Int), .int .i64 (f.op : Int)] 162))
      go_upto_region 4 with fail
      generalize wr.alloc (.cells #[.int .u32 (f.frm : Int), .int .i64 (f.op : Int)] 162) = w3 at KA HB ⊢
      have c0 : w3.cell? ⟨wr.heap.size, 0, none⟩ = some (.int .u32 (f.frm : Int)) := by rw [cell_of_blk HB.out]; rfl
      have c1 : w3.cell? ⟨wr.heap.size, 1, none⟩ = some (.int .i64 (f.op : Int)) := by rw [cell_of_blk HB.out]; rfl
      have hO3 := KA.out.ownsRow HO.out (fun _ _ h => h)
      have hlen : (intsP out).length ≤ 100000 := by have := HJK.out; have := FEW.out; simp [intsP]; omega
      have hfew := FEW.out; have hs3 := KA.out.size; have hsw := KW.out.size
      go_wp2_with (at_builtin; refine wpList_append_d rfl _ _ _ rfl w.heap.size 3 i0 _ 1 8 Try.underlying22 hi0 hz0 hz1 hz2 rfl (by omega) _ (intsP out).length ((intsP out).map (Value.int .i64)) (by rfl) (World.ownsRow.alloc hO3 (.cells #[.int .i64 (f.op : Int)] 3)) ⟨w3.heap.size, 0, none⟩ 1 1 [.int .i64 (f.op : Int)] (by rfl) (by rfl) ?hnews ?hone (by omega) (by unfold maxLen; omega) (by omega) (by simp; omega) (w3.heap.size + 1) (by simp) ?_)
      case hnews => exact World.news_of_block (cs := #[.int .i64 (f.op : Int)]) (t := 3) (fr := (0, 0)) (heap_alloc_new _ _)
      case hone => simp [Value.oneCell']
      intro gg cap2 w4 hown hgrow hat hlt4 hd4
      have HN := Lib.hid (show w4.ownsRow w.heap.size 3 1 (.slice (some ⟨gg, 0, none⟩) ((intsP out).length + 1) cap2) (intsP (out ++ [f.op])).length ((intsP (out ++ [f.op])).map (Value.int .i64)) by
        have e1 : (intsP (out ++ [f.op])) = intsP out ++ [(f.op : Int)] := by simp [intsP]
        rw [e1, List.map_append, List.length_append]; exact hown)
      have HKN := Lib.hid (own_grown HO.out KW.out (KA.out.alloc (.cells #[.int .i64 (f.op : Int)] 3)) hgrow)
      have d0 : w4.cell? ⟨wr.heap.size, 0, none⟩ = some (.int .u32 (f.frm : Int)) := by
        have hb4 : w4.heap[wr.heap.size]? = _ := (steady_keeps hgrow).heap ((Below.heap_alloc w3 (.cells #[.int .i64 (f.op : Int)] 3) wr.heap.size (lt_of_heap HB.out)).trans HB.out) (fun e' => by have := (World.ownsRow.lt HO.out _ e').2; omega)
        rw [cell_of_blk hb4]; rfl
      clear hown hgrow hat hd4 c0 c1 hO3 hmw
      go_wp2_with fail
      go_roundw
      case rel =>
        refine ⟨k2, g, out ++ [f.op], HG.out, by have := HKJ.out; have := HJK.out; simp; omega, ?_, by rw [HFG.out], HN.out, HKN.out⟩
        rw [HP.out, HPG.out]; simp
      case measure =>
        have idx : ∀ (j : Nat) (x : Ent), T[j]? = some x → (keysT T).idxOf x.to = j := by
          intro j x hx
          have h1 : (keysT T)[j]? = some x.to := by unfold keysT; rw [List.getElem?_map, hx]; rfl
          obtain ⟨l1, g1⟩ := List.getElem?_eq_some_iff.1 h1
          rw [← g1]
          exact OK.out.nodup.idxOf_getElem j l1
        simp only [intOf, HFG.out, Int.toNat_natCast]
        rw [idx _ _ HG.out, idx _ _ HJ.out]
        exact HKJ.out

end Go.Proofs.Ytdonadeodioplaa

/- The search by novelty in plain words. -/
namespace Go.Proofs.Ytdonadeodioplaa

section
variable (acc : Nat → Bool) (cov : Nat → List Nat → Bool)

/-- The steps of one entry: the tree behind them and the goal that ended them. -/
def novL (e : Ent) : List Ent → List Stp → List Ent × Option Ent
  | T, [] => (T, none)
  | T, x :: r => if x.to ∈ keysT T then novL e T r
    else if acc x.to = true then (T ++ [e.of x], some (e.of x))
    else if cov x.to (keysT T) = true then novL e T r
    else novL e (T ++ [e.of x]) r

def novT (ops : List Wop) (s : Nat) : Nat → List Ent
  | 0 => [⟨s, s, 0, []⟩]
  | i + 1 => match (novT ops s i)[i]? with
    | none => novT ops s i
    | some e => (novL acc cov e (novT ops s i) (wsteps ops e.to)).1

/-- No goal came ahead of the entry at i. -/
def NovNo (ops : List Wop) (s i : Nat) : Prop := ∀ (j : Nat) e, j < i → (novT acc cov ops s j)[j]? = some e → (novL acc cov e (novT acc cov ops s j) (wsteps ops e.to)).2 = none

inductive NovRes (ops : List Wop) (s : Nat) : Option (List Nat) → Nat → Prop
  | start : acc s = true → NovRes ops s (some []) 0
  | none (i : Nat) : acc s = false → (novT acc cov ops s i).length = i → NovNo acc cov ops s i → NovRes ops s none i
  | found (i : Nat) (e f : Ent) : acc s = false → NovNo acc cov ops s i → (novT acc cov ops s i)[i]? = some e → (novL acc cov e (novT acc cov ops s i) (wsteps ops e.to)).2 = some f → NovRes ops s (some f.path) (i + 1)

theorem novL_append (e : Ent) : ∀ (a b : List Stp) (T : List Ent), novL acc cov e T (a ++ b) = match (novL acc cov e T a).2 with
    | some f => ((novL acc cov e T a).1, some f)
    | none => novL acc cov e (novL acc cov e T a).1 b
  | [], b, T => rfl
  | x :: r, b, T => by
    rw [List.cons_append, novL, novL]
    split
    · exact novL_append e r b T
    · split
      · rfl
      · split
        · exact novL_append e r b T
        · exact novL_append e r b _
end

theorem novT_step {acc : Nat → Bool} {cov : Nat → List Nat → Bool} {ops : List Wop} {s i : Nat} {e : Ent} (h : (novT acc cov ops s i)[i]? = some e) : novT acc cov ops s (i + 1) = (novL acc cov e (novT acc cov ops s i) (wsteps ops e.to)).1 := by
  rw [novT, h]

theorem novL_ok {acc : Nat → Bool} {cov : Nat → List Nat → Bool} {ops : List Wop} {s : Nat} {e : Ent} : ∀ {xs : List Stp} {T : List Ent}, PTree ops s T → e ∈ T → (∀ x ∈ xs, x ∈ wsteps ops e.to) → PTree ops s (novL acc cov e T xs).1
  | [], T, h, _, _ => h
  | x :: r, T, h, he, hx => by
    rw [novL]
    split
    · exact novL_ok h he (fun y hy => hx y (List.mem_cons_of_mem _ hy))
    · rename_i hn
      split
      · exact h.add he (hx x (List.mem_cons_self ..)) hn
      · split
        · exact novL_ok h he (fun y hy => hx y (List.mem_cons_of_mem _ hy))
        · exact novL_ok (h.add he (hx x (List.mem_cons_self ..)) hn) (List.mem_append_left _ he) (fun y hy => hx y (List.mem_cons_of_mem _ hy))

theorem novL_prefix {acc : Nat → Bool} {cov : Nat → List Nat → Bool} {e : Ent} : ∀ (xs : List Stp) (T : List Ent), T <+: (novL acc cov e T xs).1
  | [], T => List.prefix_refl _
  | x :: r, T => by
    rw [novL]
    split
    · exact novL_prefix r T
    · split
      · exact List.prefix_append _ _
      · split
        · exact novL_prefix r T
        · exact (List.prefix_append _ _).trans (novL_prefix r _)

theorem novT_ok (acc : Nat → Bool) (cov : Nat → List Nat → Bool) (ops : List Wop) (s : Nat) : ∀ i, PTree ops s (novT acc cov ops s i)
  | 0 => PTree.start ops s
  | i + 1 => by
    have h := novT_ok acc cov ops s i
    rw [novT]
    split
    · exact h
    · rename_i e he
      exact novL_ok h (List.mem_of_getElem? he) (fun _ h => h)

theorem NovRes.unique {acc : Nat → Bool} {cov : Nat → List Nat → Bool} {ops : List Wop} {s : Nat} {r r' : Option (List Nat)} {n n' : Nat} (h : NovRes acc cov ops s r n) (h' : NovRes acc cov ops s r' n') : r = r' ∧ n = n' := by
  cases h with
  | start h0 =>
    cases h' with
    | start _ => exact ⟨rfl, rfl⟩
    | none i h1 => rw [h0] at h1; cases h1
    | found i e f h1 => rw [h0] at h1; cases h1
  | none i h0 hl hn =>
    cases h' with
    | start h1 => rw [h0] at h1; cases h1
    | none j _ hl' hn' =>
      refine ⟨rfl, ?_⟩
      have key : ∀ (a k : Nat), (novT acc cov ops s a).length = a → (novT acc cov ops s (a + k)) = novT acc cov ops s a := by
        intro a k ha
        induction k with
        | zero => rfl
        | succ k ih =>
          rw [← Nat.add_assoc, novT, List.getElem?_eq_none (by rw [ih, ha]; omega)]
          exact ih
      rcases Nat.le_total n n' with hle | hle
      · have := key n (n' - n) hl
        rw [Nat.add_sub_cancel' hle] at this
        rw [this] at hl'; omega
      · have := key n' (n - n') hl'
        rw [Nat.add_sub_cancel' hle] at this
        rw [this] at hl; omega
    | found j e f _ hn' he hf =>
      exfalso
      rcases Nat.lt_or_ge j n with hlt | hge
      · rw [hn j e hlt he] at hf; cases hf
      · have key : ∀ k : Nat, (novT acc cov ops s (n + k)) = novT acc cov ops s n := by
          intro k
          induction k with
          | zero => rfl
          | succ k ih =>
            rw [← Nat.add_assoc, novT, List.getElem?_eq_none (by rw [ih, hl]; omega)]
            exact ih
        have h1 := key (j - n)
        rw [Nat.add_sub_cancel' hge] at h1
        have := (List.getElem?_eq_some_iff.1 he).1
        rw [h1, hl] at this; omega
  | found i e f h0 hn he hf =>
    cases h' with
    | start h1 => rw [h0] at h1; cases h1
    | none j _ hl' hn' =>
      exfalso
      rcases Nat.lt_or_ge i n' with hlt | hge
      · rw [hn' i e hlt he] at hf; cases hf
      · have key : ∀ k : Nat, (novT acc cov ops s (n' + k)) = novT acc cov ops s n' := by
          intro k
          induction k with
          | zero => rfl
          | succ k ih =>
            rw [← Nat.add_assoc, novT, List.getElem?_eq_none (by rw [ih, hl']; omega)]
            exact ih
        have h1 := key (i - n')
        rw [Nat.add_sub_cancel' hge] at h1
        have := (List.getElem?_eq_some_iff.1 he).1
        rw [h1, hl'] at this; omega
    | found j e' f' _ hn' he' hf' =>
      rcases Nat.lt_trichotomy i j with hlt | rfl | hgt
      · rw [hn' i e hlt he] at hf; cases hf
      · rw [he] at he'; cases he'
        rw [hf] at hf'; cases hf'
        exact ⟨rfl, rfl⟩
      · rw [hn j e' hgt he'] at hf'; cases hf'

end Go.Proofs.Ytdonadeodioplaa

namespace Go.Proofs.Ytdonadeodioplaa
open Go.RowKit

/-- A slice of words that reads as l. -/
def Wds (w : World) (v : Value) (l : List Nat) : Prop := Sl w v l.length (l.map encW)
theorem Wds.keeps0 {w w' : World} {v : Value} {l : List Nat} (h : Wds w v l) (hk : Keeps (fun _ => False) w w') : Wds w' v l := Sl.keeps0 h hk

def CovPost (s : Nat) (seen : List Nat) (n ch : Nat) (w : World) (e : Ending) (w' : World) : Prop := e = .returned (.bool (covN s seen n ch)) ∧ Keeps (fun _ => False) w w' ∧ w.drawn ≤ w'.drawn

theorem cov_none {s : Nat} {seen : List Nat} {n ch : Nat} (h : ∀ x ∈ seen, (andN s x &&& ch == 0) = false) : covN s seen n ch = false := by
  have hf : (seen.find? fun x => andN s x &&& ch == 0) = none := by
    rw [List.find?_eq_none]; intro x hx; simp [h x hx]
  cases n with
  | zero => unfold covN; rw [hf]; rfl
  | succ n => unfold covN; rw [hf]
theorem cov_find {s : Nat} {seen : List Nat} {ch k x : Nat} (hx : seen[k]? = some x) (hc : (andN s x &&& ch == 0) = true) (h : ∀ y ∈ seen.take k, (andN s y &&& ch == 0) = false) : (seen.find? fun x => andN s x &&& ch == 0) = some x := by
  have hl := (List.getElem?_eq_some_iff.1 hx).1
  have e : seen = seen.take k ++ x :: seen.drop (k + 1) := by
    conv => lhs; rw [← List.take_append_drop k seen]
    rw [List.drop_eq_getElem_cons hl, (List.getElem?_eq_some_iff.1 hx).2]
  rw [e, List.find?_append]
  have hn : (seen.take k).find? (fun x => andN s x &&& ch == 0) = none := by
    rw [List.find?_eq_none]; intro y hy; simp [h y hy]
  rw [hn, List.find?_cons, hc]; rfl

set_option maxRecDepth 100000 in
set_option maxHeartbeats 2000000 in
theorem covered_any (s : Nat) (hs : s < 4294967296) (seen : List Nat) (hseen : ∀ x ∈ seen, x < 4294967296) : ∀ (n : Nat) (w : World) (v : Value) (ch : Nat), ch < 4294967296 → n ≤ 1000 → Wds w v seen →
    Calls Try.prog 101 #[.int .u32 (s : Int), v, .int .u32 (ch : Int), .int .i64 (n : Int)] w (CovPost s seen n ch w) := by
  intro n
  induction n with
  | zero =>
    intro w v ch hch hn1 hv
    show Calls Try.prog 101 #[.int .u32 (s : Int), v, .int .u32 (ch : Int), .int .i64 0] w _
    obtain ⟨av, cv, hav, hm⟩ := Sl.formN hv
    have CV := Lib.hid (Sl.cellN hv hav)
    have HSEEN := Lib.hid hseen
    subst hav
    clear hv hseen
    go_enter Try.func101, Try.ntmps101
    go_wp2_with fail
    go_loop [16] (fun i => ∃ k : Nat, k ≤ seen.length ∧ i = .int .i64 (k : Int) ∧ ∀ y ∈ seen.take k, (andN s y &&& ch == 0) = false) (fun i => seen.length - (intOf i).toNat)
    case atStart => exact ⟨0, Nat.zero_le _, rfl, by simp⟩
    case round =>
      obtain ⟨k, hk, rfl, hall⟩ := hrel
      have HALL := Lib.hid hall; clear hall
      by_cases hlt : k < seen.length
      · obtain ⟨bv, ov, rfl, hcell⟩ := CV.out (by omega)
        obtain ⟨x, hx⟩ : ∃ x, seen[k]? = some x := ⟨_, List.getElem?_eq_getElem hlt⟩
        have hcx := hcell k (encW x) (by rw [List.getElem?_map, hx]; rfl)
        unfold encW at hcx
        have hx32 := HSEEN.out x (List.mem_of_getElem? hx)
        have hA := u32_andNot hs hx32
        have hB := (u32_bits (a := andN s x) (b := ch) (andN_lt (m := 32) hs) hch).1
        have HX := Lib.hid hx
        clear hcell hx
        cases hc : (andN s x &&& ch == 0) with
        | false =>
          have hq : (((andN s x &&& ch : Nat) : Int) != 0) = true := by
            rw [beq_eq_false_iff_ne] at hc; simp; omega
          have HC := Lib.hid hc; clear hc
          go_wp2_with fail
          go_round
          case rel => exact ⟨k + 1, by omega, by go_num, fun y hy => by
            rw [take_getS HX.out] at hy
            rcases List.mem_append.1 hy with hy | hy
            · exact HALL.out y hy
            · simp at hy; subst hy; exact HC.out⟩
          case measure => simp [intOf]; omega
        | true =>
          have hq : (((andN s x &&& ch : Nat) : Int) != 0) = false := by
            rw [beq_iff_eq] at hc; rw [hc]; rfl
          have HR := Lib.hid (show covN s seen 0 ch = true by unfold covN; rw [cov_find HX.out hc HALL.out]; rfl)
          clear hc
          go_wp2_with fail
          go_ret
          exact ⟨congrArg (fun b => Ending.returned (Value.bool b)) HR.out.symm, Keeps.refl _ _, Nat.le_refl _⟩
      · have HR := Lib.hid (show covN s seen 0 ch = false from cov_none (by
          have h := HALL.out
          rwa [List.take_of_length_le (by omega)] at h))
        go_wp2_with fail
        go_ret
        exact ⟨congrArg (fun b => Ending.returned (Value.bool b)) HR.out.symm, Keeps.refl _ _, Nat.le_refl _⟩
  | succ n ih =>
    intro w v ch hch hn1 hv
    obtain ⟨av, cv, hav, hm⟩ := Sl.formN hv
    have CV := Lib.hid (Sl.cellN hv hav)
    have HV := Lib.hid hv
    have HSEEN := Lib.hid hseen
    have IH := Lib.hid ih
    subst hav
    clear hv hseen ih
    go_enter Try.func101, Try.ntmps101
    go_wp2_with fail
    go_loop [16] (fun i => ∃ k : Nat, k ≤ seen.length ∧ i = .int .i64 (k : Int) ∧ ∀ y ∈ seen.take k, (andN s y &&& ch == 0) = false) (fun i => seen.length - (intOf i).toNat)
    case atStart => exact ⟨0, Nat.zero_le _, rfl, by simp⟩
    case round =>
      obtain ⟨k, hk, rfl, hall⟩ := hrel
      have HALL := Lib.hid hall; clear hall
      by_cases hlt : k < seen.length
      · obtain ⟨bv, ov, rfl, hcell⟩ := CV.out (by omega)
        obtain ⟨x, hx⟩ : ∃ x, seen[k]? = some x := ⟨_, List.getElem?_eq_getElem hlt⟩
        have hcx := hcell k (encW x) (by rw [List.getElem?_map, hx]; rfl)
        unfold encW at hcx
        have hx32 := HSEEN.out x (List.mem_of_getElem? hx)
        have hA := u32_andNot hs hx32
        have hB := (u32_bits (a := andN s x) (b := ch) (andN_lt (m := 32) hs) hch).1
        have HX := Lib.hid hx
        clear hcell hx
        cases hc : (andN s x &&& ch == 0) with
        | false =>
          have hq : (((andN s x &&& ch : Nat) : Int) != 0) = true := by
            rw [beq_eq_false_iff_ne] at hc; simp; omega
          have HC := Lib.hid hc; clear hc
          go_wp2_with fail
          go_round
          case rel => exact ⟨k + 1, by omega, by go_num, fun y hy => by
            rw [take_getS HX.out] at hy
            rcases List.mem_append.1 hy with hy | hy
            · exact HALL.out y hy
            · simp at hy; subst hy; exact HC.out⟩
          case measure => simp [intOf]; omega
        | true =>
          have hq : (((andN s x &&& ch : Nat) : Int) != 0) = false := by
            rw [beq_iff_eq] at hc; rw [hc]; rfl
          have HR := Lib.hid (show covN s seen (n + 1) ch = (facts (andN s x)).all (fun p => covN s seen n (ch ||| 2 ^ p.toNat)) by rw [covN, cov_find HX.out hc HALL.out])
          have HF32 := Lib.hid (show ∀ p ∈ facts (andN s x), 0 ≤ p ∧ p < 32 from fun p hp => by
            obtain ⟨q, rfl, h1, _⟩ := mem_facts.1 hp; omega)
          clear hc
          go_wp2_with fail
          refine (facts_any _ (andN s x)).mono ?_; rintro e w1 ⟨vf, rfl, hown, hk1, hd1⟩
          have HI := Lib.hid (Ints.of_own hown)
          obtain ⟨af, cf, hvf⟩ := ownsRow_form1 hown
          subst hvf
          have hfm := HI.out.form
          have CF := Lib.hid (HI.out.cell rfl)
          have K1 := Lib.hid hk1
          obtain ⟨_, _, _, hfl⟩ := hfm
          clear hown hk1 hq hA hB hcx
          generalize hL : facts (andN s x) = fl at HR HF32 HI CF hfl ⊢
          clear hL
          go_wp2_with fail
          go_loopw [32] (fun i wr => ∃ j : Nat, j ≤ fl.length ∧ i = .int .i64 (j : Int) ∧ (∀ p ∈ fl.take j, covN s seen n (ch ||| 2 ^ p.toNat) = true) ∧ Keeps (fun _ => False) w1 wr ∧ w1.drawn ≤ wr.drawn) (fun i _ => fl.length - (intOf i).toNat)
          case atStart => exact ⟨0, Nat.zero_le _, rfl, by simp, Keeps.refl _ _, Nat.le_refl _⟩
          case round =>
            obtain ⟨j, hj, rfl, hall, hkw, hd⟩ := hrel
            have HA2 := Lib.hid hall; have KW := Lib.hid hkw
            clear hall hkw
            by_cases hjl : j < fl.length
            · obtain ⟨bf, of, rfl, hcell⟩ := CF.out (by omega)
              obtain ⟨p, hp⟩ : ∃ p, fl[j]? = some p := ⟨_, List.getElem?_eq_getElem hjl⟩
              have hpc := KW.out.cell (hcell j p hp) (fun h => h)
              obtain ⟨hp0, hp32⟩ := HF32.out p (List.mem_of_getElem? hp)
              have hor := or_pow (u := ch) (p := p.toNat) hch (by omega)
              have hch2 : ch ||| 2 ^ p.toNat < 4294967296 := Nat.or_lt_two_pow (n := 32) hch (Nat.pow_lt_pow_right (by decide) (by omega))
              have HP := Lib.hid hp
              have HVW := Lib.hid (show Wds wr (.slice (some ⟨bv, ov, none⟩) seen.length cv) seen from (HV.out.keeps0 K1.out).keeps0 KW.out)
              clear hcell hp
              go_wp2_with fail
              refine (IH.out wr _ (ch ||| 2 ^ p.toNat) hch2 (by omega) HVW.out).mono ?_; rintro e w2 ⟨rfl, hk2, hd2⟩
              have K2 := Lib.hid (KW.out.trans hk2)
              have hd3 := Nat.le_trans hd hd2
              clear hk2 hor
              cases hcv : covN s seen n (ch ||| 2 ^ p.toNat) with
              | false =>
                have HR2 := Lib.hid (show covN s seen (n + 1) ch = false by rw [HR.out, List.all_eq_false]; exact ⟨p, List.mem_of_getElem? HP.out, by rw [hcv]; simp⟩)
                clear hcv
                go_wp2_with fail
                go_ret
                exact ⟨congrArg (fun b => Ending.returned (Value.bool b)) HR2.out.symm, K1.out.trans K2.out, Nat.le_trans hd1 hd3⟩
              | true =>
                have HCV := Lib.hid hcv
                clear hcv
                go_wp2_with fail
                go_roundw
                case rel => exact ⟨j + 1, by omega, by go_num, fun q hq => by
                  rw [take_getS HP.out] at hq
                  rcases List.mem_append.1 hq with hq | hq
                  · exact HA2.out q hq
                  · simp at hq; subst hq; exact HCV.out, K2.out, hd3⟩
                case measure => simp [intOf]; omega
            · have HR2 := Lib.hid (show covN s seen (n + 1) ch = true by
                rw [HR.out, List.all_eq_true]
                have h := HA2.out
                rwa [List.take_of_length_le (by omega)] at h)
              go_wp2_with fail
              go_ret
              exact ⟨congrArg (fun b => Ending.returned (Value.bool b)) HR2.out.symm, K1.out.trans KW.out, Nat.le_trans hd1 hd⟩
      · have HR := Lib.hid (show covN s seen (n + 1) ch = false from cov_none (by
          have h := HALL.out
          rwa [List.take_of_length_le (by omega)] at h))
        go_wp2_with fail
        go_ret
        exact ⟨congrArg (fun b => Ending.returned (Value.bool b)) HR.out.symm, Keeps.refl _ _, Nat.le_refl _⟩

end Go.Proofs.Ytdonadeodioplaa

namespace Go.Proofs.Ytdonadeodioplaa
open Go.RowKit Go.Shelf
attribute [local go_sem] Oper.semAt_some

/-- Boxes that stay as they are. -/
def Fixed (w0 : World) (L : List (Nat × TypeId × Value)) (W : World) : Prop := ∀ p ∈ L, w0.heap.size ≤ p.1 ∧ W.heap[p.1]? = some (.cells #[p.2.2] p.2.1 (0, 0))

theorem Fixed.by {S : Nat → Prop} {w0 W W' : World} {L : List (Nat × TypeId × Value)} (h : Fixed w0 L W) (hk : Keeps S W W') (hs : ∀ p ∈ L, ¬ S p.1) : Fixed w0 L W' :=
  fun p hp => ⟨(h p hp).1, hk.heap (h p hp).2 (hs p hp)⟩
theorem Fixed.keeps0 {w0 W W' : World} {L : List (Nat × TypeId × Value)} (h : Fixed w0 L W) (hk : Keeps (fun _ => False) W W') : Fixed w0 L W' := h.by hk (fun _ _ h => h)
theorem Fixed.steady {w0 W W' : World} {L : List (Nat × TypeId × Value)} {row : Option Nat} (h : Fixed w0 L W) (hg : W.grownBy W' row) (hr : ∀ r, row = some r → ∃ o : Obj, W.heap[r]? = some o ∧ o.isCells = false) : Fixed w0 L W' :=
  fun p hp => ⟨(h p hp).1, steady_heap hg hr (h p hp).2⟩
theorem Fixed.add {w0 W : World} {L : List (Nat × TypeId × Value)} (h : Fixed w0 L W) (hw : w0.heap.size ≤ W.heap.size) (T : TypeId) (v : Value) : Fixed w0 (L ++ [(W.heap.size, T, v)]) (W.alloc (.cells #[v] T)) := by
  intro p hp
  rcases List.mem_append.1 hp with hp | hp
  · exact (h.keeps0 ((Keeps.refl _ W).alloc _)) p hp
  · simp at hp; subst hp
    exact ⟨hw, heap_alloc_new W _⟩

theorem results_cells3 {P : Program} {fn : Func} {tmps : Array Value} {w : World} {t1 t2 t3 : TypeId} {s1 s2 s3 : Tmp} {g1 g2 g3 : Nat} {v1 v2 v3 : Value}
    (h : fn.results = #[.cell s1 t1, .cell s2 t2, .cell s3 t3])
    (p1 : tmps.getD s1 undef = .pointer (some ⟨g1, 0, none⟩)) (p2 : tmps.getD s2 undef = .pointer (some ⟨g2, 0, none⟩)) (p3 : tmps.getD s3 undef = .pointer (some ⟨g3, 0, none⟩))
    (c1 : (loadVar t1 ⟨g1, 0, none⟩).run P w = .ok v1 w) (c2 : (loadVar t2 ⟨g2, 0, none⟩).run P w = .ok v2 w) (c3 : (loadVar t3 ⟨g3, 0, none⟩).run P w = .ok v3 w) :
    (results fn tmps).run P w = .ok (.tuple #[v1, v2, v3]) w := by
  have p1' : tmps[s1]?.getD undef = .pointer (some ⟨g1, 0, none⟩) := by simpa using p1
  have p2' : tmps[s2]?.getD undef = .pointer (some ⟨g2, 0, none⟩) := by simpa using p2
  have p3' : tmps[s3]?.getD undef = .pointer (some ⟨g3, 0, none⟩) := by simpa using p3
  simp [results, h, p1', p2', p3', asAddr, c1, c2, c3]

theorem load_box {P : Program} {W : World} {B : Nat} {t : TypeId} {v : Value} {d : TypeDesc} (hu : P.underlying t = some d) (hd : (match d with | .struct _ | .array _ _ => true | _ => false) = false) (h : Boxed W B t v) :
    (loadVar t ⟨B, 0, none⟩).run P W = .ok v W := by
  have hc := h.cell
  unfold loadVar
  simp [Sem.run_bind, run_isAgg_plain hu hd, Result.andThen, go_sem, hc]

theorem three_set {W : World} {b4 b5 b6 : Nat} {t4 t5 t6 : TypeId} {v4 v5 v6 : Value} (X4 : Boxed W b4 t4 v4) (X5 : Boxed W b5 t5 v5) (X6 : Boxed W b6 t6 v6) (h : b4 < b5 ∧ b5 < b6) (a b c : Value) :
    Boxed (((W.setCell ⟨b4, 0, none⟩ a).setCell ⟨b5, 0, none⟩ b).setCell ⟨b6, 0, none⟩ c) b4 t4 a ∧ Boxed (((W.setCell ⟨b4, 0, none⟩ a).setCell ⟨b5, 0, none⟩ b).setCell ⟨b6, 0, none⟩ c) b5 t5 b ∧
    Boxed (((W.setCell ⟨b4, 0, none⟩ a).setCell ⟨b5, 0, none⟩ b).setCell ⟨b6, 0, none⟩ c) b6 t6 c ∧ Keeps (fun k => k = b4 ∨ k = b5 ∨ k = b6) W (((W.setCell ⟨b4, 0, none⟩ a).setCell ⟨b5, 0, none⟩ b).setCell ⟨b6, 0, none⟩ c) :=
  ⟨((X4.set a).other (by omega) b).other (by omega) c, ((X5.other (by omega) a).set b).other (by omega) c, ((X6.other (by omega) a).other (by omega) b).set c,
   (((Keeps.refl (fun k => k = b4 ∨ k = b5 ∨ k = b6) W).setCell (p := ⟨b4, 0, none⟩) (.inl (.inl rfl)) a).setCell (p := ⟨b5, 0, none⟩) (.inl (.inr (.inl rfl))) b).setCell (p := ⟨b6, 0, none⟩) (.inl (.inr (.inr rfl))) c⟩

/-- What search hands back. -/
def SearchPost (ops : List Wop) (st : Nat) (acc : Nat → Bool) (cov : Nat → List Nat → Bool) (w : World) (e : Ending) (w' : World) : Prop := Keeps (fun _ => False) w w' ∧
  ((∃ n, NovRes acc cov ops st none n ∧ e = .returned (.tuple #[.slice none 0 0, .int .i64 (n : Int), .bool false])) ∨
   (∃ p n, NovRes acc cov ops st (some p) n ∧ ∃ v', e = .returned (.tuple #[v', .int .i64 (n : Int), .bool true]) ∧ Ints w' v' (intsP p) ∧ ∀ k, v'.ownBlock = some k → w.heap.size ≤ k))

structure SchLoop (ops : List Wop) (st : Nat) (acc : Nat → Bool) (cov : Nat → List Nat → Bool) (w0 : World) (b1 b2 b3 : Nat) (L : List (Nat × TypeId × Value)) (i bi : Nat) (vl : Value) (ds : List Deferred) (W : World) : Prop where
  s : FirS w0 b1 b2 b3 (novT acc cov ops st i) (keysT (novT acc cov ops st i)) vl W
  fx : Fixed w0 L W
  bx : Boxed W bi 3 (.int .i64 (i : Int))
  lb : w0.heap.size ≤ bi
  no : NovNo acc cov ops st i
  marks : Marks ds W w0.heap.size
  le : i ≤ (novT acc cov ops st i).length
  nl : ∀ p ∈ L, p.1 ≠ b1 ∧ vl.ownBlock ≠ some p.1

theorem SchLoop.keeps0 {ops : List Wop} {st : Nat} {acc : Nat → Bool} {cov : Nat → List Nat → Bool} {w0 : World} {b1 b2 b3 : Nat} {L : List (Nat × TypeId × Value)} {i bi : Nat} {vl : Value} {ds : List Deferred} {W W' : World}
    (h : SchLoop ops st acc cov w0 b1 b2 b3 L i bi vl ds W) (hk : Keeps (fun _ => False) W W') : SchLoop ops st acc cov w0 b1 b2 b3 L i bi vl ds W' :=
  ⟨h.s.keeps0 hk, h.fx.keeps0 hk, hk.heap h.bx (fun h => h), h.lb, h.no, h.marks.keeps (KeepsD.of0 hk), h.le, h.nl⟩

def boxNat (W : World) : Value → Nat
  | .pointer (some p) => match W.cell? p with
    | some (.int _ i) => i.toNat
    | _ => 0
  | _ => 0

/-- The accepted words. -/
def accW (g : Nat) (x : Nat) : Bool := bits .and .u32 (x : Int) (g : Int) == (g : Int)
def covW (n : Nat) (x : Nat) (seen : List Nat) : Bool := covN x seen n 0

/-- The loop's relation, and its undoing for a goal that is not looked into (to undo it in place costs minutes). -/
def SchRel (ops : List Wop) (st g0 n : Nat) (w : World) (b bw bn b1 b2 b3 b4 b5 b6 b7 : Nat) (a' : Act) (wr : World) : Prop := ∃ (ds : List Deferred) (u11 u12 u13 u14 u15 u16 u17 u18 u19 u20 u21 u22 u23 u24 u25 u26 u27 u28 u29 u30 u31 u32 u33 u34 u35 u36 u37 u38 u39 u40 u41 u42 u43 u44 u45 u46 u47 u48 u49 u50 u51 u52 u53 u54 u55 u56 u57 u58 u59 u60 u61 u62 u63 u64 u65 u66 u67 u68 u69 u70 u71 u72 u73 u74 u75 u76 u77 u78 u79 u80 u81 u82 u83 u84 u85 u86 : Value) (i bi : Nat) (vl : Value), SchLoop ops st (accW g0) (covW n) w b1 b2 b3 [(bw, 71, .pointer (some ⟨b, 0, none⟩)), (bn, 3, .int .i64 (n : Int)), (b4, 22, .slice none 0 0), (b5, 3, .int .i64 0), (b6, 4, .bool false), (b7, 75, .int .u32 (st : Int))] i bi vl ds wr ∧
    a' = { tmps := #[.pointer (some ⟨b, 0, none⟩), .int .i64 (n : Int), .pointer (some ⟨bw, 0, none⟩), .pointer (some ⟨bn, 0, none⟩), .pointer (some ⟨b4, 0, none⟩), .pointer (some ⟨b5, 0, none⟩), .pointer (some ⟨b6, 0, none⟩), .pointer (some ⟨b7, 0, none⟩), .pointer (some ⟨b3, 0, none⟩), .pointer (some ⟨b1, 0, none⟩), .pointer (some ⟨bi, 0, none⟩), u11, u12, u13, u14, u15, u16, u17, u18, u19, u20, u21, u22, u23, u24, u25, u26, u27, u28, u29, u30, u31, u32, u33, u34, u35, u36, u37, u38, u39, u40, u41, u42, u43, u44, u45, u46, u47, u48, u49, u50, u51, u52, u53, u54, u55, u56, u57, u58, u59, u60, u61, u62, u63, u64, u65, u66, u67, u68, u69, u70, u71, u72, u73, u74, u75, u76, u77, u78, u79, u80, u81, u82, u83, u84, u85, u86], defers := ds }

set_option maxRecDepth 100000 in
theorem SchRel.elim {ops : List Wop} {st g0 n : Nat} {w : World} {b bw bn b1 b2 b3 b4 b5 b6 b7 : Nat} {C : Act → World → Prop} {a' : Act} {wr : World} (h : SchRel ops st g0 n w b bw bn b1 b2 b3 b4 b5 b6 b7 a' wr)
    (k : ∀ (ds : List Deferred) (u11 u12 u13 u14 u15 u16 u17 u18 u19 u20 u21 u22 u23 u24 u25 u26 u27 u28 u29 u30 u31 u32 u33 u34 u35 u36 u37 u38 u39 u40 u41 u42 u43 u44 u45 u46 u47 u48 u49 u50 u51 u52 u53 u54 u55 u56 u57 u58 u59 u60 u61 u62 u63 u64 u65 u66 u67 u68 u69 u70 u71 u72 u73 u74 u75 u76 u77 u78 u79 u80 u81 u82 u83 u84 u85 u86 : Value) (i bi : Nat) (vl : Value), SchLoop ops st (accW g0) (covW n) w b1 b2 b3 [(bw, 71, .pointer (some ⟨b, 0, none⟩)), (bn, 3, .int .i64 (n : Int)), (b4, 22, .slice none 0 0), (b5, 3, .int .i64 0), (b6, 4, .bool false), (b7, 75, .int .u32 (st : Int))] i bi vl ds wr → Hid (a'.tmps.getD 10 undef = .pointer (some ⟨bi, 0, none⟩)) → C { tmps := #[.pointer (some ⟨b, 0, none⟩), .int .i64 (n : Int), .pointer (some ⟨bw, 0, none⟩), .pointer (some ⟨bn, 0, none⟩), .pointer (some ⟨b4, 0, none⟩), .pointer (some ⟨b5, 0, none⟩), .pointer (some ⟨b6, 0, none⟩), .pointer (some ⟨b7, 0, none⟩), .pointer (some ⟨b3, 0, none⟩), .pointer (some ⟨b1, 0, none⟩), .pointer (some ⟨bi, 0, none⟩), u11, u12, u13, u14, u15, u16, u17, u18, u19, u20, u21, u22, u23, u24, u25, u26, u27, u28, u29, u30, u31, u32, u33, u34, u35, u36, u37, u38, u39, u40, u41, u42, u43, u44, u45, u46, u47, u48, u49, u50, u51, u52, u53, u54, u55, u56, u57, u58, u59, u60, u61, u62, u63, u64, u65, u66, u67, u68, u69, u70, u71, u72, u73, u74, u75, u76, u77, u78, u79, u80, u81, u82, u83, u84, u85, u86], defers := ds } wr) : C a' wr := by
  unfold SchRel at h
  obtain ⟨ds, u11, u12, u13, u14, u15, u16, u17, u18, u19, u20, u21, u22, u23, u24, u25, u26, u27, u28, u29, u30, u31, u32, u33, u34, u35, u36, u37, u38, u39, u40, u41, u42, u43, u44, u45, u46, u47, u48, u49, u50, u51, u52, u53, u54, u55, u56, u57, u58, u59, u60, u61, u62, u63, u64, u65, u66, u67, u68, u69, u70, u71, u72, u73, u74, u75, u76, u77, u78, u79, u80, u81, u82, u83, u84, u85, u86, i, bi, vl, hL, rfl⟩ := h
  exact k _ _ _ _ _ _ _ _ _ _ _ _ _ _ _ _ _ _ _ _ _ _ _ _ _ _ _ _ _ _ _ _ _ _ _ _ _ _ _ _ _ _ _ _ _ _ _ _ _ _ _ _ _ _ _ _ _ _ _ _ _ _ _ _ _ _ _ _ _ _ _ _ _ _ _ _ _ _ _ _ hL rfl


end Go.Proofs.Ytdonadeodioplaa

namespace Go.Proofs.Ytdonadeodioplaa
open Go.RowKit Go.Shelf

theorem ex_fn {p : (Nat → Value) → Act} {a : Act} (h : a = p (fun k => a.tmps.getD k undef)) : ∃ u, a = p u := ⟨_, h⟩

theorem Tail.at {w : World} {base : Nat} {e : TypeId} {v : Value} {xs : List Value} {g off n cap : Nat} (h : Tail w base e v xs) (hv : v = .slice (some ⟨g, off, none⟩) n cap) {i : Nat} {x : Value} (hx : xs[i]? = some x) : w.cell? ⟨g, off + i, none⟩ = some x := by
  obtain ⟨g', off', cap', cur, hv', hb, hg, h1, h2, h3, h4⟩ := h
  rw [hv'] at hv
  simp only [Value.slice.injEq, Option.some.injEq, Addr.mk.injEq] at hv
  obtain ⟨⟨rfl, rfl, _⟩, rfl, rfl⟩ := hv
  have hi := (List.getElem?_eq_some_iff.1 hx).1
  rw [cell_of_blk hg]
  have := congrArg (fun l : List Value => l[i]?) h4
  simp only [List.getElem?_take, List.getElem?_drop, hx, if_pos hi] at this
  simpa using this

theorem Tail.sl {w : World} {base : Nat} {e : TypeId} {v : Value} {xs : List Value} (h : Tail w base e v xs) : Sl w v xs.length xs := by
  obtain ⟨g, off, cap, hv, h1, h2, _, _⟩ := h.form
  exact ⟨_, cap, hv, by omega, fun _ => ⟨g, off, rfl, fun j x hx => h.at hv hx⟩⟩

theorem novL_snoc {acc : Nat → Bool} {cov : Nat → List Nat → Bool} {e : Ent} {T : List Ent} {l : List Stp} {x : Stp} (h : (novL acc cov e T l).2 = none) :
    novL acc cov e T (l ++ [x]) = if x.to ∈ keysT (novL acc cov e T l).1 then ((novL acc cov e T l).1, none)
      else if acc x.to = true then ((novL acc cov e T l).1 ++ [e.of x], some (e.of x))
      else if cov x.to (keysT (novL acc cov e T l).1) = true then ((novL acc cov e T l).1, none) else ((novL acc cov e T l).1 ++ [e.of x], none) := by
  rw [novL_append, h]
  simp only [novL]

theorem novL_some {acc : Nat → Bool} {cov : Nat → List Nat → Bool} {e f : Ent} {T : List Ent} {l l' : List Stp} (h : (novL acc cov e T l).2 = some f) (hp : l <+: l') : (novL acc cov e T l').2 = some f := by
  obtain ⟨r, rfl⟩ := hp
  rw [novL_append, h]

structure SchIn (w0 : World) (b1 b2 b3 : Nat) (L : List (Nat × TypeId × Value)) (bi i : Nat) (T : List Ent) (ds : List Deferred) (Bs to : Nat) (vl : Value) (W : World) : Prop where
  s : FirS w0 b1 b2 b3 T (keysT T) vl W
  fx : Fixed w0 L W
  bx : Boxed W bi 3 (.int .i64 (i : Int))
  lb : w0.heap.size ≤ bi
  marks : Marks ds W w0.heap.size
  bs : W.heap[Bs]? = some (.cells #[.int .u32 (to : Int)] 75 (0, 0))
  ns : vl.ownBlock ≠ some Bs
  nl : ∀ p ∈ L, p.1 ≠ b1 ∧ vl.ownBlock ≠ some p.1

section
variable {w0 : World} {b1 b2 b3 : Nat} {L : List (Nat × TypeId × Value)} {bi i : Nat} {T : List Ent} {ds : List Deferred} {Bs to : Nat} {vl : Value} {W : World}
theorem SchIn.keeps0 {W' : World} (h : SchIn w0 b1 b2 b3 L bi i T ds Bs to vl W) (hk : Keeps (fun _ => False) W W') : SchIn w0 b1 b2 b3 L bi i T ds Bs to vl W' :=
  ⟨h.s.keeps0 hk, h.fx.keeps0 hk, hk.heap h.bx (fun h => h), h.lb, h.marks.keeps (KeepsD.of0 hk), hk.heap h.bs (fun h => h), h.ns, h.nl⟩
theorem SchIn.steady {W0 W' : World} {row : Option Nat} (h : SchIn w0 b1 b2 b3 L bi i T ds Bs to vl W) (hm : Marks ds W0 w0.heap.size) (hg : W.grownBy W' row) (hr : ∀ r, row = some r → W0.heap.size ≤ r ∧ ∃ o : Obj, W.heap[r]? = some o ∧ o.isCells = false) (hB : w0.heap.size ≤ W0.heap.size) (hb2 : b2 < W0.heap.size) : SchIn w0 b1 b2 b3 L bi i T ds Bs to vl W' :=
  ⟨h.s.steady hg hr hB hb2, h.fx.steady hg (fun r e => (hr r e).2), steady_heap hg (fun r e => (hr r e).2) h.bx, h.lb, Marks.steady hm h.marks hg hr, steady_heap hg (fun r e => (hr r e).2) h.bs, h.ns, h.nl⟩

theorem SchIn.nm {p : Nat × TypeId × Value} (h : SchIn w0 b1 b2 b3 L bi i T ds Bs to vl W) (hp : p ∈ L) : p.1 ≠ b2 := fun e => box_not_map h.s.map (h.fx p hp).2 e.symm
theorem SchIn.bi1 (h : SchIn w0 b1 b2 b3 L bi i T ds Bs to vl W) : bi ≠ b1 := by
  rintro rfl
  have := (show W.heap[bi]? = _ from h.s.x1).symm.trans h.bx
  simp at this
theorem SchIn.bi2 (h : SchIn w0 b1 b2 b3 L bi i T ds Bs to vl W) : bi ≠ b2 := fun e => box_not_map h.s.map h.bx e.symm
theorem SchIn.bir (h : SchIn w0 b1 b2 b3 L bi i T ds Bs to vl W) : vl.ownBlock ≠ some bi := h.s.line.not_box h.bx (by decide)
theorem SchIn.bs1 (h : SchIn w0 b1 b2 b3 L bi i T ds Bs to vl W) : Bs ≠ b1 := by
  rintro rfl
  have := (show W.heap[Bs]? = _ from h.s.x1).symm.trans h.bs
  simp at this
theorem SchIn.bs2 (h : SchIn w0 b1 b2 b3 L bi i T ds Bs to vl W) : Bs ≠ b2 := by
  rintro rfl
  obtain ⟨es, c, hb, _⟩ := h.s.map
  rw [h.bs] at hb; cases hb

/-- One more is seen. -/
theorem SchIn.see {W' : World} {e : Ent} (h : SchIn w0 b1 b2 b3 L bi i T ds Bs to vl W) (hI : IMap W' b2 .u32 (parL T ++ [((e.to : Int), .agg #[.int .u32 (e.frm : Int), .int .i64 (e.op : Int)])])) (hk : Keeps (fun k => k = b2) W W') :
    FirS w0 b1 b2 b3 (T ++ [e]) (keysT T) vl W' ∧ Fixed w0 L W' ∧ Boxed W' bi 3 (.int .i64 (i : Int)) ∧ Marks ds W' w0.heap.size ∧ W'.heap[Bs]? = some (.cells #[.int .u32 (to : Int)] 75 (0, 0)) :=
  ⟨h.s.see hI hk, h.fx.by hk (fun p hp => h.nm hp), hk.heap h.bx h.bi2, h.marks.keeps (KeepsD.of hk (fun b hb => by subst hb; exact map_not_deferred h.s.map)), hk.heap h.bs h.bs2⟩

/-- One more is seen and kept. -/
theorem SchIn.add {W1 W3 : World} {o : Obj} {e : Ent} {gg off m cap : Nat} (h : SchIn w0 b1 b2 b3 L bi i T ds Bs to vl W) (hI : IMap W1 b2 .u32 (parL T ++ [((e.to : Int), .agg #[.int .u32 (e.frm : Int), .int .i64 (e.op : Int)])])) (hk : Keeps (fun k => k = b2) W W1)
    (hown : Tail W3 w0.heap.size 75 (.slice (some ⟨gg, off, none⟩) m cap) ((keysT T).map encW ++ [encW e.to])) (hg : (W1.alloc o).grownBy W3 vl.ownBlock) (hat : vl.ownBlock = some gg ∨ gg = W1.heap.size + 1) :
    SchIn w0 b1 b2 b3 L bi i (T ++ [e]) ds Bs to (.slice (some ⟨gg, off, none⟩) m cap) (W3.setCell ⟨b1, 0, none⟩ (.slice (some ⟨gg, off, none⟩) m cap)) ∧ Keeps (fun b => b = b2 ∨ b = b1 ∨ vl.ownBlock = some b) W (W3.setCell ⟨b1, 0, none⟩ (.slice (some ⟨gg, off, none⟩) m cap)) := by
  obtain ⟨s1, f1, x1, m1, z1⟩ := h.see hI hk
  have hp := s1.push (x := e.to) hown hg hat
  have ka := (Keeps.refl (fun _ => False) W1).alloc o
  have kg : Keeps (fun b => vl.ownBlock = some b) (W1.alloc o) W3 := (Keeps.refl _ _).grown hg (fun k hk => .inl hk)
  have ks : Keeps (fun b => b = b1) W3 (W3.setCell ⟨b1, 0, none⟩ (.slice (some ⟨gg, off, none⟩) m cap)) := (Keeps.refl (fun b => b = b1) W3).setCell (p := ⟨b1, 0, none⟩) (.inl rfl) _
  have k1 : Keeps (fun b => b = b1 ∨ vl.ownBlock = some b) W1 (W3.setCell ⟨b1, 0, none⟩ (.slice (some ⟨gg, off, none⟩) m cap)) :=
    ((ka.mono (fun _ _ h => h.elim)).trans (kg.mono (fun _ _ h => .inr h))).trans (ks.mono (fun _ _ h => .inl h))
  have hf : ∀ b, b < W1.heap.size → vl.ownBlock ≠ some b → gg ≠ b := by
    intro b hb hne e
    rcases hat with h1 | h1
    · exact hne (by rw [h1, e])
    · omega
  refine ⟨⟨?_, f1.by k1 (fun p hp => ?_), k1.heap x1 ?_, h.lb, m1.keeps (KeepsD.of k1 (fun b hb => ?_)), k1.heap z1 ?_, fun e' => ?_, fun p hp => ⟨(h.nl p hp).1, fun e' => ?_⟩⟩, (hk.mono (fun _ _ h => .inl h)).trans (k1.mono (fun _ _ h => .inr h))⟩
  · have : keysT (T ++ [e]) = keysT T ++ [e.to] := by simp [keysT]
    rw [this]; exact hp
  · rintro (h1 | h1)
    · exact (h.nl p hp).1 h1
    · exact (h.nl p hp).2 h1
  · rintro (h1 | h1)
    · exact h.bi1 h1
    · exact h.bir h1
  · rcases hb with rfl | hb
    · exact cells_not_deferred s1.x1
    · exact s1.line.not_deferred b hb
  · rintro (h1 | h1)
    · exact h.bs1 h1
    · exact h.ns h1
  · simp [Value.ownBlock] at e'
    exact hf Bs (lt_of_heap z1) h.ns e'
  · simp [Value.ownBlock] at e'
    exact hf p.1 (lt_of_heap (f1 p hp).2) (h.nl p hp).2 e'
end

theorem keepsFrom_of {S : Nat → Prop} {W W' : World} {B : Nat} (hk : Keeps S W W') (hS : ∀ k, S k → k < B ∨ ∃ cs t fr, W.heap[k]? = some (.cells cs t fr)) : KeepsFrom B W W' :=
  ⟨hk.size, fun k o hB hk0 hc => hk.heap hk0 (fun hs => by
    rcases hS k hs with h | ⟨cs, t, fr, h⟩
    · omega
    · rw [h] at hk0; cases hk0; cases hc)⟩

theorem SchIn.close {w0 : World} {b1 b2 b3 : Nat} {L : List (Nat × TypeId × Value)} {bi i : Nat} {T : List Ent} {ds : List Deferred} {Bs to : Nat} {vl : Value} {W W' : World} {S : Nat → Prop} {B : Nat} (h : SchIn w0 b1 b2 b3 L bi i T ds Bs to vl W) (hk : Keeps S W W')
    (hS : ∀ b, S b → b = b2 ∨ b = b1 ∨ vl.ownBlock = some b) (hb2 : b2 < B) : KeepsFrom B W W' ∧ KpS w0.heap.size Bs W W' := by
  refine ⟨keepsFrom_of hk (fun k hs => ?_), KpS.ofKeeps hk h.s.keep.size (fun k hlt hs => ?_) (lt_of_heap h.bs) (fun hs => ?_)⟩
  · rcases hS k hs with rfl | rfl | h1
    · exact .inl hb2
    · exact .inr ⟨_, _, _, h.s.x1⟩
    · obtain ⟨cur, hc⟩ := h.s.line.block k h1
      exact .inr ⟨_, _, _, hc⟩
  · rcases hS k hs with rfl | rfl | h1
    · have := h.s.l2; omega
    · have := h.s.l1; omega
    · have := (h.s.line.lt k h1).1; omega
  · rcases hS _ hs with h1 | h1 | h1
    · exact h.bs2 h1
    · exact h.bs1 h1
    · exact h.ns h1

def SchI (acc : Nat → Bool) (cov : Nat → List Nat → Bool) (w0 : World) (b1 b2 b3 : Nat) (L : List (Nat × TypeId × Value)) (bi i : Nat) (T : List Ent) (e : Ent) (ds : List Deferred) (Bs : Nat) (l : List Stp) (W : World) : Prop :=
  ∃ vl, SchIn w0 b1 b2 b3 L bi i (novL acc cov e T l).1 ds Bs e.to vl W ∧ (novL acc cov e T l).2 = none

structure SchX (acc : Nat → Bool) (cov : Nat → List Nat → Bool) (w0 : World) (b4 b5 b6 i : Nat) (T : List Ent) (e : Ent) (ds : List Deferred) (l : List Stp) (f : Ent) (v : Value) (W : World) : Prop where
  found : (novL acc cov e T l).2 = some f
  keep : Keeps (fun _ => False) w0 W
  marks : Marks ds W w0.heap.size
  x4 : Boxed W b4 22 v
  x5 : Boxed W b5 3 (.int .i64 ((i : Int) + 1))
  x6 : Boxed W b6 4 (.bool true)
  row : W.ownsRow w0.heap.size 3 1 v f.path.length ((intsP f.path).map (Value.int .i64))

def SchIx (acc : Nat → Bool) (cov : Nat → List Nat → Bool) (w0 : World) (b4 b5 b6 i : Nat) (T : List Ent) (e : Ent) (ds : List Deferred) (c : Code) (l : List Stp) (W : World) : Prop :=
  c = .ret ∧ ∃ f v, SchX acc cov w0 b4 b5 b6 i T e ds l f v W

theorem SchIx.steady {acc : Nat → Bool} {cov : Nat → List Nat → Bool} {w0 : World} {b4 b5 b6 i : Nat} {T : List Ent} {e : Ent} {ds : List Deferred} {c : Code} {l : List Stp} {W0 W W' : World} {row : Option Nat} (h : SchIx acc cov w0 b4 b5 b6 i T e ds c l W) (hm : Marks ds W0 w0.heap.size)
    (hg : W.grownBy W' row) (hr : ∀ r, row = some r → W0.heap.size ≤ r ∧ ∃ o : Obj, W.heap[r]? = some o ∧ o.isCells = false) (hB : w0.heap.size ≤ W0.heap.size) : SchIx acc cov w0 b4 b5 b6 i T e ds c l W' := by
  obtain ⟨hc, f, v, h⟩ := h
  have hr2 : ∀ r, row = some r → ∃ o : Obj, W.heap[r]? = some o ∧ o.isCells = false := fun r e => (hr r e).2
  exact ⟨hc, f, v, h.found, steady_keeps0 hg (fun r e => (hr r e).1) hB h.keep, Marks.steady hm h.marks hg hr, steady_heap hg hr2 h.x4, steady_heap hg hr2 h.x5, steady_heap hg hr2 h.x6, steady_row hg hr2 h.row⟩

end Go.Proofs.Ytdonadeodioplaa
