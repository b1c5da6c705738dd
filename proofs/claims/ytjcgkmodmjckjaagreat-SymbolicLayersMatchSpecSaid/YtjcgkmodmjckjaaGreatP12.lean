/- symbolic.Plan. What the numbers of the layers say, in plain Lean. noResult, isOne, StateFault of the reference. symbolic: the example of the laws. symbolic: SymbolicLayersAddUp and SymbolicPlansLieInLayers walked. The reference's Cheaper; the prices of the states. symbolic: SymbolicLayersMatchSpec walked. breadth: the beginnings of the plan are the least ways to the states on its way. No condition beyond what each theorem says. -/
import Derived.Test.YtjcgkmodmjckjaaGreatP11
import Derived.Test.YtjcgkmodmjckjaaGreatP9
import Derived.Test.YtjcgkmodmjckjaaGreatP8
import Derived.Test.YtjcgkmodmjckjaaGreatP4
import Derived.Test.YtjcgkmodmjckjaaGreatP5
import Derived.Test.YtjcgkmodmjckjaaGreatP6
import Derived.Test.YtjcgkmodmjckjaaGreatP7

namespace Go.Proofs.YtjcgkmodmjckjaaGreat
open Go.RowKit

set_option maxRecDepth 100000 in
set_option maxHeartbeats 8000000 in
theorem splan_any (w : World) (vi vg vo : Value) (t : Tsk) (h : TaskAt w vi vg vo t) :
    Calls Tryz.prog 14 #[.agg #[.int .i64 t.n, vi, vg, vo]] w (SPlanPost t w) := by
  obtain ⟨ai, ci, h1, _⟩ := h.init.form
  obtain ⟨ag, cg, h2, _⟩ := h.goal.form
  obtain ⟨ao, co, h3, hmo⟩ := h.ops.form
  have hmm := @run_makeMap Tryz.prog
  have K1 := (Keeps.refl (fun _ => False) w).alloc (.cells #[.int .i64 t.n, vi, vg, vo] 25)
  have KA := (Keeps.refl (fun _ => False) (w.alloc (.cells #[.int .i64 t.n, vi, vg, vo] 25))).alloc (.cells #[.bool false, .slice none 0 0, .int .i64 0, .int .i64 0] 41)
  have KB := (Keeps.refl (fun _ => False) ((w.alloc (.cells #[.int .i64 t.n, vi, vg, vo] 25)).alloc (.cells #[.bool false, .slice none 0 0, .int .i64 0, .int .i64 0] 41))).alloc (.cells #[.int .i64 0, .int .i64 0] 29)
  have HB := Lib.hid ((Four.new w (.int .i64 t.n) vi vg vo 25).keeps0 (KA.trans KB))
  have hr := KB.heap (heap_alloc_new (w.alloc (.cells #[.int .i64 t.n, vi, vg, vo] 25)) (.cells #[.bool false, .slice none 0 0, .int .i64 0, .int .i64 0] 41)) (fun h => h)
  have hf : Flt w _ _ 29 := ⟨heap_alloc_new ((w.alloc (.cells #[.int .i64 t.n, vi, vg, vo] 25)).alloc (.cells #[.bool false, .slice none 0 0, .int .i64 0, .int .i64 0] 41)) (.cells #[.int .i64 0, .int .i64 0] 29), by simp; omega, K1.trans (KA.trans KB)⟩
  have HT := Lib.hid (h.keeps0 (K1.trans (KA.trans KB)))
  rw [World.size_alloc] at hr hf
  rw [World.size_alloc] at hf
  have HR := Lib.hid (show RFl w _ (w.heap.size + 1) (w.heap.size + 1 + 1) from ⟨hr, hf, by omega, by omega⟩)
  subst h1 h2 h3
  clear h K1 KA KB hr hf
  go_enter Tryz.func14, Tryz.ntmps14
  go_upto_region 1 with fail
  generalize ((w.alloc (.cells #[.int .i64 t.n, .slice ai t.init.length ci, .slice ag t.goal.length cg, .slice ao t.ops.length co] 25)).alloc (.cells #[.bool false, .slice none 0 0, .int .i64 0, .int .i64 0] 41)).alloc (.cells #[.int .i64 0, .int .i64 0] 29) = w1 at HB HR HT ⊢
  have hbx := HB.out.lt
  obtain ⟨d0, d1, d2, d3⟩ := HB.out
  go_wp2_with fail
  refine (checked_any _ _ _ _ t HT.out).mono ?_; rintro e w2 ⟨hk, hr⟩
  have HR2 := Lib.hid (HR.out.keeps0 hk); have HB2 := Lib.hid (HB.out.keeps0 hk); have HT2 := Lib.hid (HT.out.keeps0 hk)
  clear d0 d1 d2 d3 hk hbx HR HB HT
  rcases hr with ⟨hc, rfl⟩ | ⟨hok, hx, rfl⟩ | ⟨hok, l, hx, b, v, vl, ws, rfl, hw, hperm, hord, hown⟩
  · have hc2 : ((taskFault t).1 == 0) = false := by simpa using hc
    have NF := Lib.hid (expF_bad hc)
    have HCC := Lib.hid hc
    clear hc
    generalize hfe : taskFault t = f at hc2 HCC NF ⊢
    clear hfe
    have KA := (Keeps.refl (fun _ => False) w2).alloc (.cells #[.int .i64 f.1, .int .i64 f.2] 29)
    have HR4 := Lib.hid (HR2.out.keeps0 KA)
    have HFZ := Lib.hid (heap_alloc_new w2 (.cells #[.int .i64 f.1, .int .i64 f.2] 29))
    clear KA HR2 HB2 HT2
    go_upto_region 2 with fail
    generalize w2.alloc (.cells #[.int .i64 f.1, .int .i64 f.2] 29) = wz at HR4 HFZ ⊢
    generalize w2.heap.size = b8 at HFZ ⊢
    obtain ⟨f0, f1, y0, y1, hlf⟩ := pair_cells HFZ.out
    clear y0 y1
    have HFIN := Lib.hid (HR4.out.fin (.int .i64 f.1) (.int .i64 f.2))
    obtain ⟨r0, r1, r2, r3, y0, y1, y2, y3, hlR⟩ := HR4.out.cells
    obtain ⟨e0, e1, z0, z1, hF⟩ := HR4.out.flt.cells
    obtain ⟨s0, s1, s2, s3⟩ := HR4.out.ids
    go_wp2_with fail
    go_region
    all_goals
      go_wp2
      refine bodyPost_ret (results_cell_cell _ _ (w.heap.size + 1 + 1) 29 #[.int .i64 f.1, .int .i64 f.2] (0, 0) _ rfl rfl HFIN.out.2.1 Tryz.underlying29 rfl (by kernel_rfl) rfl HFIN.out.1 Tryz.underlying41 rfl (by kernel_rfl)) rfl ?_
      exact ⟨HFIN.out.2.2, false, _, [], 0, 0, f.1, f.2, rfl, Ints.nil _, .inl ⟨HCC.out, NF.out, rfl, rfl, rfl, rfl⟩, fun h => absurd h HCC.out⟩
  · have NF := Lib.hid (expF_many hok hx)
    clear hok hx
    have KA := (Keeps.refl (fun _ => False) w2).alloc (.cells #[.int .i64 10, .int .i64 (-7)] 29)
    have HR4 := Lib.hid (HR2.out.keeps0 KA)
    have HFZ := Lib.hid (heap_alloc_new w2 (.cells #[.int .i64 10, .int .i64 (-7)] 29))
    clear KA HR2 HB2 HT2
    go_upto_region 2 with fail
    generalize w2.alloc (.cells #[.int .i64 10, .int .i64 (-7)] 29) = wz at HR4 HFZ ⊢
    generalize w2.heap.size = b8 at HFZ ⊢
    obtain ⟨f0, f1, y0, y1, hlf⟩ := pair_cells HFZ.out
    clear y0 y1
    have HFIN := Lib.hid (HR4.out.fin (.int .i64 10) (.int .i64 (-7)))
    obtain ⟨r0, r1, r2, r3, y0, y1, y2, y3, hlR⟩ := HR4.out.cells
    obtain ⟨e0, e1, z0, z1, hF⟩ := HR4.out.flt.cells
    obtain ⟨s0, s1, s2, s3⟩ := HR4.out.ids
    go_wp2_with fail
    go_region
    all_goals
      go_wp2
      refine bodyPost_ret (results_cell_cell _ _ (w.heap.size + 1 + 1) 29 #[.int .i64 10, .int .i64 (-7)] (0, 0) _ rfl rfl HFIN.out.2.1 Tryz.underlying29 rfl (by kernel_rfl) rfl HFIN.out.1 Tryz.underlying41 rfl (by kernel_rfl)) rfl ?_
      exact ⟨HFIN.out.2.2, false, _, [], 0, 0, 10, -7, rfl, Ints.nil _, .inl ⟨by decide, NF.out, rfl, rfl, rfl, rfl⟩, fun h => absurd h (by decide)⟩
  · have HX := Lib.hid hx; have OK := Lib.hid hok
    have KA := (Keeps.refl (fun _ => False) w2).alloc (.cells #[.int .i64 0, .int .i64 0] 29)
    have HR3 := Lib.hid (HR2.out.keeps0 KA); have HB3 := Lib.hid (HB2.out.keeps0 KA); have HT3 := Lib.hid (HT2.out.keeps0 KA)
    obtain ⟨av, cv, hav⟩ := ownsRow_form1 hown
    subst hav
    clear hx hok hw KA hperm hord hown HB2 HT2 HR2
    have F0 := heap_alloc_new w2 (.cells #[.int .i64 0, .int .i64 0] 29)
    go_upto_region 2 with fail
    generalize w2.alloc (.cells #[.int .i64 0, .int .i64 0] 29) = w3 at HR3 HB3 HT3 F0 ⊢
    have f0 : w3.cell? ⟨w2.heap.size, 0, none⟩ = some (.int .i64 0) := by rw [cell_of_blk F0]; rfl
    have f1 : w3.cell? ⟨w2.heap.size, 1, none⟩ = some (.int .i64 0) := by rw [cell_of_blk F0]; rfl
    have fl := lt_of_heap F0
    clear F0
    obtain ⟨L, hL⟩ : ∃ L : Nat, t.n = (L : Int) := ⟨t.n.toNat, by have := OK.out.n0; omega⟩
    have hL24 : L ≤ 24 := by have := OK.out.n1; omega
    have hb3 := HB3.out
    rw [hL] at hb3
    replace HB3 := Lib.hid hb3
    clear hb3
    have hns := newSets_any w3 _ _ _ t L HT3.out OK.out hL
    rw [hL] at hns
    have HNS := Lib.hid hns
    clear hns
    have hbx := HB3.out.lt
    obtain ⟨d0, d1, d2, d3⟩ := HB3.out
    go_wp2_with fail
    refine HNS.out.mono ?_; rintro e w4 ⟨ss, sb, N0, G0, gk, rfl, hst, hgk, hgv, hlow, hss⟩
    have HST := Lib.hid hst; have HLOW := Lib.hid hlow; have HGK := Lib.hid hgk; have HGV := Lib.hid hgv
    have HIN := Lib.hid (HT3.out.init.keeps0 hst.k0)
    have HIR := Lib.hid (show ∀ p ∈ t.init, 0 ≤ p ∧ p < (L : Int) from fun p hp => by have := (isSet_iff.1 OK.out.init).1 p hp; omega)
    clear hst hgk hgv hlow hss f0 f1 fl d0 d1 d2 d3 hbx HNS
    go_upto_region 5 with fail
    go_cut [8] from 22 (fun s8 wc => ∃ (wb k1 : Nat) (N1 : List Dn) (G1 : Nat → Prop), s8 = .map (some wb) ∧ StS w3 wc ss sb L N1 G1 (L : Int) (.slice ai t.init.length ci) (.slice ag t.goal.length cg) (.slice ao t.ops.length co) gk ∧ DmS wc wb (putP (fun _ => none) 0 k1) G1 ∧ DgPost L N0 N1 k1 L 0 (cubeS L (wd t.init) 0) ∧ w3.heap.size ≤ wb)
    case first =>
      have KD : Keeps (fun _ => False) w4 (w4.alloc (.map #[] 0)).drew := ((Keeps.refl (fun _ => False) w4).alloc _).drew
      have K0 : Keeps (fun _ => False) w4 w4.drew := (Keeps.refl (fun _ => False) w4).drew
      have hma := (NMap.made w4 natV).keeps ((Keeps.refl (fun _ => False) (w4.alloc (.map #[] 0))).drew) (fun h => h)
      have HDM := Lib.hid (show DmS (w4.alloc (.map #[] 0)).drew w4.heap.size (fun _ => none) G0 from ⟨hma, fun h => by have := HST.out.dg.bnd _ h; omega⟩)
      have HSD := Lib.hid (HST.out.keeps0 KD); have HSE := Lib.hid HST.out.drew
      have e0 := HSD.out.c0.1; have e1 : (w4.alloc (.map #[] 0)).drew.cell? ⟨w.heap.size, 1, none⟩ = some (.slice ai t.init.length ci) := HSD.out.k0.cell HB3.out.c1 (fun h => h)
      have e2 : w4.drew.cell? ⟨ss, 0, none⟩ = some (.pointer (some ⟨sb, 0, none⟩)) := HSE.out.c0.1
      have e3 : w4.drew.cell? ⟨w.heap.size, 1, none⟩ = some (.slice ai t.init.length ci) := HSE.out.k0.cell HB3.out.c1 (fun h => h)
      have HW1 := Lib.hid (word_any (w4.alloc (.map #[] 0)).drew _ t.init (HIN.out.keeps0 KD) (fun x hx => by have := HIR.out x hx; omega))
      have HW2 := Lib.hid (word_any w4.drew _ t.init (HIN.out.keeps0 K0) (fun x hx => by have := HIR.out x hx; omega))
      have HC1 := Lib.hid (cube_any (w4.alloc (.map #[] 0)).drew sb L (wd t.init) N0 G0 HSD.out.dg hL24 (by have := HLOW.out; omega))
      have HC2 := Lib.hid (cube_any w4.drew sb L (wd t.init) N0 G0 HSE.out.dg hL24 (by have := HLOW.out; omega))
      clear KD K0 hma
      go_region_held3 (fun w' => w'.cell? ⟨ss, 0, none⟩ = some (.pointer (some ⟨sb, 0, none⟩)) ∧ w'.cell? ⟨w.heap.size, 1, none⟩ = some (.slice ai t.init.length ci))
        (go_keep)
        (first
          | (go_at_call 26; refine HW1.out.mono ?_; rintro en w5 ⟨rfl, hw5⟩; rw [← hw5]; clear hw5 w5)
          | (go_at_call 26; refine HW2.out.mono ?_; rintro en w5 ⟨rfl, hw5⟩; rw [← hw5]; clear hw5 w5)
          | (go_at_call 25; refine HC1.out.mono ?_; rintro en w5 ⟨k1, N1, G1, rfl, hp1, hd1, hk1, hn1⟩; have HP1 := Lib.hid hp1; have HS1 := Lib.hid (HSD.out.op hd1 hk1 hn1); have HD5 := Lib.hid (HDM.out.op hk1 hn1); have t0 := HS1.out.c0.1; have t1 : w5.cell? ⟨w.heap.size, 1, none⟩ = some (.slice ai t.init.length ci) := HS1.out.k0.cell HB3.out.c1 (fun h => h); obtain ⟨w6, hr6, hm6, hk6⟩ := HD5.out.1.put (P := Tryz.prog) Tryz.underlying73 Tryz.underlying3 0 k1; replace hr6 : (Instr.mapUpdate 73 (.map (some w4.heap.size)) (.int .i64 0) (.int .i64 (k1 : Int))).run Tryz.prog w5 = .ok () w6 := hr6; have HLO6 := Lib.hid (show w3.heap.size ≤ w4.heap.size from HST.out.k0.size); have HD6 := Lib.hid (show DmS w6 w4.heap.size (putP (fun _ => none) 0 k1) G1 from ⟨hm6, HD5.out.2⟩); have HS6 := Lib.hid (HS1.out.other hk6 (fun k e => by subst e; exact ⟨HST.out.k0.size, HD5.out.2, HD5.out.1.ne_cells HS1.out.blk⟩)); have u0 := HS6.out.c0.1; have u1 : w6.cell? ⟨w.heap.size, 1, none⟩ = some (.slice ai t.init.length ci) := HS6.out.k0.cell HB3.out.c1 (fun h => h); clear hp1 hd1 hk1 hn1 hm6 hk6)
          | (go_at_call 25; refine HC2.out.mono ?_; rintro en w5 ⟨k1, N1, G1, rfl, hp1, hd1, hk1, hn1⟩; have HP1 := Lib.hid hp1; have HS1 := Lib.hid (HSE.out.op hd1 hk1 hn1); have HSA := Lib.hid (HS1.out.keeps0 ((Keeps.refl (fun _ => False) w5).alloc (.map #[] 0))); have HD5 := Lib.hid (show DmS (w5.alloc (.map #[] 0)) w5.heap.size (fun _ => none) G1 from ⟨NMap.made w5 natV, fun h => by have := HS1.out.dg.bnd _ h; omega⟩); have t0 := HS1.out.c0.1; have t1 : w5.cell? ⟨w.heap.size, 1, none⟩ = some (.slice ai t.init.length ci) := HS1.out.k0.cell HB3.out.c1 (fun h => h); have v0 := HSA.out.c0.1; have v1 : (w5.alloc (.map #[] 0)).cell? ⟨w.heap.size, 1, none⟩ = some (.slice ai t.init.length ci) := HSA.out.k0.cell HB3.out.c1 (fun h => h); obtain ⟨w6, hr6, hm6, hk6⟩ := HD5.out.1.put (P := Tryz.prog) Tryz.underlying73 Tryz.underlying3 0 k1; replace hr6 : (Instr.mapUpdate 73 (.map (some w5.heap.size)) (.int .i64 0) (.int .i64 (k1 : Int))).run Tryz.prog (w5.alloc (.map #[] 0)) = .ok () w6 := hr6; have HLO6 := Lib.hid (show w3.heap.size ≤ w5.heap.size from HS1.out.k0.size); have HD6 := Lib.hid (show DmS w6 w5.heap.size (putP (fun _ => none) 0 k1) G1 from ⟨hm6, HD5.out.2⟩); have HS6 := Lib.hid (HSA.out.other hk6 (fun k e => by subst e; exact ⟨HS1.out.k0.size, HD5.out.2, HD5.out.1.ne_cells HSA.out.blk⟩)); have u0 := HS6.out.c0.1; have u1 : w6.cell? ⟨w.heap.size, 1, none⟩ = some (.slice ai t.init.length ci) := HS6.out.k0.cell HB3.out.c1 (fun h => h); clear hp1 hd1 hk1 hn1 hm6 hk6))
      all_goals
        go_wp2
        go_meet
        case rel => exact ⟨_, k1, N1, G1, rfl, HS6.out, HD6.out, HP1.out, HLO6.out⟩
    case rest =>
      obtain ⟨wb, k1, N1, G1, rfl, hs6, hd6, hp1, hlo6⟩ := hcut
      have HP1 := Lib.hid hp1; have HLO6 := Lib.hid hlo6
      have HC0 := Lib.hid (sym_costs OK.out)
      have HRS := Lib.hid (reached_some (ops := wordsOf t.ops) (s := wd t.init) (l := l) HX.out)
      have HRE := Lib.hid (show ∀ q y, runOps (wordsOf t.ops) (wd t.init) q = some y → y ∈ l from fun q y h => (HRS.out.2.2.2 y).2 (reach_run q .refl h))
      have HLT2 := Lib.hid (show ∀ q y, runOps (wordsOf t.ops) (wd t.init) q = some y → y < 2 ^ L from fun q y h => by
        obtain ⟨g1, g2⟩ := good_explored OK.out HX.out y (HRE.out q y h)
        rw [← g2]; exact wd_lt (fun x hx => by have := (isSet_iff.1 g1).1 x hx; omega))
      have HS0 := Lib.hid (show wd t.init < 2 ^ L from wd_lt HIR.out)
      have HLN := Lib.hid hL
      have HOPS := Lib.hid HT3.out.ops
      have h40 := OK.out.few
      have KM := (Keeps.refl (fun _ => False) wc).alloc (.map #[] 0)
      have HS7 := Lib.hid (hs6.keeps0 KM); have HD7 := Lib.hid (hd6.keeps0 KM)
      have HB7 := Lib.hid (show DmS (wc.alloc (.map #[] 0)) wc.heap.size (fun _ => none) G1 from ⟨NMap.made wc natV, fun h => by have := hs6.dg.bnd _ h; omega⟩)
      have HNE := Lib.hid (show wb ≠ wc.heap.size ∧ w3.heap.size ≤ wc.heap.size from ⟨by have := hd6.1.lt; omega, hs6.k0.size⟩)
      clear hs6 hd6 hp1 hlo6 KM hL HIN
      go_upto_region 7 with fail
      generalize wc.alloc (.map #[] 0) = w7 at HS7 HD7 HB7 ⊢
      generalize wc.heap.size = db at HB7 HNE ⊢
      go_wp2_with fail
      refine (V.new_any w7).mono ?_; rintro e w8 ⟨rfl, hq, hk8⟩
      have HP8 := Lib.hid (show PlM w3 w8 ss sb L (L : Int) (.slice ai t.init.length ci) (.slice ag t.goal.length cg) (.slice ao t.ops.length co) gk N1 G1 wb db (w7.heap.size + 1) (putP (fun _ => none) 0 k1) (fun _ => none) [] 0 (fun b => w7.heap.size ≤ b ∧ b < w8.heap.size) from
        ⟨HS7.out.keeps0 hk8, HD7.out.keeps0 hk8, HB7.out.keeps0 hk8, HNE.out.1, hq.mono (fun b h1 h2 => ⟨h2, h1⟩), fun k hk => by
          have h1 := HS7.out.k0.size
          have h2 := HD7.out.1.lt
          have h3 := HB7.out.1.lt
          have h4 := lt_of_heap HS7.out.blk
          exact ⟨by omega, hk.2, fun hg => by have := HS7.out.dg.bnd k hg; omega, by omega, by omega, by omega⟩, ⟨HLO6.out, HNE.out.2⟩⟩)
      clear hq hk8 HS7 HD7 HB7 HNE HLO6
      generalize w7.heap.size + 1 = Q at HP8 ⊢
      go_wp2_with fail
      refine (V.set_new w8 Q [] 0 _ HP8.out.q 0 0 (by simp) ⟨by omega, by omega⟩ (by simp)).mono ?_; rintro e w9 ⟨rfl, hq9, hk9⟩
      have HP9 := Lib.hid (HP8.out.queue hq9 (fun b hb => hb) hk9)
      clear hq9 hk9 HP8
      have HG9 := Lib.hid (PlG.start (ops := wordsOf t.ops) HP1.out.lt HP1.out.val HS0.out)
      have HLW9 := Lib.hid (show low N1 + 1600000 * 1 ≤ 14600000 + 0 * 1597100000 from by have h1 := HP1.out.cnt; have h2 := HLOW.out; omega)
      go_wp2_with fail
      go_loopw [11, 12] (fun cv nv wr => ∃ (c n : Nat) (N : List Dn) (G : Nat → Prop) (W D : Nat → Option Nat) (A : List (Int × Int)) (tt : Int) (F : Nat → Prop), cv = .int .i64 (c : Int) ∧ nv = .int .i64 (n : Int) ∧ PlM w3 wr ss sb L (L : Int) (.slice ai t.init.length ci) (.slice ag t.goal.length cg) (.slice ao t.ops.length co) gk N G wb db Q W D A tt F ∧ PlG L N (wordsOf t.ops) (wd t.init) (fun _ _ => True) W D c A ∧ CntIs (wordsOf t.ops) (wd t.init) (fun p => ∃ k, D p = some k) n ∧ NoGoal (wordsOf t.ops) (wd t.init) (wd t.goal) (fun p => ∃ k, D p = some k) ∧ DgLe N0 N ∧ low N + 1600000 * A.length ≤ 14600000 + n * 1597100000 ∧ A.length ≤ 1 + 40 * n ∧ 0 ≤ tt ∧ tt ≤ 1 + 40 * (n : Int)) (fun _ nv wr => 41 * (2000 - (intOf nv).toNat) + V.qlen wr Q)
      case atStart => exact ⟨0, 0, N1, G1, _, _, [(0, 0)], _, _, rfl, rfl, HP9.out, HG9.out, CntIs.start (fun p ⟨k, hk⟩ => by cases hk), NoGoal.start (fun p ⟨k, hk⟩ => by cases hk), HP1.out.le, HLW9.out, by simp, by omega, by omega⟩
      case round =>
        obtain ⟨c, n, N, G, W, D, A, tt, F, rfl, rfl, hpm, hpg, hcnt, hng, hle, hlw, han, ht0, ht1⟩ := hrel
        have HPM := Lib.hid hpm; have HPG := Lib.hid hpg; have HCN := Lib.hid hcnt; have HNG := Lib.hid hng; have HLE := Lib.hid hle; have HLW := Lib.hid hlw
        have HOKN := Lib.hid (show DgOk L N from hpm.st.dg.ok)
        have hn2 : n ≤ 2000 := Nat.le_trans (hcnt.le HRE.out) HRS.out.2.1
        have HQL := Lib.hid (V.qlen_any wr Q A tt F hpm.q)
        clear hpm hpg hcnt hng hle hlw HP9 HG9 HLW9
        by_cases hA : A = []
        · subst hA
          have K3 := HPM.out.st.k0
          have d0 := K3.cell HB3.out.c0 (fun h => h); have d1 := K3.cell HB3.out.c1 (fun h => h); have d2 := K3.cell HB3.out.c2 (fun h => h); have d3 := K3.cell HB3.out.c3 (fun h => h)
          have hbx := Nat.lt_of_lt_of_le HB3.out.lt K3.size
          have HR9 := Lib.hid (HR3.out.keeps0 K3)
          have hr := sresult_fit wr _ _ _ _ t [] false (n : Int) (HT3.out.keeps0 K3) OK.out (Ints.nil _) (fun z hz => by simp at hz) (by simp)
          rw [HLN.out] at hr
          have HRES := Lib.hid hr
          clear hr K3
          go_wp2_with fail
          refine HQL.out.mono ?_; rintro e wq ⟨rfl, hwq⟩
          rw [← hwq]; clear hwq wq
          go_wp2_with fail
          refine HRES.out.mono ?_
          rintro e w10 ⟨rfl, hk10⟩
          have HR8 := Lib.hid (HR9.out.keeps0 hk10)
          obtain ⟨r0, r1, r2, r3, y0, y1, y2, y3, hlR⟩ := HR8.out.cells
          obtain ⟨e0, e1, z0, z1, hF⟩ := HR8.out.flt.cells
          have HFIN := Lib.hid (HR8.out.set (.bool false) (.slice none 0 0) (.int .i64 (costL t [])) (.int .i64 (n : Int)) (.int .i64 0) (.int .i64 0))
          clear d0 d1 d2 d3 hbx hk10
          go_wp2_with fail
          refine bodyPost_ret (results_cell_cell _ _ (w.heap.size + 1 + 1) 29 #[.int .i64 0, .int .i64 0] (0, 0) _ rfl rfl HFIN.out.2.1 Tryz.underlying29 rfl (by kernel_rfl) rfl HFIN.out.1 Tryz.underlying41 rfl (by kernel_rfl)) rfl ?_
          have hbt := best_none HC0.out HNG.out (fun k x hx => HPG.out.i.empty HC0.out hx)
          exact ⟨HFIN.out.2.2.1, false, _, [], 0, (n : Int), 0, 0, rfl, Ints.nil _, bplan_none OK.out HX.out hbt ⟨by omega, by have := HCN.out.le HRE.out; omega⟩, fun _ => cnt_best HCN.out hbt (fun k x hx => ⟨fun _ => .inl (by decide), fun _ => HPG.out.i.empty HC0.out hx⟩)⟩
        · obtain ⟨⟨x, kk⟩, hfm⟩ : ∃ q, V.firstMin A = some q := by
            cases hf : V.firstMin A with
            | none => exact absurd (V.firstMin_none.1 hf) hA
            | some q => exact ⟨q, rfl⟩
          have hmem := V.firstMin_mem hfm
          obtain ⟨hxk, hx0⟩ := HPG.out.i.it _ hmem
          simp only at hxk hx0
          subst hxk
          obtain ⟨p, rfl⟩ := Int.eq_ofNat_of_zero_le hx0
          have HMIN := Lib.hid (show ∀ a ∈ A, (p : Int) ≤ a.1 from fun a ha => by have h1 := V.firstMin_least hfm a ha; have h2 := (HPG.out.i.it a ha).1; simp only at h1; omega)
          have HIN := Lib.hid (show ∃ a ∈ A, a.1 = (p : Int) from ⟨_, hmem, rfl⟩)
          have HFL := Lib.hid (V.filter_len HPM.out.q.nd HIN.out)
          have q0 : decide ((0 : Int) < (A.length : Int)) = true := by have := List.length_pos_iff.2 hA; simp; omega
          have q0' : decide (0 < A.length) = true := by have := List.length_pos_iff.2 hA; simp; omega
          have HTK := Lib.hid (V.take_some wr Q A tt F HPM.out.q (p : Int) (p : Int) hfm)
          clear hA hmem hx0 hfm
          go_wp2_with fail
          refine HQL.out.mono ?_; rintro e wq ⟨rfl, hwq⟩
          rw [← hwq]; clear hwq wq
          go_wp2_with fail
          refine HTK.out.mono ?_; rintro e w10 ⟨rfl, hq10, hk10⟩
          have HPM10 := Lib.hid (HPM.out.queue hq10 (fun b hb => .inl hb) hk10)
          have HQN := Lib.hid (show V.qlen wr Q = A.length from HPM.out.q.qlen_is)
          clear hq10 hk10 HQL HTK HPM q0 q0'
          obtain ⟨wk, hwk⟩ := look_is W (p : Int)
          have HWK := Lib.hid hwk
          have hlk := HPM10.out.wm.look hwk
          have HC := Lib.hid (without_any w3 w10 ss sb L N G (L : Int) _ _ _ gk wk c HPM10.out.st hL24 (HPG.out.look hwk) HPG.out.cl (by have h1 := HLW.out; omega))
          clear hwk
          go_wp2_with fail
          refine HC.out.mono ?_; rintro e w11 ⟨ly, N2, G2, rfl, hp2, hz2, hs2, hk2, hn2⟩
          have HP2 := Lib.hid hp2
          have HPM11 := Lib.hid (HPM10.out.opS hs2 hk2 hn2)
          obtain ⟨w12, hr12, hm12, hk12⟩ := HPM11.out.dm.1.put (P := Tryz.prog) Tryz.underlying73 Tryz.underlying3 p ly
          replace hr12 : (Instr.mapUpdate 73 (.map (some db)) (.int .i64 (p : Int)) (.int .i64 (ly : Int))).run Tryz.prog w11 = .ok () w12 := hr12
          have HPM12 := Lib.hid (HPM11.out.putD hm12 hk12)
          have HLY := Lib.hid (show (∀ m, m < 2 ^ L → (dv N2 ly m = true ↔ Pd (wordsOf t.ops) (wd t.init) m p)) ∧ (∀ k x, Pd (wordsOf t.ops) (wd t.init) x k → k < p → ∃ v, D k = some v) ∧ (¬ ∃ v, D p = some v) ∧ ∀ k, (∃ v, D k = some v) → k < p from by
            have h1 := HPG.out.i.layer HC0.out HMIN.out HIN.out
            refine ⟨fun m hm => ?_, h1.2⟩
            rw [← h1.1 m hm, HP2.out.val, mapS_look HWK.out])
          have HLW2 := Lib.hid (show low N2 ≤ low N + (524287 + opC wk) from hp2.cnt)
          have HZ2 := Lib.hid hz2
          have HLE2 := Lib.hid (show DgLe N0 N2 from HLE.out.trans hp2.le)
          have HG2 := Lib.hid (show gk < N2.length + 2 from by have h1 := HLE2.out.len; have h2 := HGK.out; omega)
          clear hlk hp2 hz2 hs2 hk2 hn2 hm12 hk12 HC HPM10
          go_upto_region 14 with fail
          have KD := (Keeps.refl (fun _ => False) w12).drew
          have HPMD := Lib.hid (HPM12.out.keeps0 KD)
          have HC := Lib.hid (andz_any w12.drew sb L N2 G2 ly gk HPMD.out.st.dg hL24 HP2.out.lt HG2.out (by have h1 := HLW2.out; have h2 := opC_le wk; have h3 := opC_le ly; have h4 := HLW.out; omega))
          have e0 := HPMD.out.st.c0.1
          have e5 : w12.drew.cell? ⟨ss, 5, none⟩ = some (.int .i64 (gk : Int)) := (cell_of_blk HPMD.out.st.blk).trans rfl
          have el := HPMD.out.st.c0.2
          clear KD hr12
          go_region_held3 (fun w' => w'.cell? ⟨ss, 0, none⟩ = some (.pointer (some ⟨sb, 0, none⟩)) ∧ w'.cell? ⟨ss, 5, none⟩ = some (.int .i64 (gk : Int)))
            (go_keep)
            (first
              | (go_at_call 40; refine HC.out.mono ?_; rintro en w13 ⟨at_, N3, G3, rfl, hp3, hz3, hd3, hk3, hn3⟩; have HP3 := Lib.hid hp3; have HPM13 := Lib.hid (HPMD.out.op hd3 hk3 hn3); have t0 := HPM13.out.st.c0.1; have t5 : w13.cell? ⟨ss, 5, none⟩ = some (.int .i64 (gk : Int)) := (cell_of_blk HPM13.out.st.blk).trans rfl; clear hp3 hz3 hd3 hk3 hn3))
          all_goals
            have HLY3 := Lib.hid (show ∀ m, m < 2 ^ L → (dv N3 ly m = true ↔ Pd (wordsOf t.ops) (wd t.init) m p) from fun m hm => by rw [HP3.out.le.dv HPMD.out.st.dg.ok HP2.out.lt]; exact HLY.out.1 m hm)
            have HAT := Lib.hid (show ∀ m, dv N3 at_ m = (dv N3 ly m && goalB (wd t.goal) m) from fun m => by
              rw [HP3.out.val, HP3.out.le.dv HPMD.out.st.dg.ok HP2.out.lt, HLE2.out.dv HST.out.dg.ok HGK.out, HGV.out, goal_lit OK.out.goal])
            clear t0 t5 e0 e5 el HC
            by_cases h0 : at_ = 0
            · subst h0
              have HNG3 := Lib.hid (show NoGoal (wordsOf t.ops) (wd t.init) (wd t.goal) (fun k => ∃ v, putP D p ly k = some v) from fun k x hk hx => by
                rcases (put_has k).1 hk with h1 | rfl
                · exact HNG.out k x h1 hx
                · have hxl : x < 2 ^ L := by obtain ⟨⟨q, g1, _⟩, _⟩ := id hx; exact HLT2.out q x g1
                  have h1 := HAT.out x
                  rw [dv_zero, (HLY3.out x hxl).2 hx, Bool.true_and] at h1
                  exact h1.symm)
              have hly3 : ly < N3.length + 2 := by have h1 := HP3.out.le.len; have h2 := HP2.out.lt; omega
              have hc3 : c < N3.length + 2 := by have h1 := HP3.out.le.len; have h2 := HP2.out.le.len; have h3 := HPG.out.cl; omega
              have HB3L := Lib.hid (show low N3 ≤ low N2 + opC ly from HP3.out.cnt)
              have HC := Lib.hid (or_any w13 sb L N3 G3 c ly HPM13.out.st.dg hL24 hc3 hly3 (by have h1 := HLW2.out; have h2 := HB3L.out; have h3 := opC_le wk; have h4 := opC_le ly; have h5 := HLW.out; have h6 := lowB_le L (min (lev L N3 c) (lev L N3 ly)); omega))
              obtain ⟨c0, c0l⟩ := HPM13.out.st.c0
              go_wp2_with fail
              refine HC.out.mono ?_; rintro e w14 ⟨c', N4, G4, rfl, hp4, hd4, hk4, hn4⟩
              have HP4 := Lib.hid hp4
              have HPM14 := Lib.hid (HPM13.out.op hd4 hk4 hn4)
              have hly4 : ly < N4.length + 2 := by have h1 := hp4.le.len; omega
              have HLY4 := Lib.hid (show ∀ m, m < 2 ^ L → (dv N4 ly m = true ↔ Pd (wordsOf t.ops) (wd t.init) m p) from fun m hm => by rw [HP4.out.le.dv HPM13.out.st.dg.ok hly3]; exact HLY3.out m hm)
              have HPG4 := Lib.hid (HPG.out.taken HOKN.out ((HP2.out.le.trans HP3.out.le).trans HP4.out.le) hly4 HP4.out.lt HLY4.out (fun m => by rw [HP4.out.val, HP4.out.le.dv HPM13.out.st.dg.ok hc3, HP4.out.le.dv HPM13.out.st.dg.ok hly3]) HMIN.out)
              obtain ⟨S, hS1, hS2⟩ := Pd.list HRS.out.1 HRE.out (fun k => k = p)
              have hS3 : ∀ x, x ∈ S ↔ Pd (wordsOf t.ops) (wd t.init) x p := fun x => by rw [hS2]; exact ⟨fun ⟨k, h1, h2⟩ => by rw [← h1]; exact h2, fun h => ⟨p, rfl, h⟩⟩
              have hct := count_is HPM14.out.st.dg.ok hly4 hS1 (fun x => by
                rw [hS3]
                constructor
                · intro h
                  have hx : x < 2 ^ L := by obtain ⟨⟨q, g1, _⟩, _⟩ := id h; exact HLT2.out q x g1
                  exact ⟨hx, (HLY4.out x hx).2 h⟩
                · rintro ⟨h1, h2⟩; exact (HLY4.out x h1).1 h2)
              have hc4 := count_any w14 sb L N4 G4 ly HPM14.out.st.dg hL24 hly4
              rw [hct] at hc4
              have HC4 := Lib.hid hc4
              have HCN4 := Lib.hid (HCN.out.more (fun k => put_has (ly := ly) k) HLY.out.2.2.1 hS1 hS3)
              have hsl : S.length ≤ 2000 := Nat.le_trans (nodup_sub hS1 (fun x hx => by obtain ⟨⟨q, g1, _⟩, _⟩ := (hS3 x).1 hx; exact HRE.out q x g1)) HRS.out.2.1
              have HSP := Lib.hid (show ly ≠ 0 → 1 ≤ S.length from fun h0 => by
                obtain ⟨m0, hm0, _, hm1⟩ := dv_some HPM14.out.st.dg.ok ly hly4 h0
                exact List.length_pos_iff.2 (List.ne_nil_of_mem ((hS3 m0).2 ((HLY4.out m0 hm0).1 hm1))))
              generalize S.length = sl at HC4 HCN4 hsl HSP
              clear hp4 hd4 hk4 hn4 c0 c0l HC hS1 hS2 hS3 hct hc4 S
              obtain ⟨c0, c0l⟩ := HPM14.out.st.c0
              go_wp2_with fail
              refine HC4.out.mono ?_; rintro e w15 ⟨rfl, hk15⟩
              have HPM15 := Lib.hid (HPM14.out.keeps0 hk15)
              have d3 := HPM15.out.st.k0.cell HB3.out.c3 (fun h => h)
              have dl := Nat.lt_of_lt_of_le HB3.out.lt HPM15.out.st.k0.size
              have hpb : ly ≠ 0 → p ≤ 1000000000 := fun h0 => by
                obtain ⟨m0, hm0, _, hm1⟩ := dv_some HPM15.out.st.dg.ok ly hly4 h0
                have := ((HLY4.out m0 hm0).1 hm1).bound HC0.out HRE.out HRS.out.2.1
                omega
              have HPB := Lib.hid hpb
              have HLW4 := Lib.hid (show low N4 ≤ low N3 + 524287 from by have h1 := HP4.out.cnt; have h2 := lowB_le L (min (lev L N3 c) (lev L N3 ly)); omega)
              have HLT4 := Lib.hid (show low N4 ≤ 3200000000000 from by have h0 := HLW4.out; have h1 := HLW2.out; have h2 := HB3L.out; have h3 := opC_le wk; have h4 := opC_le ly; have h5 := HLW.out; omega)
              have HOK4 := Lib.hid (show DgOk L N4 from HPM15.out.st.dg.ok)
              have HLY4L := Lib.hid hly4
              have HLE4 := Lib.hid (show DgLe N0 N4 from (HLE2.out.trans HP3.out.le).trans HP4.out.le)
              clear hk15 c0 c0l hpb hly3 hly4 hc3 HPM13 HPM14 HC4 HP4 HP3
              go_wp2_with fail
              go_loopw [107] (fun iv wq => ∃ (j : Nat) (N5 : List Dn) (G5 : Nat → Prop) (W5 : Nat → Option Nat) (A5 : List (Int × Int)) (t5 : Int) (F5 : Nat → Prop), iv = .int .i64 (j : Int) ∧ j ≤ t.ops.length ∧ PlM w3 wq ss sb L (L : Int) (.slice ai t.init.length ci) (.slice ag t.goal.length cg) (.slice ao t.ops.length co) gk N5 G5 wb db Q W5 (putP D p ly) A5 t5 F5 ∧ PlG L N5 (wordsOf t.ops) (wd t.init) (fun k i => k = p → i < j) W5 (putP D p ly) c' A5 ∧ DgLe N4 N5 ∧ low N5 ≤ low N4 + ipay ly j ∧ A5.length ≤ (A.filter fun a => a.1 != (p : Int)).length + jz ly j ∧ 0 ≤ t5 ∧ t5 ≤ tt + (jz ly j : Int)) (fun iv _ => t.ops.length - (intOf iv).toNat)
              case atStart => exact ⟨0, N4, G4, W, _, tt, _, rfl, Nat.zero_le _, HPM15.out, HPG4.out, DgLe.refl _, by rw [ipay_zero]; omega, by omega, ht0, by rw [jz_zero]; omega⟩
              case round =>
                obtain ⟨j, N5, G5, W5, A5, t5, F5, rfl, hj, hpm5, hpg5, hle5, hlw5, ha5, ht50, ht51⟩ := hrel
                have HPM5 := Lib.hid hpm5; have HPG5 := Lib.hid hpg5; have HLE5 := Lib.hid hle5; have HLW5 := Lib.hid hlw5; have HA5 := Lib.hid ha5; have HT5 := Lib.hid ht51
                clear hpm5 hpg5 hle5 hlw5 ha5 ht51 d3 dl HPM15
                by_cases hlt : j < t.ops.length
                · obtain ⟨bo, oo, hao, hcell⟩ := HOPS.out.cell rfl (by omega)
                  cases hao
                  obtain ⟨o, ho⟩ : ∃ o, t.ops[j]? = some o := ⟨_, List.getElem?_eq_getElem hlt⟩
                  have hok := OK.out.ops o (List.mem_of_getElem? ho)
                  rw [HLN.out] at hok
                  have hcst : 0 ≤ o.cost ∧ o.cost ≤ 100 := HC0.out o.word (List.mem_of_getElem? (words_of ho))
                  have HPR := Lib.hid (show ((prcN o.word : Nat) : Int) = 4096 * o.cost + 1 from prcN_int HC0.out (words_of ho))
                  obtain ⟨f1, f2, f3, f4⟩ := opr_few hL24 hok
                  have HCO := Lib.hid (img_pay (ly := ly) f1 f4)
                  obtain ⟨va, vb, vc, u0, u1, u2, u3, i1, i2, i3⟩ := hcell j o ho
                  have r0 := HPM5.out.st.k0.cell u0 (fun h => h); have r1 := HPM5.out.st.k0.cell u1 (fun h => h); have r2 := HPM5.out.st.k0.cell u2 (fun h => h); have r3 := HPM5.out.st.k0.cell u3 (fun h => h)
                  obtain ⟨a1, c1, g1, _⟩ := i1.form
                  obtain ⟨a2, c2, g2, _⟩ := i2.form
                  obtain ⟨a3, c3, g3, _⟩ := i3.form
                  subst g1 g2 g3
                  have K7 := (Keeps.refl (fun _ => False) wr).alloc (.cells #[.slice a1 o.pre.length c1, .slice a2 o.add.length c2, .slice a3 o.del.length c3, .int .i64 o.cost] 72)
                  have HX7 := Lib.hid (heap_alloc_new wr (.cells #[.slice a1 o.pre.length c1, .slice a2 o.add.length c2, .slice a3 o.del.length c3, .int .i64 o.cost] 72))
                  have HPM7 := Lib.hid (HPM5.out.keeps0 K7)
                  have HXG := Lib.hid (show ¬ G5 wr.heap.size from fun h => by have := HPM5.out.st.dg.bnd _ h; omega)
                  have HOK := Lib.hid hok; have HJ := Lib.hid ho; have HLT3 := Lib.hid hlt
                  have HFF := Lib.hid (And.intro f1 (And.intro f2 f3))
                  clear hcell u0 u1 u2 u3 i1 i2 i3 K7 ho hok f1 f2 f3 f4 hlt
                  go_upto_region 22 with fail
                  generalize (wr.alloc (.cells #[.slice a1 o.pre.length c1, .slice a2 o.add.length c2, .slice a3 o.del.length c3, .int .i64 o.cost] 72)) = w17 at HX7 HPM7 ⊢
                  generalize wr.heap.size = bx at HX7 HXG ⊢
                  clear r0 r1 r2 r3
                  have HLL := Lib.hid (show ly < N5.length + 2 from by have h1 := HLE5.out.len; have h2 := HLY4L.out; omega)
                  have HLB5 := Lib.hid (show low N5 + 40000000 ≤ 5800000000000 from by have h1 := HLW5.out; have h2 := HLT4.out; have h3 := ipay_le (ly := ly) (show j ≤ 40 by omega); omega)
                  have HCI := Lib.hid (image_any w3 w17 ss sb L N5 G5 (L : Int) _ _ _ gk ly j t.ops o HPM7.out.st hL24 HOPS.out HJ.out h40 HLL.out (isSet_iff.1 HOK.out.pre).1 (isSet_iff.1 HOK.out.add).1 (isSet_iff.1 HOK.out.del).1 HFF.out.1 HFF.out.2.1 HFF.out.2.2 (by have h1 := HCO.out; have h2 := HLB5.out; split at h1 <;> omega))
                  go_wp2_with fail
                  refine HCI.out.mono ?_; rintro e w18 ⟨nx, N6, G6, rfl, hp6, hz6, hs6, hk6, hn6⟩
                  have HP6 := Lib.hid hp6; have HZ6 := Lib.hid hz6
                  have HPM18 := Lib.hid (HPM7.out.opS hs6 hk6 hn6)
                  have HX18 := Lib.hid (hk6.heap HX7.out HXG.out)
                  have HIM := Lib.hid (show ∀ m, dv N6 nx m = imgB o (dv N6 ly) m from fun m => by
                    have e1 : dv N6 ly = dv N5 ly := funext fun z => HP6.out.le.dv HPM7.out.st.dg.ok HLL.out z
                    rw [HP6.out.val, e1]; rfl)
                  have HPG6 := Lib.hid (HPG5.out.le HPM7.out.st.dg.ok HP6.out.le)
                  clear hp6 hz6 hs6 hk6 hn6 HCI HX7 HXG
                  by_cases hx0 : nx = 0
                  · subst hx0
                    have HPGD := Lib.hid (HPG6.out.dead hL24 HLT2.out HJ.out HOK.out (putP_same D p ly) (fun m => by rw [← HIM.out m]; exact dv_zero m))
                    have HLW6 := Lib.hid (show low N6 ≤ low N4 + ipay ly (j + 1) from by
                      have h1 := HP6.out.cnt; have h2 := HCO.out; have h3 := HLW5.out
                      rw [ipay_succ]; unfold icost
                      split at h2 <;> split <;> omega)
                    have HJZ := Lib.hid (jz_succ ly j)
                    clear HX18
                    go_wp2_with fail
                    go_roundw
                    case rel =>
                      exact ⟨j + 1, N6, G6, W5, A5, t5, F5, by go_num, HLT3.out, HPM18.out, HPGD.out, HLE5.out.trans HP6.out.le, HLW6.out, by have h1 := HA5.out; have h2 := HJZ.out; omega, ht50, by have h1 := HT5.out; have h2 := HJZ.out; omega⟩
                    case measure => simp [intOf]; have := HLT3.out; omega
                  · have q1 : ((nx : Int) == 0) = false := by simpa using hx0
                    have HLZ := Lib.hid (show ly ≠ 0 from fun h => hx0 (HZ6.out h))
                    have hpb := HPB.out HLZ.out
                    have HXZ := Lib.hid hx0
                    have x3 : w18.cell? ⟨bx, 3, none⟩ = some (.int .i64 o.cost) := (cell_of_blk HX18.out).trans rfl
                    have xl := lt_of_heap HX18.out
                    clear hx0
                    go_wp2_with fail
                    refine (sprice_any _ _ ⟨hcst.1, by omega⟩).mono ?_; rintro e wq ⟨rfl, hwq⟩
                    rw [← hwq]; clear hwq wq
                    go_upto_region 25 with fail
                    obtain ⟨to, hto⟩ : ∃ to : Nat, to = p + prcN o.word := ⟨_, rfl⟩
                    have hto2 : (p : Int) + (4096 * o.cost + 1) = (to : Int) := by have h1 := HPR.out; omega
                    rw [hto2]
                    have HTO := Lib.hid hto
                    obtain ⟨kx, hkx⟩ := look_is W5 (to : Int)
                    have HKX := Lib.hid hkx
                    have KD := (Keeps.refl (fun _ => False) w18).drew
                    have HPMD := Lib.hid (HPM18.out.keeps0 KD)
                    have hlk := HPMD.out.wm.look hkx
                    have HKL := Lib.hid (show kx < N6.length + 2 ∧ nx < N6.length + 2 from ⟨HPG6.out.look hkx, HP6.out.lt⟩)
                    have HC := Lib.hid (or_any w18.drew sb L N6 G6 kx nx HPMD.out.st.dg hL24 HKL.out.1 HKL.out.2 (by have h1 := HP6.out.cnt; have h2 := HCO.out; have h3 := HLB5.out; have h4 := lowB_le L (min (lev L N6 kx) (lev L N6 nx)); split at h2 <;> omega))
                    have e0 := HPMD.out.st.c0.1
                    have el := HPMD.out.st.c0.2
                    clear hkx KD x3 xl hcst hpb hto hto2 HX18
                    have hlen : A5.length ≤ 999999 := by have h1 := HA5.out; have h2 := HFL.out; have h3 := jz_le (ly := ly) (show j ≤ 40 by omega); omega
                    have ht5b : t5 ≤ 1000000000000000 := by have h1 := HT5.out; have h3 := jz_le (ly := ly) (show j ≤ 40 by omega); omega
                    have HLN5 := Lib.hid (And.intro hlen ht5b)
                    clear hlen ht5b
                    go_region_held3 (fun w' => w'.cell? ⟨ss, 0, none⟩ = some (.pointer (some ⟨sb, 0, none⟩)))
                      (go_keep)
                      (first
                        | (go_at_call 27; refine HC.out.mono ?_; rintro en w19 ⟨rr, N7, G7, rfl, hp7, hd7, hk7, hn7⟩; have HP7 := Lib.hid hp7; have HPM19 := Lib.hid (HPMD.out.op hd7 hk7 hn7); obtain ⟨w20, hr20, hm20, hk20⟩ := HPM19.out.wm.1.put (P := Tryz.prog) Tryz.underlying73 Tryz.underlying3 to rr; replace hr20 : (Instr.mapUpdate 73 (.map (some wb)) (.int .i64 (to : Int)) (.int .i64 (rr : Int))).run Tryz.prog w19 = .ok () w20 := hr20; have HPM20 := Lib.hid (HPM19.out.putW hm20 hk20); have t0 := HPM19.out.st.c0.1; have v0 := HPM20.out.st.c0.1; clear hp7 hd7 hk7 hn7 hm20 hk20))
                    all_goals
                      have HPGG := Lib.hid ((HPG6.out.le HPMD.out.st.dg.ok HP7.out.le).grow hL24 HC0.out HLT2.out HJ.out HOK.out (putP_same D p ly) (fun k hk => by
                        rcases (put_has k).1 hk with h1 | h1
                        · have := HLY.out.2.2.2 k h1; omega
                        · omega) HTO.out HKX.out HP7.out.lt (nx := nx) (fun m => by
                          have e1 : dv N7 ly = dv N6 ly := funext fun z => HP7.out.le.dv HPMD.out.st.dg.ok (show ly < N6.length + 2 from by have h1 := HP6.out.le.len; have h2 := HLL.out; omega) z
                          rw [HP7.out.le.dv HPMD.out.st.dg.ok HKL.out.2, HIM.out, e1]) (fun m => by
                          rw [HP7.out.val, HP7.out.le.dv HPMD.out.st.dg.ok HKL.out.1, HP7.out.le.dv HPMD.out.st.dg.ok HKL.out.2]))
                      have HLW7 := Lib.hid (show low N7 ≤ low N4 + ipay ly (j + 1) from by
                        have h1 := HP6.out.cnt; have h2 := HCO.out; have h3 := HLW5.out; have h4 := HP7.out.cnt; have h5 := lowB_le L (min (lev L N6 kx) (lev L N6 nx))
                        rw [if_neg HLZ.out] at h2
                        rw [ipay_succ]; unfold icost
                        rw [if_neg HLZ.out]; omega)
                      have HSB := Lib.hid (V.set_both w20 Q A5 t5 F5 HPM20.out.q (to : Int) (to : Int) ⟨ht50, HLN5.out.2⟩ HLN5.out.1)
                      have HLE7 := Lib.hid ((HLE5.out.trans HP6.out.le).trans HP7.out.le)
                      have HJZ := Lib.hid (jz_step (j := j) HLZ.out)
                      have HAL := Lib.hid (V.setA_len A5 (to : Int) (to : Int))
                      clear t0 v0 hr20 hlk e0 el HC HP7 HPM19
                      go_wp2_with fail
                      refine HSB.out.mono ?_; rintro e w21 ⟨rfl, F6, hq21, hn21, hk21⟩
                      have HPM21 := Lib.hid (HPM20.out.queue hq21 hn21 hk21)
                      clear hq21 hn21 hk21
                      go_wp2_with fail
                      go_roundw
                      case rel =>
                        exact ⟨j + 1, N7, G7, putP W5 to rr, V.setA A5 (to : Int) (to : Int), t5 + 1, _, by go_num, HLT3.out, HPM21.out, HPGG.out, HLE7.out, HLW7.out, by have h1 := HA5.out; have h2 := HJZ.out; have h3 := HAL.out; omega, by omega, by have h1 := HT5.out; have h2 := HJZ.out; omega⟩
                      case measure => simp [intOf]; have := HLT3.out; omega
                · have hje : j = t.ops.length := by omega
                  subst hje
                  clear hlt
                  go_wp2_with fail
                  go_roundw
                  case rel =>
                    obtain ⟨r1, r2, r3, _⟩ := round_pays HLW.out HLW2.out HB3L.out HLW4.out HLW5.out (by omega) HFL.out HA5.out HSP.out han ht1 HT5.out
                    refine ⟨c', n + sl, N5, G5, W5, putP D p ly, A5, t5, F5, rfl, by go_num, HPM5.out, HPG5.out.final rfl, HCN4.out, HNG3.out, HLE4.out.trans HLE5.out, r1, r2, ht50, r3⟩
                  case measure =>
                    obtain ⟨_, _, _, r4⟩ := round_pays HLW.out HLW2.out HB3L.out HLW4.out HLW5.out (by omega) HFL.out HA5.out HSP.out han ht1 HT5.out
                    have h1 := r4 (Nat.le_trans (HCN4.out.le HRE.out) HRS.out.2.1)
                    rw [HPM5.out.q.qlen_is, HQN.out]
                    simp [intOf]
                    omega
            · have HDI := Lib.hid (HPG.out.doneI HOKN.out (HP2.out.le.trans HP3.out.le) (show ly < N3.length + 2 from by have h1 := HP3.out.le.len; have h2 := HP2.out.lt; omega) HLY3.out HLY.out.2.1)
              have HTP := Lib.hid (show ∀ m, m < 2 ^ L → dv N3 at_ m = true → Pd (wordsOf t.ops) (wd t.init) m p from fun m hm h => by
                rw [HAT.out, Bool.and_eq_true] at h
                exact (HLY3.out m hm).1 h.1)
              have HBT := Lib.hid (show BestT t (p : Int) from by
                obtain ⟨m0, hm0, _, hm1⟩ := dv_some HPM13.out.st.dg.ok at_ HP3.out.lt h0
                have h2 := hm1
                rw [HAT.out, Bool.and_eq_true] at h2
                exact best_some HC0.out HNG.out HLY.out.2.1 (HTP.out m0 hm0 hm1) h2.2)
              have hpb : p ≤ 1000000000 := by
                obtain ⟨m0, hm0, _, hm1⟩ := dv_some HPM13.out.st.dg.ok at_ HP3.out.lt h0
                have := (HTP.out m0 hm0 hm1).bound HC0.out HRE.out HRS.out.2.1
                omega
              have HCB := Lib.hid (cnt_best HCN.out HBT.out (fun k x hx => ⟨fun h => .inr (by have := HLY.out.2.2.2 k h; omega), fun h => HLY.out.2.1 k x hx (by omega)⟩))
              have hnl : 0 ≤ (n : Int) ∧ (n : Int) ≤ (l.length : Int) := ⟨by omega, by have := HCN.out.le HRE.out; omega⟩
              have HNL := Lib.hid hnl
              have q0 : ((at_ : Int) != 0) = true := by simpa using h0
              have q0' : (at_ != 0) = true := by simpa using h0
              have KD := (Keeps.refl (fun _ => False) w13).drew
              have HPME := Lib.hid (HPM13.out.keeps0 KD)
              have HTRC := Lib.hid (trace_any w3 w13.drew ss sb L N3 G3 (L : Int) _ _ _ gk t l db (putP D p ly) at_ p HPME.out.st hL24 HLN.out HOPS.out OK.out HX.out HPME.out.dm HDI.out HP3.out.lt h0 HTP.out hpb (by have h1 := HLW2.out; have h2 := HP3.out.cnt; have h3 := opC_le wk; have h4 := opC_le ly; have h5 := HLW.out; omega))
              have K3 := HPME.out.st.k0
              have d0 := K3.cell HB3.out.c0 (fun h => h); have d1 := K3.cell HB3.out.c1 (fun h => h); have d2 := K3.cell HB3.out.c2 (fun h => h); have d3 := K3.cell HB3.out.c3 (fun h => h)
              have hbx : w.heap.size < w13.heap.size := Nat.lt_of_lt_of_le HB3.out.lt HPM13.out.st.k0.size
              have HBA := Lib.hid (show w.heap.size + 1 + 1 < w3.heap.size from lt_of_heap HR3.out.flt.blk)
              clear KD K3 hnl
              go_upto_region 16 with fail
              clear q0 q0' h0 hpb
              by_cases h60 : p % 4096 ≤ 60
              · have H60 := Lib.hid h60
                clear h60
                go_region_held3 (fun w' => w'.cell? ⟨w.heap.size, 0, none⟩ = some (.int .i64 (L : Int)) ∧ w'.cell? ⟨w.heap.size, 1, none⟩ = some (.slice ai t.init.length ci) ∧ w'.cell? ⟨w.heap.size, 2, none⟩ = some (.slice ag t.goal.length cg) ∧ w'.cell? ⟨w.heap.size, 3, none⟩ = some (.slice ao t.ops.length co))
                  (first | go_keep | with_reducible exact ⟨E0.out, E1.out, E2.out, E3.out⟩)
                  (first
                    | (go_at_call 42; refine HTRC.out.mono ?_; rintro en wA ⟨hkA, v2, q, y, rfl, hi, hrun, hyl, hTy, hway, hlo⟩; obtain ⟨a3, c3, hv3, _⟩ := hi.form; subst hv3; have HI := Lib.hid hi; have HRUN := Lib.hid hrun; have HGY := Lib.hid (show goalB (wd t.goal) y = true from by rw [HAT.out, Bool.and_eq_true] at hTy; exact hTy.2); have HLC := Lib.hid (plan_len HC0.out HRE.out HRS.out.2.1 (HTP.out y hyl hTy) hrun hway); have HLO := Lib.hid hlo; have HTA := Lib.hid (HT3.out.keeps0 hkA); have HRA := Lib.hid (HR3.out.keeps0 hkA); have A0 := hkA.cell HB3.out.c0 (fun h => h); have A1 := hkA.cell HB3.out.c1 (fun h => h); have A2 := hkA.cell HB3.out.c2 (fun h => h); have A3 := hkA.cell HB3.out.c3 (fun h => h); have hres := sresult_fit wA _ _ _ _ t (intsP q) true (n : Int) HTA.out OK.out HI.out (planIn_run hrun) (by have h1 := H60.out; have h2 := HLC.out.1; unfold intsP; rw [List.length_map]; omega); rw [HLN.out] at hres; have HRES := Lib.hid hres; clear hi hrun hyl hTy hway hlo hkA hres)
                    | (go_at_call 41; refine HRES.out.mono ?_; rintro en wC ⟨rfl, hkC⟩; have C0 := hkC.cell A0 (fun h => h); have C1 := hkC.cell A1 (fun h => h); have C2 := hkC.cell A2 (fun h => h); have C3 := hkC.cell A3 (fun h => h); have HRC := Lib.hid (HRA.out.keeps0 hkC); have HI4 := Lib.hid (HI.out.keeps0 hkC); obtain ⟨r0, r1, r2, r3, y0, y1, y2, y3, hlR⟩ := HRC.out.cells; obtain ⟨e0, e1, z0, z1, hF⟩ := HRC.out.flt.cells; have HFIN := Lib.hid (HRC.out.set (.bool true) (.slice a3 (intsP q).length c3) (.int .i64 (costL t (intsP q))) (.int .i64 (n : Int)) (.int .i64 0) (.int .i64 0)); have hne : ¬ (w.heap.size = w.heap.size + 1 ∨ w.heap.size = w.heap.size + 1 + 1) := (by omega); have E0 := Lib.hid (HFIN.out.2.2.2.cell C0 hne); have E1 := Lib.hid (HFIN.out.2.2.2.cell C1 hne); have E2 := Lib.hid (HFIN.out.2.2.2.cell C2 hne); have E3 := Lib.hid (HFIN.out.2.2.2.cell C3 hne); clear hkC A0 A1 A2 A3 hne))
                all_goals
                  go_wp2_with fail
                  refine bodyPost_ret (results_cell_cell _ _ (w.heap.size + 1 + 1) 29 #[.int .i64 0, .int .i64 0] (0, 0) _ rfl rfl HFIN.out.2.1 Tryz.underlying29 rfl (by kernel_rfl) rfl HFIN.out.1 Tryz.underlying41 rfl (by kernel_rfl)) rfl ?_
                  refine ⟨HFIN.out.2.2.1, true, _, _, _, (n : Int), 0, 0, rfl, ?_, bplan_short OK.out HX.out HBT.out (by omega) HRUN.out HGY.out HLC.out.2.1 HLC.out.2.2 (by have h1 := HLC.out.1; have h2 := H60.out; omega) HNL.out, fun _ => HCB.out⟩
                  refine HI4.out.keepsS HFIN.out.2.2.2 (fun h0 j hj e' => ?_)
                  have h1 := HLO.out j hj
                  have h2 := HBA.out
                  omega
              · have H60 := Lib.hid h60
                clear h60
                go_region_held3 (fun w' => w'.cell? ⟨w.heap.size, 0, none⟩ = some (.int .i64 (L : Int)) ∧ w'.cell? ⟨w.heap.size, 1, none⟩ = some (.slice ai t.init.length ci) ∧ w'.cell? ⟨w.heap.size, 2, none⟩ = some (.slice ag t.goal.length cg) ∧ w'.cell? ⟨w.heap.size, 3, none⟩ = some (.slice ao t.ops.length co))
                  (first | go_keep | with_reducible exact ⟨E0.out, E1.out, E2.out, E3.out⟩)
                  (first
                    | (go_at_call 42; refine HTRC.out.mono ?_; rintro en wA ⟨hkA, v2, q, y, rfl, hi, hrun, hyl, hTy, hway, hlo⟩; obtain ⟨a3, c3, hv3, _⟩ := hi.form; subst hv3; have HI := Lib.hid hi; have HLC := Lib.hid (plan_len HC0.out HRE.out HRS.out.2.1 (HTP.out y hyl hTy) hrun hway); have HTA := Lib.hid (HT3.out.keeps0 hkA); have HRA := Lib.hid (HR3.out.keeps0 hkA); have A0 := hkA.cell HB3.out.c0 (fun h => h); have A1 := hkA.cell HB3.out.c1 (fun h => h); have A2 := hkA.cell HB3.out.c2 (fun h => h); have A3 := hkA.cell HB3.out.c3 (fun h => h); have hres := sresult_long wA _ _ _ _ t (intsP q) true (n : Int) HTA.out OK.out HI.out (planIn_run hrun) (by have h1 := H60.out; have h2 := HLC.out.1; unfold intsP; rw [List.length_map]; omega); rw [HLN.out] at hres; have HRES := Lib.hid hres; clear hi hrun hyl hTy hway hlo hkA hres)
                    | (go_at_call 41; refine HRES.out.mono ?_; rintro en wC ⟨rfl, hkC⟩; have C0 := hkC.cell A0 (fun h => h); have C1 := hkC.cell A1 (fun h => h); have C2 := hkC.cell A2 (fun h => h); have C3 := hkC.cell A3 (fun h => h); have HRC := Lib.hid (HRA.out.keeps0 hkC); obtain ⟨r0, r1, r2, r3, y0, y1, y2, y3, hlR⟩ := HRC.out.cells; obtain ⟨e0, e1, z0, z1, hF⟩ := HRC.out.flt.cells; have HFIN := Lib.hid (HRC.out.set (.bool false) (.slice none 0 0) (.int .i64 0) (.int .i64 0) (.int .i64 10) (.int .i64 (-9))); have hne : ¬ (w.heap.size = w.heap.size + 1 ∨ w.heap.size = w.heap.size + 1 + 1) := (by omega); have E0 := Lib.hid (HFIN.out.2.2.2.cell C0 hne); have E1 := Lib.hid (HFIN.out.2.2.2.cell C1 hne); have E2 := Lib.hid (HFIN.out.2.2.2.cell C2 hne); have E3 := Lib.hid (HFIN.out.2.2.2.cell C3 hne); clear hkC A0 A1 A2 A3 hne))
                all_goals
                  go_wp2_with fail
                  refine bodyPost_ret (results_cell_cell _ _ (w.heap.size + 1 + 1) 29 #[.int .i64 10, .int .i64 (-9)] (0, 0) _ rfl rfl HFIN.out.2.1 Tryz.underlying29 rfl (by kernel_rfl) rfl HFIN.out.1 Tryz.underlying41 rfl (by kernel_rfl)) rfl ?_
                  exact ⟨HFIN.out.2.2.1, false, _, [], 0, 0, 10, -9, rfl, Ints.nil _, bplan_long OK.out HX.out HBT.out (by omega) HLC.out.2.1 (by have h1 := HLC.out.1; have h2 := H60.out; omega), fun h => absurd h (by decide)⟩

end Go.Proofs.YtjcgkmodmjckjaaGreat

namespace Go.Proofs.YtjcgkmodmjckjaaGreat

section
variable {ops : List Wop} {s : Nat} {out : List Int}
theorem sum_snocI (l : List Int) (c : Int) : (l ++ [c]).sum = l.sum + c := by
  induction l with
  | nil => simp
  | cons a r ih => rw [List.cons_append, List.sum_cons, List.sum_cons, ih]; omega
theorem lay_sums (h : LayersIs ops s out) : ∀ k, k ≤ out.length → ∃ U : List Nat, U.Nodup ∧ (∀ x, x ∈ U ↔ ∃ n, n < k ∧ Dp ops s x n) ∧ (out.take k).sum = (U.length : Int) := by
  intro k
  induction k with
  | zero => intro _; exact ⟨[], List.nodup_nil, fun x => ⟨fun h => by simp at h, fun ⟨n, hn, _⟩ => by omega⟩, by simp⟩
  | succ k ih =>
    intro hk
    obtain ⟨U, h1, h2, h3⟩ := ih (by omega)
    obtain ⟨c, hc⟩ : ∃ c, out[k]? = some c := ⟨_, List.getElem?_eq_getElem (by omega)⟩
    obtain ⟨S, g1, _, g3, g4⟩ := h.1 k c hc
    refine ⟨U ++ S, List.nodup_append.2 ⟨h1, g1, fun a ha b hb e => ?_⟩, fun x => ?_, ?_⟩
    · subst e
      obtain ⟨n, hn, hd⟩ := (h2 a).1 ha
      have := hd.unique ((g3 a).1 hb); omega
    · rw [List.mem_append, h2, g3]
      constructor
      · rintro (⟨n, hn, hd⟩ | hd)
        · exact ⟨n, by omega, hd⟩
        · exact ⟨k, by omega, hd⟩
      · rintro ⟨n, hn, hd⟩
        by_cases e : n = k
        · subst e; exact .inr hd
        · exact .inl ⟨n, by omega, hd⟩
    · rw [take_getS hc, sum_snocI, h3, g4, List.length_append]; omega
/-- They add up to the number of the states. -/
theorem lay_sum (h : LayersIs ops s out) {l : List Nat} (hd : l.Nodup) (hl : ∀ x, x ∈ l ↔ ∃ q, runOps ops s q = some x) : out.sum = (l.length : Int) := by
  obtain ⟨U, h1, h2, h3⟩ := lay_sums h out.length (Nat.le_refl _)
  rw [List.take_of_length_le (Nat.le_refl _)] at h3
  have hm : ∀ x, x ∈ U ↔ x ∈ l := fun x => by
    rw [h2, hl]
    constructor
    · rintro ⟨n, _, ⟨q, hq, _⟩, _⟩; exact ⟨q, hq⟩
    · rintro ⟨q, hq⟩
      obtain ⟨n, _, hn⟩ := Dp.least q.length q (Nat.le_refl _) hq
      exact ⟨n, h.2 _ _ hn, hn⟩
  have a := nodup_sub h1 (r := l) (fun x hx => (hm x).1 hx)
  have b := nodup_sub hd (r := U) (fun x hx => (hm x).2 hx)
  rw [h3]; congr 1; omega
theorem lay_pos (h : LayersIs ops s out) {i : Nat} {c : Int} (hc : out[i]? = some c) : 0 < c := by
  obtain ⟨S, _, g2, _, g4⟩ := h.1 i c hc
  have := List.length_pos_iff.2 g2
  omega
theorem lay_first (h : LayersIs ops s out) : out[0]? = some 1 := by
  have h0 := h.2 s 0 Dp.zero
  obtain ⟨c, hc⟩ : ∃ c, out[0]? = some c := ⟨_, List.getElem?_eq_getElem h0⟩
  obtain ⟨S, g1, _, g3, g4⟩ := h.1 0 c hc
  have a := nodup_sub g1 (r := [s]) (fun x hx => by rw [((g3 x).1 hx).start]; simp)
  have b := nodup_sub (l := [s]) (by simp) (r := S) (fun x hx => by rw [List.mem_singleton.1 hx]; exact (g3 s).2 Dp.zero)
  rw [hc, g4]
  simp only [List.length_singleton] at a b
  congr 1; omega
end

end Go.Proofs.YtjcgkmodmjckjaaGreat

namespace Go.Proofs.YtjcgkmodmjckjaaGreat
open Go.RowKit

def noResB (f : Bool) (m : Nat) (c n : Int) : Bool := !f && (m == 0) && (c == 0) && (n == 0)

set_option maxRecDepth 100000 in
set_option maxHeartbeats 1000000 in
theorem noResult_any (w : World) (f : Bool) (ao : Option Addr) (m cap : Nat) (c n : Int) (hm : m ≤ 9223372036854775807) :
    Calls Tryz.prog 16 #[resV f (.slice ao m cap) c n] w fun e w' => e = .returned (.bool (noResB f m c n)) ∧ Keeps (fun _ => False) w w' := by
  have HK := Lib.hid ((Keeps.refl (fun _ => False) w).alloc (.cells #[.bool f, .slice ao m cap, .int .i64 c, .int .i64 n] 41))
  have HX := heap_alloc_new w (.cells #[.bool f, .slice ao m cap, .int .i64 c, .int .i64 n] 41)
  have HE : Hid (noResB f m c n = (!f && (m == 0) && (c == 0) && (n == 0))) := rfl
  unfold resV
  go_enter Tryz.func16, Tryz.ntmps16
  go_upto_region 1 with fail
  generalize w.alloc (.cells #[.bool f, .slice ao m cap, .int .i64 c, .int .i64 n] 41) = w1 at HX HK ⊢
  have s0 : w1.cell? ⟨w.heap.size, 0, none⟩ = some (.bool f) := by rw [cell_of_blk HX]; rfl
  have s1 : w1.cell? ⟨w.heap.size, 1, none⟩ = some (.slice ao m cap) := by rw [cell_of_blk HX]; rfl
  have s2 : w1.cell? ⟨w.heap.size, 2, none⟩ = some (.int .i64 c) := by rw [cell_of_blk HX]; rfl
  have s3 : w1.cell? ⟨w.heap.size, 3, none⟩ = some (.int .i64 n) := by rw [cell_of_blk HX]; rfl
  have hl := lt_of_heap HX
  clear HX
  cases f with
  | true =>
    go_wp2_with fail
    go_ret
    exact ⟨congrArg (fun b => Ending.returned (Value.bool b)) (show false = noResB true m c n by rw [HE.out]; rfl), HK.out⟩
  | false =>
    by_cases h1 : m = 0
    · subst h1
      cases h2 : (c == 0) with
      | true =>
        go_wp2_with fail
        go_ret
        exact ⟨congrArg (fun b => Ending.returned (Value.bool b)) (show (n == 0) = noResB false 0 c n by rw [HE.out, h2]; rfl), HK.out⟩
      | false =>
        go_wp2_with fail
        go_ret
        exact ⟨congrArg (fun b => Ending.returned (Value.bool b)) (show false = noResB false 0 c n by rw [HE.out, h2]; rfl), HK.out⟩
    · have h2 : ((m : Int) == 0) = false := by simp; omega
      go_wp2_with fail
      go_ret
      exact ⟨congrArg (fun b => Ending.returned (Value.bool b)) (show false = noResB false m c n by rw [HE.out]; simp [h1]), HK.out⟩

/-! ### StateFault of the reference -/
end Go.Proofs.YtjcgkmodmjckjaaGreat

/- isOne at the task step. -/
namespace Go.Proofs.YtjcgkmodmjckjaaGreat
open Go.RowKit

set_option maxRecDepth 100000 in
set_option maxHeartbeats 1000000 in
theorem isOne_any (w : World) (vp : Value) (n : Int) (h : Ints w vp [0]) :
    Calls Tryz.prog 21 #[resV true vp 3 n, fltV 0 0] w fun e w' => e = .returned (.bool true) ∧ Keeps (fun _ => False) w w' := by
  obtain ⟨ap, cp, h4, _⟩ := h.form
  subst h4
  have KA := (Keeps.refl (fun _ => False) w).alloc (.cells #[.bool true, .slice ap 1 cp, .int .i64 3, .int .i64 n] 41)
  have KB := (Keeps.refl (fun _ => False) (w.alloc (.cells #[.bool true, .slice ap 1 cp, .int .i64 3, .int .i64 n] 41))).alloc (.cells #[.int .i64 0, .int .i64 0] 29)
  have HK := Lib.hid (KA.trans KB)
  have HX := KB.heap (heap_alloc_new w (.cells #[.bool true, .slice ap 1 cp, .int .i64 3, .int .i64 n] 41)) (fun h => h)
  have HF := heap_alloc_new (w.alloc (.cells #[.bool true, .slice ap 1 cp, .int .i64 3, .int .i64 n] 41)) (.cells #[.int .i64 0, .int .i64 0] 29)
  rw [World.size_alloc] at HF
  have HP := Lib.hid (show Ints _ (.slice ap 1 cp) [0] from h.keeps0 (KA.trans KB))
  clear KA KB h
  unfold resV fltV
  go_enter Tryz.func21, Tryz.ntmps21
  go_upto_region 1 with fail
  generalize (w.alloc (.cells #[.bool true, .slice ap 1 cp, .int .i64 3, .int .i64 n] 41)).alloc (.cells #[.int .i64 0, .int .i64 0] 29) = w1 at HX HF HK HP ⊢
  have s0 : w1.cell? ⟨w.heap.size, 0, none⟩ = some (.bool true) := by rw [cell_of_blk HX]; rfl
  have s1 : w1.cell? ⟨w.heap.size, 1, none⟩ = some (.slice ap 1 cp) := by rw [cell_of_blk HX]; rfl
  have s2 : w1.cell? ⟨w.heap.size, 2, none⟩ = some (.int .i64 3) := by rw [cell_of_blk HX]; rfl
  have f0 : w1.cell? ⟨w.heap.size + 1, 0, none⟩ = some (.int .i64 0) := by rw [cell_of_blk HF]; rfl
  have hl := lt_of_heap HX
  have hlF := lt_of_heap HF
  have kc := (Keeps.refl (fun _ => False) w1).alloc (.cells #[.int .i64 0] 3)
  have HQ := Lib.hid (Ints.one (x := 0) (heap_alloc_new w1 (.cells #[.int .i64 0] 3)))
  have HP2 := Lib.hid (show Ints _ (.slice ap 1 cp) [0] from HP.out.keeps0 kc)
  have HK2 := Lib.hid (HK.out.trans kc)
  have HX2 := Lib.hid (kc.heap HX (fun h => h))
  clear kc HX HF
  go_wp2_with fail
  refine (ints_any _ _ _ _ _ HP2.out HQ.out).mono ?_; rintro e w3 ⟨rfl, hk⟩
  have hx := hk.heap HX2.out (fun h => h)
  clear s0 s1 s2 hl
  have s2 : w3.cell? ⟨w.heap.size, 2, none⟩ = some (.int .i64 3) := by rw [cell_of_blk hx]; rfl
  have hl := lt_of_heap hx
  have HKE := Lib.hid (HK2.out.trans hk)
  clear hx hk
  go_wp2_with fail
  go_ret
  exact ⟨rfl, HKE.out⟩

end Go.Proofs.YtjcgkmodmjckjaaGreat

namespace Go.Proofs.YtjcgkmodmjckjaaGreat
open Go.RowKit

theorem stepS_run {q : List Nat} {x y : Nat} (h : runOps (wordsOf stepT.ops) x q = some y) : costN (wordsOf stepT.ops) q = 3 * (q.length : Int) ∧ ∀ k ∈ q, k = 0 := by
  have hl := runOps_lt h
  have hz : ∀ k ∈ q, k = 0 := fun k hk => by
    have h1 := hl k hk
    have h2 : (wordsOf stepT.ops).length = 1 := rfl
    omega
  refine ⟨?_, hz⟩
  clear h hl
  induction q with
  | nil => rfl
  | cons a r ih =>
    obtain rfl := hz a (by simp)
    have h1 := ih (fun k hk => hz k (by simp [hk]))
    rw [costN, h1, List.length_cons]
    have : ((wordsOf stepT.ops)[0]?.map Wop.cost).getD 0 = 3 := rfl
    rw [this]
    omega
theorem stepS_least : BestT stepT 12289 := by
  refine .inr ⟨by decide, ⟨[0], 1, by decide, by decide, by decide⟩, fun p y hr hy => ?_⟩
  have h1 := (stepS_run hr).1
  rw [wayN_split, h1]
  cases p with
  | nil =>
    simp [runOps] at hr; subst hr
    exact absurd hy (by decide)
  | cons a q => rw [List.length_cons]; omega
theorem stepS_expF : expF stepT = (0, 0) := by unfold expF; rw [if_pos (by rw [stepT_ok]), stepT_reached]
theorem stepS_all : ([0, 1] : List Nat).Nodup ∧ (∀ x, x ∈ ([0, 1] : List Nat) ↔ ∃ q, runOps (wordsOf stepT.ops) (wd stepT.init) q = some x) := by
  have h := reached_some (ops := wordsOf stepT.ops) (s := wd stepT.init) stepT_reached
  refine ⟨h.1, fun x => (h.2.2.2 x).trans ⟨fun hx => ?_, fun ⟨q, hq⟩ => reach_run q .refl hq⟩⟩
  induction hx with
  | refl => exact ⟨[], rfl⟩
  | step _ hy ih =>
    obtain ⟨q, hq⟩ := ih
    obtain ⟨o, ho, rfl⟩ := List.mem_map.1 hy
    obtain ⟨ho, hc⟩ := List.mem_filter.1 ho
    obtain ⟨k, hk⟩ := List.mem_iff_getElem?.1 ho
    exact ⟨q ++ [k], runOps_snoc' hq hk hc⟩
theorem stepS_layers {out : List Int} (h : LayersIs (wordsOf stepT.ops) (wd stepT.init) out) : out = [1, 1] := by
  have h1 := lay_first h
  have h2 := lay_sum h stepS_all.1 stepS_all.2
  have h3 : ¬ 2 < out.length := fun hlt => by
    obtain ⟨S, _, g2, g3, _⟩ := h.1 2 _ (List.getElem?_eq_getElem hlt)
    obtain ⟨x, hx⟩ := List.exists_mem_of_ne_nil _ g2
    have := Dp.lt (l := [0, 1]) (fun q y hq => (stepS_all.2 y).2 ⟨q, hq⟩) ((g3 x).1 hx)
    simp at this
  cases out with
  | nil => simp at h1
  | cons a r =>
    simp at h1; subst h1
    cases r with
    | nil => simp at h2
    | cons b r2 =>
      cases r2 with
      | nil =>
        simp only [List.sum_cons, List.sum_nil, List.length_cons, List.length_nil] at h2
        have : b = 1 := by omega
        rw [this]
      | cons c r3 => simp at h3
theorem stepS_cheaper {k : Nat} (h : CntIs (wordsOf stepT.ops) (wd stepT.init) (fun p => (12289 : Int) < 0 ∨ (p : Int) < 12289) k) : k = 1 := by
  obtain ⟨S, h1, h2, h3⟩ := h
  have h0 : (0 : Nat) ∈ S := (h2 0).2 ⟨0, .inr (by decide), Pd.zero (ops := wordsOf stepT.ops) (s := wd stepT.init) (fun o ho => by
    have : o = (⟨0, 1, 0, 3⟩ : Wop) := by simpa [wordsOf, stepT, Opr.word, wd] using ho
    subst this; decide)⟩
  have h4 := nodup_sub h1 (r := [0]) (fun x hx => by
    obtain ⟨p, hp, ⟨q, hq, hw⟩, _⟩ := (h2 x).1 hx
    rw [wayN_split, (stepS_run hq).1] at hw
    have hl : q.length = 0 := by omega
    have : q = [] := List.length_eq_zero_iff.1 hl
    subst this
    cases hq; exact List.mem_singleton.2 rfl)
  have h5 := List.length_pos_iff.2 (List.ne_nil_of_mem h0)
  simp only [List.length_singleton] at h4
  omega
theorem Ints.pair {w : World} {b : Nat} {x y : Int} {T : TypeId} (h : w.heap[b]? = some (.cells #[.int .i64 x, .int .i64 y] T (0, 0))) : Ints w (.slice (some ⟨b, 0, none⟩) 2 2) [x, y] := by
  refine ⟨_, _, rfl, by simp [maxLen], fun _ => ⟨b, 0, rfl, fun j z hj => ?_⟩⟩
  rw [Nat.zero_add, cell_of_blk h]
  cases j with
  | zero => simpa using hj
  | succ j =>
    cases j with
    | zero => simpa using hj
    | succ j => simp at hj
theorem layersStep_any (w : World) (vi vg vo : Value) (h : TaskAt w vi vg vo stepT) :
    Calls Tryz.prog 8 #[.agg #[.int .i64 1, vi, vg, vo]] w fun e w' => ∃ v, e = .returned (.tuple #[v, fltV 0 0]) ∧ Ints w' v [1, 1] ∧ Keeps (fun _ => False) w w' := by
  refine (layers_any w vi vg vo stepT h).mono ?_
  rintro e w' ⟨hk, v, out, fc, fi, rfl, hi, hr⟩
  rcases hr with ⟨h1, h2, _⟩ | ⟨rfl, rfl, _, l, _, hl⟩
  · rw [stepS_expF] at h2; cases h2; exact absurd rfl h1
  · rw [stepS_layers hl] at hi
    exact ⟨v, rfl, hi, hk⟩
theorem splanStep_any (w : World) (vi vg vo : Value) (h : TaskAt w vi vg vo stepT) :
    Calls Tryz.prog 14 #[.agg #[.int .i64 1, vi, vg, vo]] w fun e w' => ∃ v, e = .returned (.tuple #[resV true v 3 1, fltV 0 0]) ∧ Ints w' v [0] ∧ Keeps (fun _ => False) w w' := by
  refine (splan_any w vi vg vo stepT h).mono ?_
  rintro e w' ⟨hk, fnd, vp, lp, c, n, fc, fi, rfl, hi, hr, hn⟩
  rcases hr with ⟨h1, h2, _⟩ | ⟨_, _, l, b, hx, hb, hr⟩
  · rw [stepS_expF] at h2; cases h2; exact absurd rfl h1
  · obtain rfl := LeastOf.unique hb stepS_least
    rcases hr with ⟨h1, _⟩ | ⟨_, rfl, rfl, hg⟩
    · exact absurd h1 (by decide)
    · obtain ⟨rfl, q, y, rfl, hrun, hacc, hlen, hcost, rfl⟩ := hg.some_ (by decide)
      have hz := (stepS_run hrun).2
      have hl : q.length = 1 := by omega
      obtain ⟨a, rfl⟩ := List.length_eq_one_iff.1 hl
      obtain rfl := hz a (by simp)
      obtain ⟨k, rfl, hc⟩ := hn rfl 12289 hb
      obtain rfl := stepS_cheaper hc
      exact ⟨vp, rfl, hi, hk⟩

set_option maxRecDepth 100000 in
set_option maxHeartbeats 2000000 in
theorem symExample_any (w : World) : Calls Tryz.prog 6 #[] w fun e w' => e = .returned (.bool true) ∧ Keeps (fun _ => False) w w' := by
  go_enter Tryz.func6, Tryz.ntmps6
  go_wp2_with fail
  refine (step_any _).mono ?_; rintro e w1 ⟨vi, vg, vo, rfl, ht, hk⟩
  have HT := Lib.hid ht; have K1 := Lib.hid hk
  clear ht hk
  go_wp2_with fail
  refine (layersStep_any _ _ _ _ HT.out).mono ?_; rintro e w2 ⟨vl, rfl, hp, hk⟩
  obtain ⟨al, cl, hvp, _⟩ := hp.form
  subst hvp
  simp only [fltV]
  have KA := (Keeps.refl (fun _ => False) w2).alloc (.cells #[.int .i64 0, .int .i64 0] 29)
  have HL3 := Lib.hid (hp.keeps0 KA); have K3 := Lib.hid ((K1.out.trans hk).trans KA)
  have F3 := Lib.hid (heap_alloc_new w2 (.cells #[.int .i64 0, .int .i64 0] 29))
  clear hp hk HT KA
  go_upto_region 2 with fail
  generalize w2.alloc (.cells #[.int .i64 0, .int .i64 0] 29) = w3 at HL3 K3 F3 ⊢
  generalize w2.heap.size = b3 at F3 ⊢
  go_wp2_with fail
  refine (step_any _).mono ?_; rintro e w4 ⟨vi2, vg2, vo2, rfl, ht, hk⟩
  have HT := Lib.hid ht; have K4 := Lib.hid (K3.out.trans hk); have HL4 := Lib.hid (HL3.out.keeps0 hk); have F4 := Lib.hid (hk.heap F3.out (fun h => h))
  clear ht hk
  go_wp2_with fail
  refine (splanStep_any _ _ _ _ HT.out).mono ?_; rintro e w5 ⟨vp, rfl, hp, hk⟩
  obtain ⟨ap, cp, hvp, _⟩ := hp.form
  subst hvp
  simp only [resV, fltV]
  have KA := (Keeps.refl (fun _ => False) w5).alloc (.cells #[.bool true, .slice ap 1 cp, .int .i64 3, .int .i64 1] 41)
  have KB := (Keeps.refl (fun _ => False) (w5.alloc (.cells #[.bool true, .slice ap 1 cp, .int .i64 3, .int .i64 1] 41))).alloc (.cells #[.int .i64 0, .int .i64 0] 29)
  have KC := hk.trans (KA.trans KB)
  have G6 := Lib.hid (KB.heap (heap_alloc_new w5 (.cells #[.bool true, .slice ap 1 cp, .int .i64 3, .int .i64 1] 41)) (fun h => h))
  have hf := heap_alloc_new (w5.alloc (.cells #[.bool true, .slice ap 1 cp, .int .i64 3, .int .i64 1] 41)) (.cells #[.int .i64 0, .int .i64 0] 29)
  rw [World.size_alloc] at hf
  have J6 := Lib.hid hf
  have HQ6 := Lib.hid (hp.keeps0 (KA.trans KB))
  have K6 := Lib.hid (K4.out.trans KC); have HL6 := Lib.hid (HL4.out.keeps0 KC); have F6 := Lib.hid (KC.heap F4.out (fun h => h))
  clear hp hk KA KB KC hf
  go_upto_region 3 with fail
  generalize (w5.alloc (.cells #[.bool true, .slice ap 1 cp, .int .i64 3, .int .i64 1] 41)).alloc (.cells #[.int .i64 0, .int .i64 0] 29) = w6 at G6 J6 HQ6 K6 HL6 F6 ⊢
  generalize w5.heap.size = b6 at G6 J6 ⊢
  obtain ⟨f0, f1, _, _, fl⟩ := pair_cells F6.out
  have KI := (Keeps.refl (fun _ => False) w6).alloc (.cells #[.int .i64 1, .int .i64 1] 3)
  have HI := Lib.hid (ints_any _ _ _ [1, 1] [1, 1] (HL6.out.keeps0 KI) (Ints.pair (heap_alloc_new w6 (.cells #[.int .i64 1, .int .i64 1] 3))))
  have HKI := Lib.hid KI
  clear KI
  go_wp2_with fail
  refine HI.out.mono ?_; rintro e w7 ⟨rfl, hk⟩
  have KC := HKI.out.trans hk
  have G7 := Lib.hid (KC.heap G6.out (fun h => h)); have J7 := Lib.hid (KC.heap J6.out (fun h => h)); have HQ7 := Lib.hid (HQ6.out.keeps0 KC); have K7 := Lib.hid (K6.out.trans KC)
  clear hk KC f0 f1 fl HI
  obtain ⟨g0, g1, g2, g3, gl⟩ := quad_cells G7.out
  obtain ⟨j0, j1, _, _, jl⟩ := pair_cells J7.out
  go_wp2_with fail
  refine (isOne_any _ _ 1 HQ7.out).mono ?_; rintro e w8 ⟨rfl, hk⟩
  have K8 := Lib.hid (K7.out.trans hk)
  have G8 := Lib.hid (hk.heap G7.out (fun h => h))
  clear hk g0 g1 g2 g3 gl j0 j1 jl
  obtain ⟨g0, g1, g2, g3, gl⟩ := quad_cells G8.out
  go_wp2_with fail
  go_ret
  exact ⟨rfl, K8.out⟩

end Go.Proofs.YtjcgkmodmjckjaaGreat

namespace Go.Proofs.YtjcgkmodmjckjaaGreat
open Go.RowKit

section
variable {w : World} {vi vg vo : Value} {t : Tsk}
theorem layers_bad (h : TaskAt w vi vg vo t) {c i : Int} (hc : c ≠ 0) (he : expF t = (c, i)) :
    Calls Tryz.prog 8 #[.agg #[.int .i64 t.n, vi, vg, vo]] w fun e w' => ∃ v, e = .returned (.tuple #[v, fltV c i]) ∧ Ints w' v [] ∧ Keeps (fun _ => False) w w' := by
  refine (layers_any w vi vg vo t h).mono ?_
  rintro e w' ⟨hk, v, out, fc, fi, rfl, hi, hr⟩
  rcases hr with ⟨h1, h2, rfl⟩ | ⟨_, _, ok, l, hx, _⟩
  · rw [he] at h2; cases h2; exact ⟨v, rfl, hi, hk⟩
  · exact (exp_none hc he ok hx).elim
theorem layers_good (h : TaskAt w vi vg vo t) (ok : t.Ok) {l : List Nat} (hx : explored t = some l) :
    Calls Tryz.prog 8 #[.agg #[.int .i64 t.n, vi, vg, vo]] w fun e w' => ∃ v out, e = .returned (.tuple #[v, fltV 0 0]) ∧ Ints w' v out ∧ LayersIs (wordsOf t.ops) (wd t.init) out ∧ Keeps (fun _ => False) w w' := by
  refine (layers_any w vi vg vo t h).mono ?_
  rintro e w' ⟨hk, v, out, fc, fi, rfl, hi, hr⟩
  rcases hr with ⟨h1, h2, _⟩ | ⟨rfl, rfl, _, l, _, hl⟩
  · exact (exp_none h1 h2 ok hx).elim
  · exact ⟨v, out, rfl, hi, hl, hk⟩
end
end Go.Proofs.YtjcgkmodmjckjaaGreat

namespace Go.Proofs.YtjcgkmodmjckjaaGreat
open Go.RowKit

/-- A price is the least of a run to its state. -/
theorem pri_way {ops : List Wop} {L : List Nat} (hsh : Shut ops L) {s i0 : Nat} {k st : Int} (hs : L[i0]? = some s) {d : List Int} (hA : ∀ a ∈ arcs ops L, 0 ≤ k * a.cost + st) (h : PriOk (arcs ops L) (fun a => k * a.cost + st) L.length i0 d) {j m : Nat} {z : Int} (hj : L[j]? = some m) (hz : d[j]? = some z) (hr : ∃ q, runOps ops s q = some m) :
    0 ≤ z ∧ (∃ q, runOps ops s q = some m ∧ wayN k st ops q = z) ∧ ∀ q, runOps ops s q = some m → z ≤ wayN k st ops q := by
  have hle : ∀ q, runOps ops s q = some m → 0 ≤ z ∧ z ≤ wayN k st ops q := fun q hq => by
    obtain ⟨j', hj', hw⟩ := walk_of_run hsh (k := k) (st := st) .nil hs hq
    obtain rfl : j' = j := nodup_ix hsh.1 hj' hj
    obtain ⟨_, x, hx, hx0, hxc⟩ := h.walk hA hw
    rw [hz] at hx; cases hx
    exact ⟨hx0, by omega⟩
  obtain ⟨q, hq⟩ := hr
  obtain ⟨p, y, hy, hp, hc⟩ := run_of_walk (h.real j z hz (hle q hq).1) hs
  rw [hj] at hy; cases hy
  exact ⟨(hle q hq).1, ⟨p, hp, hc⟩, fun q hq => (hle q hq).2⟩
theorem pri_pd {ops : List Wop} {L : List Nat} (hsh : Shut ops L) (h0 : CostsOk ops) {s i0 : Nat} (hs : L[i0]? = some s) {d : List Int} (h : PriOk (arcs ops L) (fun a => 4096 * a.cost + 1) L.length i0 d) {j m : Nat} {z : Int} (hj : L[j]? = some m) (hz : d[j]? = some z) (hr : ∃ q, runOps ops s q = some m) :
    0 ≤ z ∧ Pd ops s m z.toNat := by
  obtain ⟨h1, ⟨q, h2, h3⟩, h4⟩ := pri_way hsh hs (fun a ha => by
    obtain ⟨x, o, g1, g2, g3, g4, g5⟩ := mem_arcs.1 ha
    have := h0 o (List.mem_of_getElem? g2)
    rw [g4]; omega) h hj hz hr
  exact ⟨h1, ⟨q, h2, by omega⟩, fun q hq => by have := h4 q hq; omega⟩
def cheapTo (d : List Int) (b : Int) : Nat → Nat
  | 0 => 0
  | i + 1 => cheapTo d b i + if b < 0 ∨ d[i]?.getD 0 < b then 1 else 0
theorem cheapTo_le (d : List Int) (b : Int) : ∀ i, cheapTo d b i ≤ i
  | 0 => Nat.le_refl _
  | i + 1 => by have := cheapTo_le d b i; rw [cheapTo]; split <;> omega
theorem cheapTo_set {l : List Nat} (hl : l.Nodup) (d : List Int) (b : Int) : ∀ i, i ≤ l.length → ∃ S : List Nat, S.Nodup ∧ (∀ x, x ∈ S ↔ ∃ j, j < i ∧ l[j]? = some x ∧ (b < 0 ∨ d[j]?.getD 0 < b)) ∧ S.length = cheapTo d b i
  | 0, _ => ⟨[], List.nodup_nil, fun x => ⟨fun h => by simp at h, fun ⟨j, hj, _⟩ => by omega⟩, rfl⟩
  | i + 1, hi => by
    obtain ⟨S, h1, h2, h3⟩ := cheapTo_set hl d b i (by omega)
    obtain ⟨x, hx⟩ : ∃ x, l[i]? = some x := ⟨_, List.getElem?_eq_getElem (by omega)⟩
    rw [cheapTo]
    by_cases hc : b < 0 ∨ d[i]?.getD 0 < b
    · rw [if_pos hc]
      refine ⟨S ++ [x], List.nodup_append.2 ⟨h1, by simp, fun a ha c hac e => ?_⟩, fun y => ?_, by rw [List.length_append, h3]; rfl⟩
      · rw [List.mem_singleton] at hac
        subst e; subst hac
        obtain ⟨j, hj, hjx, _⟩ := (h2 a).1 ha
        have := nodup_ix hl hjx hx; omega
      · rw [List.mem_append, h2, List.mem_singleton]
        constructor
        · rintro (⟨j, hj, g1, g2⟩ | rfl)
          · exact ⟨j, by omega, g1, g2⟩
          · exact ⟨i, by omega, hx, hc⟩
        · rintro ⟨j, hj, g1, g2⟩
          by_cases e : j = i
          · subst e; rw [hx] at g1; cases g1; exact .inr rfl
          · exact .inl ⟨j, by omega, g1, g2⟩
    · rw [if_neg hc]
      refine ⟨S, h1, fun y => ?_, h3⟩
      rw [h2]
      constructor
      · rintro ⟨j, hj, g1, g2⟩; exact ⟨j, by omega, g1, g2⟩
      · rintro ⟨j, hj, g1, g2⟩
        by_cases e : j = i
        · subst e; exact absurd g2 hc
        · exact ⟨j, by omega, g1, g2⟩
theorem CntIs.unique {ops : List Wop} {s : Nat} {P : Nat → Prop} {m n : Nat} (h : CntIs ops s P m) (g : CntIs ops s P n) : m = n := by
  obtain ⟨S, h1, h2, h3⟩ := h
  obtain ⟨U, g1, g2, g3⟩ := g
  have a := nodup_sub h1 (r := U) (fun x hx => (g2 x).2 ((h2 x).1 hx))
  have b := nodup_sub g1 (r := S) (fun x hx => (h2 x).2 ((g2 x).1 hx))
  omega
theorem cheap_cnt {ops : List Wop} {L : List Nat} (hsh : Shut ops L) (h0 : CostsOk ops) {s i0 : Nat} (hs : L[i0]? = some s) {d : List Int} (h : PriOk (arcs ops L) (fun a => 4096 * a.cost + 1) L.length i0 d) (hr : ∀ x, x ∈ L ↔ ∃ q, runOps ops s q = some x) (b : Int) : CntIs ops s (fun p => b < 0 ∨ (p : Int) < b) (cheapTo d b L.length) := by
  obtain ⟨S, h1, h2, h3⟩ := cheapTo_set hsh.1 d b L.length (Nat.le_refl _)
  refine ⟨S, h1, fun x => ?_, h3⟩
  rw [h2]
  constructor
  · rintro ⟨j, hj, g1, g2⟩
    obtain ⟨z, hz⟩ : ∃ z, d[j]? = some z := ⟨_, List.getElem?_eq_getElem (by rw [h.len]; exact hj)⟩
    obtain ⟨k1, k2⟩ := pri_pd hsh h0 hs h g1 hz ((hr x).1 (List.mem_of_getElem? g1))
    rw [hz] at g2
    simp only [Option.getD_some] at g2
    exact ⟨z.toNat, by omega, k2⟩
  · rintro ⟨p, hp, hd⟩
    obtain ⟨⟨q, hq, _⟩, _⟩ := id hd
    obtain ⟨j, hj⟩ := List.mem_iff_getElem?.1 ((hr x).2 ⟨q, hq⟩)
    have hjl := (List.getElem?_eq_some_iff.1 hj).1
    obtain ⟨z, hz⟩ : ∃ z, d[j]? = some z := ⟨_, List.getElem?_eq_getElem (by rw [h.len]; exact hjl)⟩
    obtain ⟨k1, k2⟩ := pri_pd hsh h0 hs h hj hz ⟨q, hq⟩
    have := k2.unique hd
    refine ⟨j, hjl, hj, ?_⟩
    rw [hz]
    simp only [Option.getD_some]
    omega

set_option maxRecDepth 100000 in
set_option maxHeartbeats 4000000 in
theorem cheaper_any (w : World) (vi vg vo : Value) (t : Tsk) {l : List Nat} (h : TaskAt w vi vg vo t) (ok : t.Ok) (hx : explored t = some l) :
    Calls Tryz.prog 18 #[.agg #[.int .i64 t.n, vi, vg, vo]] w fun e w' => ∃ (b : Int) (k : Nat), e = .returned (.int .i64 (k : Int)) ∧ BestT t b ∧ CntIs (wordsOf t.ops) (wd t.init) (fun p => b < 0 ∨ (p : Int) < b) k ∧ Keeps (fun _ => False) w w' := by
  obtain ⟨ai, ci, h1, _⟩ := h.init.form
  obtain ⟨ag, cg, h2, _⟩ := h.goal.form
  obtain ⟨ao, co, h3, hmo⟩ := h.ops.form
  subst h1 h2 h3
  have HB := Lib.hid (Four.new w (.int .i64 t.n) (.slice ai t.init.length ci) (.slice ag t.goal.length cg) (.slice ao t.ops.length co) 25)
  have K1 := (Keeps.refl (fun _ => False) w).alloc (.cells #[.int .i64 t.n, .slice ai t.init.length ci, .slice ag t.goal.length cg, .slice ao t.ops.length co] 25)
  have HT := Lib.hid (h.keeps0 K1); have HK := Lib.hid K1
  have OK := Lib.hid ok; have HX := Lib.hid hx
  obtain ⟨_, _, _, hsh, hfew, _, _, n8⟩ := costs_need ok hx (List.Perm.refl l)
  have hrs := reached_some (ops := wordsOf t.ops) (s := wd t.init) (l := l) hx
  have HSH := Lib.hid hsh; have HR := Lib.hid hrs.2.2.2; have H0 := Lib.hid hrs.2.2.1
  have HG := Lib.hid (show ∀ x ∈ l, Good t.n x from fun x h => good_reach ok (good_wd (by have := ok.n1; omega) ok.init) ((hrs.2.2.2 x).1 h))
  have HAR := Lib.hid (show ∀ a ∈ arcs (wordsOf t.ops) l, a.frm < l.length ∧ a.to < l.length ∧ 0 ≤ a.cost ∧ a.cost ≤ 100 from fun a ha => by
    obtain ⟨x, o, g1, g2, g3, g4, g5⟩ := mem_arcs.1 ha
    have := ops_cost0 ok o (List.mem_of_getElem? g2)
    rw [g4]
    exact ⟨(List.getElem?_eq_some_iff.1 g1).1, (List.getElem?_eq_some_iff.1 g5).1, this⟩)
  have hl0 : 0 < l.length := List.length_pos_of_mem n8
  clear h K1 ok hx hsh n8 hrs
  go_enter Tryz.func18, Tryz.ntmps18
  go_upto_region 1 with fail
  generalize (w.alloc (.cells #[.int .i64 t.n, .slice ai t.init.length ci, .slice ag t.goal.length cg, .slice ao t.ops.length co] 25)) = w1 at HB HT HK ⊢
  generalize w.heap.size = bt at HB ⊢
  have hbx := HB.out.lt
  obtain ⟨d0, d1, d2, d3⟩ := HB.out
  go_wp2_with fail
  refine (reached_any _ _ _ _ t HT.out OK.out).mono ?_; rintro e w2 ⟨hk, hr⟩
  rcases hr with ⟨hn, _⟩ | ⟨l', hl', v, vw, vs, rfl, hrows⟩
  · exact absurd (hn.symm.trans HX.out) (by simp)
  obtain rfl : l = l' := by have := hl'.symm.trans HX.out; cases this; rfl
  have hli := hrows.lists
  obtain ⟨a5, c5, hv5, _⟩ := hli.form
  rw [List.length_map] at hv5
  subst hv5
  have HL2 := Lib.hid hli; have HB2 := Lib.hid (HB.out.keeps0 hk); have HT2 := Lib.hid (HT.out.keeps0 hk); have K2 := Lib.hid (HK.out.trans hk)
  clear hk hl' hrows hli d0 d1 d2 d3 hbx HB HT HK
  have hbx := HB2.out.lt
  obtain ⟨d0, d1, d2, d3⟩ := HB2.out
  go_wp2_with fail
  refine (arcs_any _ _ _ _ _ t l HT2.out OK.out HL2.out HG.out hfew).mono ?_; rintro e w3 ⟨va, rfl, hoa, hk⟩
  obtain ⟨aa, ca, haa⟩ := ownsRow_formS hoa
  subst haa
  have HA3 := Lib.hid hoa.at
  have HL3 := Lib.hid (HL2.out.keeps0 hk); have HB3 := Lib.hid (HB2.out.keeps0 hk); have HT3 := Lib.hid (HT2.out.keeps0 hk); have K3 := Lib.hid (K2.out.trans hk)
  clear hk hoa d0 d1 d2 d3 hbx HB2 HT2 K2 HL2
  go_wp2_with fail
  refine (prices_any _ _ _ (l.map facts) (arcs (wordsOf t.ops) l) 0 4096 1 HL3.out HA3.out (by rw [List.length_map]; omega) (by rw [List.length_map]; exact hl0) (by rw [List.length_map]; exact HAR.out) (by decide) (by decide) (by decide) (by decide)).mono ?_; rintro e w4 ⟨vp, d, rfl, hpo, hown, hk⟩
  rw [List.length_map] at hpo hown
  have HPO := Lib.hid hpo
  have hpl : d.length = l.length := hpo.len
  rw [← hpl] at hown
  obtain ⟨ap, cp, hv⟩ := ownsRow_form1 hown
  have HP4 := Lib.hid (Ints.of_own hown)
  rw [hpl] at hv
  subst hv
  have HL4 := Lib.hid (HL3.out.keeps0 hk); have HB4 := Lib.hid (HB3.out.keeps0 hk); have HT4 := Lib.hid (HT3.out.keeps0 hk); have K4 := Lib.hid (K3.out.trans hk)
  clear hk hown hpo HB3 HT3 K3 HL3 HA3
  have hbx := HB4.out.lt
  obtain ⟨d0, d1, d2, d3⟩ := HB4.out
  go_wp2_with fail
  refine (bestPlans_any _ _ _ _ t HT4.out OK.out HX.out).mono ?_; rintro e w5 ⟨b, rfl, hb, hk⟩
  obtain ⟨hb1, hb2⟩ := best_small OK.out HX.out hb
  have HBT := Lib.hid hb
  have HP5 := Lib.hid (HP4.out.keeps0 hk); have K5 := Lib.hid (K4.out.trans hk)
  clear hk hb d0 d1 d2 d3 hbx HB4 HT4 K4 HL4 HP4
  have HCP := Lib.hid (HP5.out.cell (show Value.slice ap l.length cp = .slice ap l.length cp from rfl))
  have HFIN := Lib.hid (cheap_cnt HSH.out (ops_cost0 OK.out) H0.out HPO.out (fun x => (HR.out x).trans ⟨fun hx => reach_path hx, fun ⟨q, hq⟩ => reach_run q .refl hq⟩) b)
  have HLEN := Lib.hid hpl
  clear hpl
  unfold bestV
  by_cases h0 : b < 0
  · rw [if_pos h0]
    have HN := Lib.hid (show ∀ i, cheapTo d b (i + 1) = cheapTo d b i + 1 from fun i => by rw [cheapTo, if_pos (.inl h0)])
    go_wp2_with fail
    go_loopw [9, 10] (fun v9 v10 wr => ∃ i : Nat, i ≤ l.length ∧ v9 = .int .i64 (cheapTo d b i : Int) ∧ v10 = .int .i64 (i : Int) ∧ Keeps (fun _ => False) w5 wr) (fun _ v10 _ => l.length - (intOf v10).toNat)
    case atStart => exact ⟨0, Nat.zero_le _, rfl, rfl, Keeps.refl _ _⟩
    case round =>
      obtain ⟨i, hi, rfl, rfl, hkr⟩ := hrel
      have HKR := Lib.hid hkr
      have hci := cheapTo_le d b i
      clear hkr
      by_cases hlt : i < l.length
      · have HE := Lib.hid (HN.out i)
        generalize cheapTo d b i = c at HE hci ⊢
        go_wp2_with fail
        go_roundw
        case rel => exact ⟨i + 1, by omega, by rw [HE.out]; go_num, by go_num, HKR.out⟩
        case measure => simp [intOf]; omega
      · have hie : i = l.length := by omega
        subst hie
        generalize hcc : cheapTo d b l.length = c at HFIN ⊢
        clear hcc hci
        go_wp2_with fail
        go_ret
        exact ⟨b, c, rfl, HBT.out, HFIN.out, K5.out.trans HKR.out⟩
  · rw [if_neg h0]
    have hbe : 4096 * (b / 4096) + b % 4096 = b := by omega
    have hq1 : 0 ≤ b / 4096 ∧ b / 4096 ≤ 1000000 := by omega
    have hq2 : 0 ≤ b % 4096 ∧ b % 4096 < 4096 := by omega
    generalize b / 4096 = bc at hbe hq1 ⊢
    generalize b % 4096 = bs at hbe hq2 ⊢
    go_wp2_with fail
    go_loopw [9, 10] (fun v9 v10 wr => ∃ i : Nat, i ≤ l.length ∧ v9 = .int .i64 (cheapTo d b i : Int) ∧ v10 = .int .i64 (i : Int) ∧ Keeps (fun _ => False) w5 wr) (fun _ v10 _ => l.length - (intOf v10).toNat)
    case atStart => exact ⟨0, Nat.zero_le _, rfl, rfl, Keeps.refl _ _⟩
    case round =>
      obtain ⟨i, hi, rfl, rfl, hkr⟩ := hrel
      have HKR := Lib.hid hkr
      have hci := cheapTo_le d b i
      clear hkr
      by_cases hlt : i < l.length
      · obtain ⟨z, hz⟩ : ∃ z, d[i]? = some z := ⟨_, List.getElem?_eq_getElem (by have := HLEN.out; omega)⟩
        obtain ⟨bp, op, rfl, hpc⟩ := HCP.out (by have := HLEN.out; omega)
        have q1 := HKR.out.cell (hpc i z hz) (fun h => h)
        have HN := Lib.hid (show cheapTo d b (i + 1) = cheapTo d b i + if b < 0 ∨ z < b then 1 else 0 from by rw [cheapTo, hz]; rfl)
        clear hpc hz
        generalize cheapTo d b i = c at HN hci ⊢
        by_cases hzb : z < b
        · have HE := Lib.hid (show cheapTo d b (i + 1) = c + 1 from by rw [HN.out, if_pos (.inr hzb)])
          have q2 : decide (z < b) = true := by simpa using hzb
          clear HN hzb
          go_wp2_with fail
          go_roundw
          case rel => exact ⟨i + 1, by omega, by rw [HE.out]; go_num, by go_num, HKR.out⟩
          case measure => simp [intOf]; omega
        · have HE := Lib.hid (show cheapTo d b (i + 1) = c from by rw [HN.out, if_neg (by omega)]; rfl)
          have q2 : decide (z < b) = false := by simpa using hzb
          clear HN hzb
          go_wp2_with fail
          go_roundw
          case rel => exact ⟨i + 1, by omega, by rw [HE.out], by go_num, HKR.out⟩
          case measure => simp [intOf]; omega
      · have hie : i = l.length := by omega
        subst hie
        generalize hcc : cheapTo d b l.length = c at HFIN ⊢
        clear hcc hci
        go_wp2_with fail
        go_ret
        exact ⟨b, c, rfl, HBT.out, HFIN.out, K5.out.trans HKR.out⟩

end Go.Proofs.YtjcgkmodmjckjaaGreat

namespace Go.Proofs.YtjcgkmodmjckjaaGreat
open Go.RowKit

def eqTo (d : List Int) (z : Int) : Nat → Nat
  | 0 => 0
  | i + 1 => eqTo d z i + if d[i]?.getD (-1) = z then 1 else 0
theorem eqTo_le (d : List Int) (z : Int) : ∀ i, eqTo d z i ≤ i
  | 0 => Nat.le_refl _
  | i + 1 => by have := eqTo_le d z i; rw [eqTo]; split <;> omega
theorem eqTo_set {l : List Nat} (hl : l.Nodup) (d : List Int) (z : Int) : ∀ i, i ≤ l.length → ∃ S : List Nat, S.Nodup ∧ (∀ x, x ∈ S ↔ ∃ j, j < i ∧ l[j]? = some x ∧ d[j]?.getD (-1) = z) ∧ S.length = eqTo d z i
  | 0, _ => ⟨[], List.nodup_nil, fun x => ⟨fun h => by simp at h, fun ⟨j, hj, _⟩ => by omega⟩, rfl⟩
  | i + 1, hi => by
    obtain ⟨S, h1, h2, h3⟩ := eqTo_set hl d z i (by omega)
    obtain ⟨x, hx⟩ : ∃ x, l[i]? = some x := ⟨_, List.getElem?_eq_getElem (by omega)⟩
    rw [eqTo]
    by_cases hc : d[i]?.getD (-1) = z
    · rw [if_pos hc]
      refine ⟨S ++ [x], List.nodup_append.2 ⟨h1, by simp, fun a ha c hac e => ?_⟩, fun y => ?_, by rw [List.length_append, h3]; rfl⟩
      · rw [List.mem_singleton] at hac
        subst e; subst hac
        obtain ⟨j, hj, hjx, _⟩ := (h2 a).1 ha
        have := nodup_ix hl hjx hx; omega
      · rw [List.mem_append, h2, List.mem_singleton]
        constructor
        · rintro (⟨j, hj, g1, g2⟩ | rfl)
          · exact ⟨j, by omega, g1, g2⟩
          · exact ⟨i, by omega, hx, hc⟩
        · rintro ⟨j, hj, g1, g2⟩
          by_cases e : j = i
          · subst e; rw [hx] at g1; cases g1; exact .inr rfl
          · exact .inl ⟨j, by omega, g1, g2⟩
    · rw [if_neg hc]
      refine ⟨S, h1, fun y => ?_, h3⟩
      rw [h2]
      constructor
      · rintro ⟨j, hj, g1, g2⟩; exact ⟨j, by omega, g1, g2⟩
      · rintro ⟨j, hj, g1, g2⟩
        by_cases e : j = i
        · subst e; exact absurd g2 hc
        · exact ⟨j, by omega, g1, g2⟩
theorem pri_dp {ops : List Wop} {L : List Nat} (hsh : Shut ops L) {s i0 : Nat} (hs : L[i0]? = some s) {d : List Int} (h : PriOk (arcs ops L) (fun a => 0 * a.cost + 1) L.length i0 d) {j m : Nat} {z : Int} (hj : L[j]? = some m) (hz : d[j]? = some z) (hr : ∃ q, runOps ops s q = some m) :
    0 ≤ z ∧ Dp ops s m z.toNat := by
  obtain ⟨h1, ⟨q, h2, h3⟩, h4⟩ := pri_way hsh hs (fun a _ => by omega) h hj hz hr
  have e : ∀ q, wayN 0 1 ops q = (q.length : Int) := fun q => by unfold wayN; omega
  rw [e] at h3
  exact ⟨h1, ⟨q, h2, by omega⟩, fun q hq => by have := h4 q hq; rw [e] at this; omega⟩
/-- So many states have the depth n. -/
theorem eq_cnt {ops : List Wop} {L : List Nat} (hsh : Shut ops L) {s i0 : Nat} (hs : L[i0]? = some s) {d : List Int} (h : PriOk (arcs ops L) (fun a => 0 * a.cost + 1) L.length i0 d) (hr : ∀ x, x ∈ L ↔ ∃ q, runOps ops s q = some x) (n : Nat) : ∃ S : List Nat, S.Nodup ∧ (∀ x, x ∈ S ↔ Dp ops s x n) ∧ S.length = eqTo d (n : Int) L.length := by
  obtain ⟨S, h1, h2, h3⟩ := eqTo_set hsh.1 d (n : Int) L.length (Nat.le_refl _)
  refine ⟨S, h1, fun x => ?_, h3⟩
  rw [h2]
  constructor
  · rintro ⟨j, hj, g1, g2⟩
    obtain ⟨z, hz⟩ : ∃ z, d[j]? = some z := ⟨_, List.getElem?_eq_getElem (by rw [h.len]; exact hj)⟩
    obtain ⟨k1, k2⟩ := pri_dp hsh hs h g1 hz ((hr x).1 (List.mem_of_getElem? g1))
    rw [hz] at g2
    simp only [Option.getD_some] at g2
    subst g2
    exact k2
  · intro hd
    obtain ⟨⟨q, hq, _⟩, _⟩ := id hd
    obtain ⟨j, hj⟩ := List.mem_iff_getElem?.1 ((hr x).2 ⟨q, hq⟩)
    have hjl := (List.getElem?_eq_some_iff.1 hj).1
    obtain ⟨z, hz⟩ : ∃ z, d[j]? = some z := ⟨_, List.getElem?_eq_getElem (by rw [h.len]; exact hjl)⟩
    obtain ⟨k1, k2⟩ := pri_dp hsh hs h hj hz ⟨q, hq⟩
    have := k2.unique hd
    refine ⟨j, hjl, hj, ?_⟩
    rw [hz]
    simp only [Option.getD_some]
    omega
/-- The count at the price n is the layer's number, or none behind the last layer. -/
theorem lay_count {ops : List Wop} {L : List Nat} (hsh : Shut ops L) {s i0 : Nat} (hs : L[i0]? = some s) {d : List Int} (h : PriOk (arcs ops L) (fun a => 0 * a.cost + 1) L.length i0 d) (hr : ∀ x, x ∈ L ↔ ∃ q, runOps ops s q = some x) {out : List Int} (hl : LayersIs ops s out) {n : Nat} :
    (∀ c, out[n]? = some c → (eqTo d (n : Int) L.length : Int) = c) ∧ (out.length ≤ n → eqTo d (n : Int) L.length = 0) := by
  obtain ⟨S, h1, h2, h3⟩ := eq_cnt hsh hs h hr n
  constructor
  · intro c hc
    obtain ⟨U, g1, _, g3, g4⟩ := hl.1 n c hc
    have a := nodup_sub h1 (r := U) (fun x hx => (g3 x).2 ((h2 x).1 hx))
    have b := nodup_sub g1 (r := S) (fun x hx => (h2 x).2 ((g3 x).1 hx))
    omega
  · intro hn
    rw [← h3]
    refine List.length_eq_zero_iff.2 (List.eq_nil_iff_forall_not_mem.2 fun x hx => ?_)
    have := hl.2 x n ((h2 x).1 hx)
    omega
theorem lay_few {ops : List Wop} {s : Nat} {out : List Int} (h : LayersIs ops s out) {l : List Nat} (hl : ∀ q y, runOps ops s q = some y → y ∈ l) : out.length ≤ l.length := by
  refine Nat.le_of_not_lt fun hlt => ?_
  obtain ⟨S, _, g2, g3, _⟩ := h.1 l.length _ (List.getElem?_eq_getElem hlt)
  obtain ⟨x, hx⟩ := List.exists_mem_of_ne_nil _ g2
  have := Dp.lt hl ((g3 x).1 hx)
  omega

set_option maxRecDepth 100000 in
set_option maxHeartbeats 1000000 in
theorem symLayLaw_any (w : World) (vi vg vo : Value) (t : Tsk) (h : TaskAt w vi vg vo t) :
    Calls Tryz.prog 3 #[.agg #[.int .i64 t.n, vi, vg, vo]] w fun e w' => e = .returned (.bool true) ∧ Keeps (fun _ => False) w w' := by
  obtain ⟨ai, ci, h1, _⟩ := h.init.form
  obtain ⟨ag, cg, h2, _⟩ := h.goal.form
  obtain ⟨ao, co, h3, hmo⟩ := h.ops.form
  subst h1 h2 h3
  have HB := Lib.hid (Four.new w (.int .i64 t.n) (.slice ai t.init.length ci) (.slice ag t.goal.length cg) (.slice ao t.ops.length co) 25)
  have K1 := (Keeps.refl (fun _ => False) w).alloc (.cells #[.int .i64 t.n, .slice ai t.init.length ci, .slice ag t.goal.length cg, .slice ao t.ops.length co] 25)
  have HT := Lib.hid (h.keeps0 K1); have HK := Lib.hid K1
  obtain ⟨j0, hj0, jz0, jz1, jz2⟩ := info_parts Tryz.info3
  clear h K1
  go_enter Tryz.func3, Tryz.ntmps3
  go_upto_region 1 with fail
  generalize (w.alloc (.cells #[.int .i64 t.n, .slice ai t.init.length ci, .slice ag t.goal.length cg, .slice ao t.ops.length co] 25)) = w1 at HB HT HK ⊢
  generalize w.heap.size = bt at HB ⊢
  go_wp2_with fail
  refine (symExample_any _).mono ?_; rintro e w2 ⟨rfl, hk⟩
  have HB1 := Lib.hid (HB.out.keeps0 hk); have HT1 := Lib.hid (HT.out.keeps0 hk); have HK1 := Lib.hid (HK.out.trans hk)
  clear HB HT HK
  clear hk
  have hbxd := HB1.out.lt
  obtain ⟨d0, d1, d2, d3⟩ := HB1.out
  go_wp2_with fail
  refine (wide_any _ _ _ _ t HT1.out).mono ?_; rintro e w3 ⟨rfl, hk⟩
  clear hbxd d0 d1 d2 d3
  have HB2 := Lib.hid (HB1.out.keeps0 hk); have HT2 := Lib.hid (HT1.out.keeps0 hk); have HK2 := Lib.hid (HK1.out.trans hk)
  clear HB1 HT1 HK1
  clear hk
  cases hwd : wideB t with
  | true =>
    go_wp2_with fail
    go_ret
    exact ⟨rfl, HK2.out⟩
  | false =>
    clear hwd
    rcases exp_cases t with ⟨c, i, hc, he⟩ | ⟨hok, l, hx, he⟩
    ·
      have HC := Lib.hid hc; have HE := Lib.hid he
      have hcb : (c != 0) = true := by simpa using hc
      have hcc : (c == c) = true := by simp
      have hii : (i == i) = true := by simp
      clear hc he
      have hbxd := HB2.out.lt
      obtain ⟨d0, d1, d2, d3⟩ := HB2.out
      go_wp2_with fail
      refine (layers_bad HT2.out HC.out HE.out).mono ?_; rintro e y1 ⟨v1, rfl, hr, hk⟩
      obtain ⟨a1, c1, hv, _⟩ := hr.form
      subst hv
      clear hbxd d0 d1 d2 d3
      simp only [fltV]
      have KA := (Keeps.refl (fun _ => False) y1).alloc (.cells #[.int .i64 c, .int .i64 i] 29)
      have KB := hk.trans KA
      have HB3 := Lib.hid (HB2.out.keeps0 KB); have HT3 := Lib.hid (HT2.out.keeps0 KB); have HK3 := Lib.hid (HK2.out.trans KB)
      clear HB2 HT2 HK2
      have F1 := Lib.hid (heap_alloc_new y1 (.cells #[.int .i64 c, .int .i64 i] 29))
      clear hk KA KB
      go_upto_region 6 with fail
      generalize y1.alloc (.cells #[.int .i64 c, .int .i64 i] 29) = z1 at HB3 HT3 HK3 F1 ⊢
      generalize y1.heap.size = b1 at F1 ⊢
      clear hr
      have hbxd := HB3.out.lt
      obtain ⟨d0, d1, d2, d3⟩ := HB3.out
      go_wp2_with fail
      refine (explored_any _ _ _ _ t HT3.out).mono ?_; rintro e y2 ⟨rfl, hk⟩
      rw [HE.out]
      clear hbxd d0 d1 d2 d3
      have KA := (Keeps.refl (fun _ => False) y2).alloc (.cells #[.int .i64 c, .int .i64 i] 29)
      have KB := hk.trans KA
      have HB4 := Lib.hid (HB3.out.keeps0 KB); have HT4 := Lib.hid (HT3.out.keeps0 KB); have HK4 := Lib.hid (HK3.out.trans KB); have F11 := Lib.hid (KB.heap F1.out (fun h => h))
      clear HB3 HT3 HK3 F1
      have F2 := Lib.hid (heap_alloc_new y2 (.cells #[.int .i64 c, .int .i64 i] 29))
      clear hk KA KB
      go_upto_region 7 with fail
      generalize y2.alloc (.cells #[.int .i64 c, .int .i64 i] 29) = z2 at HB4 HT4 HK4 F11 F2 ⊢
      generalize y2.heap.size = b2 at F2 ⊢
      obtain ⟨p1, q1, r1, s1, l1⟩ := pair_cells F11.out
      clear r1 s1
      obtain ⟨p2, q2, r2, s2, l2⟩ := pair_cells F2.out
      clear r2 s2
      go_wp2_with fail
      go_ret
      exact ⟨by simp, HK4.out⟩
    ·
      have OK := Lib.hid hok; have HX := Lib.hid hx; have HE := Lib.hid he
      clear hok hx he
      have hbxd := HB2.out.lt
      obtain ⟨d0, d1, d2, d3⟩ := HB2.out
      go_wp2_with fail
      refine (layers_good HT2.out OK.out HX.out).mono ?_; rintro e y1 ⟨v1, out, rfl, hr, hlay, hk⟩
      have HLY := Lib.hid hlay
      obtain ⟨a1, c1, hv, hmx⟩ := hr.form
      subst hv
      clear hbxd d0 d1 d2 d3
      simp only [fltV]
      have KA := (Keeps.refl (fun _ => False) y1).alloc (.cells #[.int .i64 0, .int .i64 0] 29)
      have KB := hk.trans KA
      have HB3 := Lib.hid (HB2.out.keeps0 KB); have HT3 := Lib.hid (HT2.out.keeps0 KB); have HK3 := Lib.hid (HK2.out.trans KB)
      clear HB2 HT2 HK2
      have F1 := Lib.hid (heap_alloc_new y1 (.cells #[.int .i64 0, .int .i64 0] 29))
      have V1 := Lib.hid (hr.keeps0 KA)
      clear hk KA KB
      go_upto_region 6 with fail
      generalize y1.alloc (.cells #[.int .i64 0, .int .i64 0] 29) = z1 at HB3 HT3 HK3 F1 V1 ⊢
      generalize y1.heap.size = b1 at F1 ⊢
      clear hr hlay
      have hbxd := HB3.out.lt
      obtain ⟨d0, d1, d2, d3⟩ := HB3.out
      go_wp2_with fail
      refine (explored_any _ _ _ _ t HT3.out).mono ?_; rintro e y2 ⟨rfl, hk⟩
      rw [HE.out]
      clear hbxd d0 d1 d2 d3
      have KA := (Keeps.refl (fun _ => False) y2).alloc (.cells #[.int .i64 0, .int .i64 0] 29)
      have KB := hk.trans KA
      have HB4 := Lib.hid (HB3.out.keeps0 KB); have HT4 := Lib.hid (HT3.out.keeps0 KB); have HK4 := Lib.hid (HK3.out.trans KB); have F11 := Lib.hid (KB.heap F1.out (fun h => h)); have V11 := Lib.hid (V1.out.keeps0 KB)
      clear HB3 HT3 HK3 F1 V1
      have F2 := Lib.hid (heap_alloc_new y2 (.cells #[.int .i64 0, .int .i64 0] 29))
      clear hk KA KB
      go_upto_region 7 with fail
      generalize y2.alloc (.cells #[.int .i64 0, .int .i64 0] 29) = z2 at HB4 HT4 HK4 F11 V11 F2 ⊢
      generalize y2.heap.size = b2 at F2 ⊢
      obtain ⟨p2, q2, r2, s2, l2⟩ := pair_cells F2.out
      clear r2 s2
      obtain ⟨_, _, _, hsh, hfew, _, _, n8⟩ := costs_need OK.out HX.out (List.Perm.refl l)
      have HRS := Lib.hid (reached_some (ops := wordsOf t.ops) (s := wd t.init) (l := l) HX.out)
      have HRE := Lib.hid (show ∀ q y, runOps (wordsOf t.ops) (wd t.init) q = some y → y ∈ l from fun q y h => (HRS.out.2.2.2 y).2 (reach_run q .refl h))
      have HSH := Lib.hid hsh
      have HG := Lib.hid (show ∀ x ∈ l, Good t.n x from fun x h => good_reach OK.out (good_wd (by have := OK.out.n1; omega) OK.out.init) ((HRS.out.2.2.2 x).1 h))
      have HAR := Lib.hid (show ∀ a ∈ arcs (wordsOf t.ops) l, a.frm < l.length ∧ a.to < l.length ∧ 0 ≤ a.cost ∧ a.cost ≤ 100 from fun a ha => by
        obtain ⟨x, o, g1, g2, g3, g4, g5⟩ := mem_arcs.1 ha
        have := ops_cost0 OK.out o (List.mem_of_getElem? g2)
        rw [g4]
        exact ⟨(List.getElem?_eq_some_iff.1 g1).1, (List.getElem?_eq_some_iff.1 g5).1, this⟩)
      have hl0 : 0 < l.length := List.length_pos_of_mem n8
      have holn := lay_few HLY.out HRE.out
      clear hsh n8
      have hbxd := HB4.out.lt
      obtain ⟨d0, d1, d2, d3⟩ := HB4.out
      go_wp2_with fail
      refine (reached_any _ _ _ _ t HT4.out OK.out).mono ?_; rintro e w5 ⟨hk, hr⟩
      rcases hr with ⟨hn, _⟩ | ⟨l', hl', v, vw, vs, rfl, hrows⟩
      · exact absurd (hn.symm.trans HX.out) (by simp)
      obtain rfl : l = l' := by have := hl'.symm.trans HX.out; cases this; rfl
      have hli := hrows.lists
      obtain ⟨a5, c5, hv5, _⟩ := hli.form
      rw [List.length_map] at hv5
      subst hv5
      clear hbxd d0 d1 d2 d3
      clear q2 l2
      have HB5 := Lib.hid (HB4.out.keeps0 hk); have HT5 := Lib.hid (HT4.out.keeps0 hk); have HK5 := Lib.hid (HK4.out.trans hk); have F12 := Lib.hid (hk.heap F11.out (fun h => h)); have V12 := Lib.hid (V11.out.keeps0 hk); have F21 := Lib.hid (hk.heap F2.out (fun h => h))
      clear HB4 HT4 HK4 F11 V11 F2
      have HL := Lib.hid (hli)
      clear hk hl' hrows hli
      try clear p2
      have hbxd := HB5.out.lt
      obtain ⟨d0, d1, d2, d3⟩ := HB5.out
      go_wp2_with fail
      refine (arcs_any _ _ _ _ _ t l HT5.out OK.out HL.out HG.out hfew).mono ?_; rintro e w6 ⟨va, rfl, hoa, hk⟩
      obtain ⟨aa, ca, haa⟩ := ownsRow_formS hoa
      subst haa
      have HA3 := Lib.hid hoa.at
      clear hbxd d0 d1 d2 d3
      have HB6 := Lib.hid (HB5.out.keeps0 hk); have HT6 := Lib.hid (HT5.out.keeps0 hk); have HK6 := Lib.hid (HK5.out.trans hk); have F13 := Lib.hid (hk.heap F12.out (fun h => h)); have V13 := Lib.hid (V12.out.keeps0 hk); have F22 := Lib.hid (hk.heap F21.out (fun h => h)); have HL1 := Lib.hid (HL.out.keeps0 hk)
      clear HB5 HT5 HK5 F12 V12 F21 HL
      clear hk hoa
      go_wp2_with fail
      refine (prices_any _ _ _ (l.map facts) (arcs (wordsOf t.ops) l) 0 0 1 HL1.out HA3.out (by rw [List.length_map]; omega) (by rw [List.length_map]; exact hl0) (by rw [List.length_map]; exact HAR.out) (by decide) (by decide) (by decide) (by decide)).mono ?_; rintro e w8 ⟨vp, d, rfl, hpo, hown, hk⟩
      rw [List.length_map] at hpo hown
      have HPO := Lib.hid hpo
      have hpl : d.length = l.length := hpo.len
      rw [← hpl] at hown
      obtain ⟨ap, cp, hv⟩ := ownsRow_form1 hown
      have HP4 := Lib.hid (Ints.of_own hown)
      rw [hpl] at hv
      subst hv
      have HB7 := Lib.hid (HB6.out.keeps0 hk); have HT7 := Lib.hid (HT6.out.keeps0 hk); have HK7 := Lib.hid (HK6.out.trans hk); have F14 := Lib.hid (hk.heap F13.out (fun h => h)); have V14 := Lib.hid (V13.out.keeps0 hk); have F23 := Lib.hid (hk.heap F22.out (fun h => h)); have HL2 := Lib.hid (HL1.out.keeps0 hk)
      clear HB6 HT6 HK6 F13 V13 F22 HL1
      clear hk hown hpo HA3
      have HCP := Lib.hid (HP4.out.cell (show Value.slice ap l.length cp = .slice ap l.length cp from rfl))
      have HLEN := Lib.hid hpl
      have HCNT := Lib.hid (fun n => lay_count HSH.out HRS.out.2.2.1 HPO.out (fun x => (HRS.out.2.2.2 x).trans ⟨fun hx => reach_path hx, fun ⟨q, hq⟩ => reach_run q .refl hq⟩) HLY.out (n := n))
      clear hpl
      go_wp2_with fail
      go_loopw [9, 10] (fun v9 v10 wr => ∃ n : Nat, n ≤ out.length + 1 ∧ v10 = .int .i64 (n : Int) ∧ wr.ownsRow w8.heap.size 3 1 v9 (out.take n).length ((out.take n).map (Value.int .i64)) ∧ Keeps (fun _ => False) w8 wr) (fun _ v10 _ => out.length + 1 - (intOf v10).toNat)
      case atStart => exact ⟨0, Nat.zero_le _, rfl, by simpa using World.ownsRow_nil _ _ _ _, Keeps.refl _ _⟩
      case round =>
        obtain ⟨n, hn, rfl, hown, hkr⟩ := hrel
        have HKR := Lib.hid hkr; have HO := Lib.hid hown
        have hsz := hkr.size
        obtain ⟨av, cv, hv⟩ := ownsRow_form1 hown
        subst hv
        clear hown hkr
        by_cases hlt : n ≤ out.length
        · have htk : (out.take n).length = n := by rw [List.length_take]; omega
          have h1 := HO.out
          rw [htk] at h1
          rw [htk]
          have HON := Lib.hid h1
          have HTK := Lib.hid htk
          clear htk h1 HO
          go_wp2_with fail
          go_loopw [11, 12] (fun v11 v12 wq => ∃ i : Nat, i ≤ l.length ∧ v11 = .int .i64 (eqTo d (n : Int) i : Int) ∧ v12 = .int .i64 (i : Int) ∧ wq.ownsRow w8.heap.size 3 1 (.slice av n cv) n ((out.take n).map (Value.int .i64)) ∧ Keeps (fun _ => False) w8 wq) (fun _ v12 _ => l.length - (intOf v12).toNat)
          case atStart => exact ⟨0, Nat.zero_le _, rfl, rfl, HON.out, HKR.out⟩
          case round =>
            obtain ⟨i, hi, rfl, rfl, hown2, hkr2⟩ := hrel
            have HK2 := Lib.hid hkr2; have HO2 := Lib.hid hown2
            have hsz2 := hkr2.size
            have hci := eqTo_le d (n : Int) i
            clear hown2 hkr2
            by_cases hil : i < l.length
            · obtain ⟨z, hz⟩ : ∃ z, d[i]? = some z := ⟨_, List.getElem?_eq_getElem (by have := HLEN.out; omega)⟩
              obtain ⟨bp, op, rfl, hpc⟩ := HCP.out (by have := HLEN.out; omega)
              have q1 := HK2.out.cell (hpc i z hz) (fun h => h)
              have HN := Lib.hid (show eqTo d (n : Int) (i + 1) = eqTo d (n : Int) i + if z = (n : Int) then 1 else 0 from by rw [eqTo, hz]; rfl)
              clear hpc hz
              generalize eqTo d (n : Int) i = k at HN hci ⊢
              by_cases hzn : z = (n : Int)
              · have HEQ := Lib.hid (show eqTo d (n : Int) (i + 1) = k + 1 from by rw [HN.out, if_pos hzn])
                have qe : (z == (n : Int)) = true := by simpa using hzn
                clear HN hzn
                go_wp2_with fail
                go_roundw
                case rel => exact ⟨i + 1, by omega, by rw [HEQ.out]; go_num, by go_num, HO2.out, HK2.out⟩
                case measure => simp [intOf]; omega
              · have HEQ := Lib.hid (show eqTo d (n : Int) (i + 1) = k from by rw [HN.out, if_neg hzn]; rfl)
                have qe : (z == (n : Int)) = false := by simpa using hzn
                clear HN hzn
                go_wp2_with fail
                go_roundw
                case rel => exact ⟨i + 1, by omega, by rw [HEQ.out], by go_num, HO2.out, HK2.out⟩
                case measure => simp [intOf]; omega
            · have hie : i = l.length := by omega
              subst hie
              obtain ⟨hc1, hc2⟩ := HCNT.out n
              by_cases hno : n < out.length
              · obtain ⟨c, hc⟩ : ∃ c, out[n]? = some c := ⟨_, List.getElem?_eq_getElem hno⟩
                have hce := hc1 c hc
                have hcp := lay_pos HLY.out hc
                have HTN := Lib.hid (show out.take (n + 1) = out.take n ++ [c] from take_getS hc)
                rw [hce]
                have qp : decide ((0 : Int) < c) = true := by simpa using hcp
                have hlen : n ≤ 2000 := by omega
                clear hc1 hc2 hce hc hil
                go_wp2_with (at_builtin; refine wpList_append_lies _ rfl _ _ _ rfl w8.heap.size 3 j0 _ 1 8 Tryz.underlying22 hj0 jz0 jz1 jz2 rfl (by omega) _ n ((out.take n).map (Value.int .i64)) (by rfl) (World.ownsRow.alloc (o := .cells #[.int .i64 c] 3) HO2.out) ⟨wr.heap.size, 0, none⟩ 1 1 [.int .i64 c] (by rfl) (by rfl) ?hnews ?hone (by omega) (by unfold maxLen; omega) (by omega) (by simp; omega) (wr.heap.size + 1) (by simp) ?_)
                case hnews => exact World.news_of_block (cs := #[.int .i64 c]) (t := 3) (fr := (0, 0)) (heap_alloc_new _ _)
                case hone => simp [Value.oneCell']
                intro g cap2 w11 hown hgrow hat hlt11
                have HKN := Lib.hid (own_grown HO2.out HK2.out ((Keeps.refl (fun _ => False) _).alloc (.cells #[.int .i64 c] 3)) hgrow)
                have HON2 := Lib.hid (show w11.ownsRow w8.heap.size 3 1 (.slice (some ⟨g, 0, none⟩) (n + 1) cap2) (out.take (n + 1)).length ((out.take (n + 1)).map (Value.int .i64)) from by
                  rw [HTN.out, List.length_append, List.map_append, HTK.out, List.map_take]; exact hown)
                clear hown hgrow hat hlt11
                go_wp2_with fail
                go_roundw
                case rel => exact ⟨n + 1, by omega, by go_num, HON2.out, HKN.out⟩
                case measure => simp [intOf]; omega
              · have hce := hc2 (by omega)
                rw [hce]
                have HTN := Lib.hid (show out.take (n + 1) = out.take n from by rw [List.take_of_length_le (by omega), List.take_of_length_le (by omega)])
                clear hc1 hc2 hce hil
                go_wp2_with fail
                go_roundw
                case rel => exact ⟨n + 1, by omega, by go_num, by rw [HTN.out, HTK.out]; exact HO2.out, HK2.out⟩
                case measure => simp [intOf]; omega
        · have htk : out.take n = out := List.take_of_length_le (by omega)
          have hbe : (out.length == n) = false := by simp; omega
          have hbe2 : ((out.length : Int) == (n : Int)) = false := by simp; omega
          rw [htk]
          have h1 := HO.out
          rw [htk] at h1
          have HWT := Lib.hid (show Ints wr (.slice av out.length cv) out from Sl.of_own h1)
          clear h1 HO
          have HIC := Lib.hid (ints_any wr _ _ out out (V14.out.keeps0 HKR.out) HWT.out)
          have HF1 := Lib.hid (HKR.out.heap F14.out (fun h => h))
          obtain ⟨p1, _, _, _, l1⟩ := pair_cells HF1.out
          clear htk
          go_wp2_with fail
          refine HIC.out.mono ?_; rintro e w12 ⟨rfl, hk⟩
          have HKZ := Lib.hid ((HK7.out.trans HKR.out).trans hk)
          clear hk
          go_wp2_with fail
          go_ret
          exact ⟨by simp, HKZ.out⟩

end Go.Proofs.YtjcgkmodmjckjaaGreat

namespace Go.Proofs.YtjcgkmodmjckjaaGreat
open Go.RowKit

theorem in_true (w : World) (x lo hi : Int) (h : inB x lo hi = true) : Calls Tryz.prog 52 #[.int .i64 x, .int .i64 lo, .int .i64 hi] w fun e w' => e = .returned (.bool true) ∧ w' = w :=
  (in_any w x lo hi).mono fun _ _ k => ⟨by rw [k.1, h], k.2.symm⟩

end Go.Proofs.YtjcgkmodmjckjaaGreat
