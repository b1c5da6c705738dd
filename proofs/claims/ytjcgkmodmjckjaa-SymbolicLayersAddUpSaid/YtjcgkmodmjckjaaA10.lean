/- symbolic.Plan. What the numbers of the layers say, in plain Lean. noResult, isOne, StateFault of the reference. symbolic: the example of the laws. symbolic: SymbolicLayersAddUp and SymbolicPlansLieInLayers walked. No condition beyond what each theorem says. -/
import Derived.Test.YtjcgkmodmjckjaaA9
import Derived.Test.YtjcgkmodmjckjaaA7
import Derived.Test.YtjcgkmodmjckjaaA4
import Derived.Test.YtjcgkmodmjckjaaA5

namespace Go.Proofs.Ytjcgkmodmjckjaa
open Go.RowKit

set_option maxRecDepth 100000 in
set_option maxHeartbeats 8000000 in
theorem splan_any (w : World) (vi vg vo : Value) (t : Tsk) (h : TaskAt w vi vg vo t) :
    Calls Try.prog 10 #[.agg #[.int .i64 t.n, vi, vg, vo]] w (SPlanPost t w) := by
  obtain ⟨ai, ci, h1, _⟩ := h.init.form
  obtain ⟨ag, cg, h2, _⟩ := h.goal.form
  obtain ⟨ao, co, h3, hmo⟩ := h.ops.form
  have hmm := @run_makeMap Try.prog
  have K1 := (Keeps.refl (fun _ => False) w).alloc (.cells #[.int .i64 t.n, vi, vg, vo] 25)
  have KA := (Keeps.refl (fun _ => False) (w.alloc (.cells #[.int .i64 t.n, vi, vg, vo] 25))).alloc (.cells #[.bool false, .slice none 0 0, .int .i64 0, .int .i64 0] 39)
  have KB := (Keeps.refl (fun _ => False) ((w.alloc (.cells #[.int .i64 t.n, vi, vg, vo] 25)).alloc (.cells #[.bool false, .slice none 0 0, .int .i64 0, .int .i64 0] 39))).alloc (.cells #[.int .i64 0, .int .i64 0] 28)
  have HB := Lib.hid ((Four.new w (.int .i64 t.n) vi vg vo 25).keeps0 (KA.trans KB))
  have hr := KB.heap (heap_alloc_new (w.alloc (.cells #[.int .i64 t.n, vi, vg, vo] 25)) (.cells #[.bool false, .slice none 0 0, .int .i64 0, .int .i64 0] 39)) (fun h => h)
  have hf : Flt w _ _ 28 := ⟨heap_alloc_new ((w.alloc (.cells #[.int .i64 t.n, vi, vg, vo] 25)).alloc (.cells #[.bool false, .slice none 0 0, .int .i64 0, .int .i64 0] 39)) (.cells #[.int .i64 0, .int .i64 0] 28), by simp; omega, K1.trans (KA.trans KB)⟩
  have HT := Lib.hid (h.keeps0 (K1.trans (KA.trans KB)))
  rw [World.size_alloc] at hr hf
  rw [World.size_alloc] at hf
  have HR := Lib.hid (show RFl w _ (w.heap.size + 1) (w.heap.size + 1 + 1) from ⟨hr, hf, by omega, by omega⟩)
  subst h1 h2 h3
  clear h K1 KA KB hr hf
  go_enter Try.func10, Try.ntmps10
  go_upto_region 1 with fail
  generalize ((w.alloc (.cells #[.int .i64 t.n, .slice ai t.init.length ci, .slice ag t.goal.length cg, .slice ao t.ops.length co] 25)).alloc (.cells #[.bool false, .slice none 0 0, .int .i64 0, .int .i64 0] 39)).alloc (.cells #[.int .i64 0, .int .i64 0] 28) = w1 at HB HR HT ⊢
  have hbx := HB.out.lt
  obtain ⟨d0, d1, d2, d3⟩ := HB.out
  go_wp2_with fail
  refine (checked_any _ _ _ _ t HT.out).mono ?_; rintro e w2 ⟨hk, hr⟩
  have HR2 := Lib.hid (HR.out.keeps0 hk); have HB2 := Lib.hid (HB.out.keeps0 hk); have HT2 := Lib.hid (HT.out.keeps0 hk)
  clear d0 d1 d2 d3 hk hbx HR HB HT
  rcases hr with ⟨hc, rfl⟩ | ⟨hok, hx, rfl⟩ | ⟨hok, l, hx, b, v, vl, ws, rfl, hw, hperm, hord, hown⟩
  · have hc2 : ((taskFault t).1 == 0) = false := by simpa using hc
    have NF := Lib.hid (expF_bad hc)
    have HCC := Lib.hid hc
    clear hc
    generalize hfe : taskFault t = f at hc2 HCC NF ⊢
    clear hfe
    have KA := (Keeps.refl (fun _ => False) w2).alloc (.cells #[.int .i64 f.1, .int .i64 f.2] 28)
    have HR4 := Lib.hid (HR2.out.keeps0 KA)
    have HFZ := Lib.hid (heap_alloc_new w2 (.cells #[.int .i64 f.1, .int .i64 f.2] 28))
    clear KA HR2 HB2 HT2
    go_upto_region 2 with fail
    generalize w2.alloc (.cells #[.int .i64 f.1, .int .i64 f.2] 28) = wz at HR4 HFZ ⊢
    generalize w2.heap.size = b8 at HFZ ⊢
    obtain ⟨f0, f1, y0, y1, hlf⟩ := pair_cells HFZ.out
    clear y0 y1
    have HFIN := Lib.hid (HR4.out.fin (.int .i64 f.1) (.int .i64 f.2))
    obtain ⟨r0, r1, r2, r3, y0, y1, y2, y3, hlR⟩ := HR4.out.cells
    obtain ⟨e0, e1, z0, z1, hF⟩ := HR4.out.flt.cells
    obtain ⟨s0, s1, s2, s3⟩ := HR4.out.ids
    go_wp2_with fail
    go_region
    all_goals
      go_wp2
      refine bodyPost_ret (results_cell_cell _ _ (w.heap.size + 1 + 1) 28 #[.int .i64 f.1, .int .i64 f.2] (0, 0) _ rfl rfl HFIN.out.2.1 Try.underlying28 rfl (by kernel_rfl) rfl HFIN.out.1 Try.underlying39 rfl (by kernel_rfl)) rfl ?_
      exact ⟨HFIN.out.2.2, false, _, [], 0, 0, f.1, f.2, rfl, Ints.nil _, .inl ⟨HCC.out, NF.out, rfl, rfl, rfl, rfl⟩, fun h => absurd h HCC.out⟩
  · have NF := Lib.hid (expF_many hok hx)
    clear hok hx
    have KA := (Keeps.refl (fun _ => False) w2).alloc (.cells #[.int .i64 10, .int .i64 (-7)] 28)
    have HR4 := Lib.hid (HR2.out.keeps0 KA)
    have HFZ := Lib.hid (heap_alloc_new w2 (.cells #[.int .i64 10, .int .i64 (-7)] 28))
    clear KA HR2 HB2 HT2
    go_upto_region 2 with fail
    generalize w2.alloc (.cells #[.int .i64 10, .int .i64 (-7)] 28) = wz at HR4 HFZ ⊢
    generalize w2.heap.size = b8 at HFZ ⊢
    obtain ⟨f0, f1, y0, y1, hlf⟩ := pair_cells HFZ.out
    clear y0 y1
    have HFIN := Lib.hid (HR4.out.fin (.int .i64 10) (.int .i64 (-7)))
    obtain ⟨r0, r1, r2, r3, y0, y1, y2, y3, hlR⟩ := HR4.out.cells
    obtain ⟨e0, e1, z0, z1, hF⟩ := HR4.out.flt.cells
    obtain ⟨s0, s1, s2, s3⟩ := HR4.out.ids
    go_wp2_with fail
    go_region
    all_goals
      go_wp2
      refine bodyPost_ret (results_cell_cell _ _ (w.heap.size + 1 + 1) 28 #[.int .i64 10, .int .i64 (-7)] (0, 0) _ rfl rfl HFIN.out.2.1 Try.underlying28 rfl (by kernel_rfl) rfl HFIN.out.1 Try.underlying39 rfl (by kernel_rfl)) rfl ?_
      exact ⟨HFIN.out.2.2, false, _, [], 0, 0, 10, -7, rfl, Ints.nil _, .inl ⟨by decide, NF.out, rfl, rfl, rfl, rfl⟩, fun h => absurd h (by decide)⟩
  · have HX := Lib.hid hx; have OK := Lib.hid hok
    have KA := (Keeps.refl (fun _ => False) w2).alloc (.cells #[.int .i64 0, .int .i64 0] 28)
    have HR3 := Lib.hid (HR2.out.keeps0 KA); have HB3 := Lib.hid (HB2.out.keeps0 KA); have HT3 := Lib.hid (HT2.out.keeps0 KA)
    obtain ⟨av, cv, hav⟩ := ownsRow_form1 hown
    subst hav
    clear hx hok hw KA hperm hord hown HB2 HT2 HR2
    have F0 := heap_alloc_new w2 (.cells #[.int .i64 0, .int .i64 0] 28)
    go_upto_region 2 with fail
    generalize w2.alloc (.cells #[.int .i64 0, .int .i64 0] 28) = w3 at HR3 HB3 HT3 F0 ⊢
    have f0 : w3.cell? ⟨w2.heap.size, 0, none⟩ = some (.int .i64 0) := by rw [cell_of_blk F0]; rfl
    have f1 : w3.cell? ⟨w2.heap.size, 1, none⟩ = some (.int .i64 0) := by rw [cell_of_blk F0]; rfl
    have fl := lt_of_heap F0
    clear F0
    obtain ⟨L, hL⟩ : ∃ L : Nat, t.n = (L : Int) := ⟨t.n.toNat, by have := OK.out.n0; omega⟩
    have hL24 : L ≤ 24 := by have := OK.out.n1; omega
    have hb3 := HB3.out
    rw [hL] at hb3
    replace HB3 := Lib.hid hb3
    clear hb3
    have hns := newSets_any w3 _ _ _ t L HT3.out OK.out hL
    rw [hL] at hns
    have HNS := Lib.hid hns
    clear hns
    have hbx := HB3.out.lt
    obtain ⟨d0, d1, d2, d3⟩ := HB3.out
    go_wp2_with fail
    refine HNS.out.mono ?_; rintro e w4 ⟨ss, sb, N0, G0, gk, rfl, hst, hgk, hgv, hlow, hss⟩
    have HST := Lib.hid hst; have HLOW := Lib.hid hlow; have HGK := Lib.hid hgk; have HGV := Lib.hid hgv
    have HIN := Lib.hid (HT3.out.init.keeps0 hst.k0)
    have HIR := Lib.hid (show ∀ p ∈ t.init, 0 ≤ p ∧ p < (L : Int) from fun p hp => by have := (isSet_iff.1 OK.out.init).1 p hp; omega)
    clear hst hgk hgv hlow hss f0 f1 fl d0 d1 d2 d3 hbx HNS
    go_upto_region 5 with fail
    go_cut [8] from 22 (fun s8 wc => ∃ (wb k1 : Nat) (N1 : List Dn) (G1 : Nat → Prop), s8 = .map (some wb) ∧ StS w3 wc ss sb L N1 G1 (L : Int) (.slice ai t.init.length ci) (.slice ag t.goal.length cg) (.slice ao t.ops.length co) gk ∧ DmS wc wb (putP (fun _ => none) 0 k1) G1 ∧ DgPost L N0 N1 k1 L 0 (cubeS L (wd t.init) 0) ∧ w3.heap.size ≤ wb)
    case first =>
      have KD : Keeps (fun _ => False) w4 (w4.alloc (.map #[] 0)).drew := ((Keeps.refl (fun _ => False) w4).alloc _).drew
      have K0 : Keeps (fun _ => False) w4 w4.drew := (Keeps.refl (fun _ => False) w4).drew
      have hma := (NMap.made w4 natV).keeps ((Keeps.refl (fun _ => False) (w4.alloc (.map #[] 0))).drew) (fun h => h)
      have HDM := Lib.hid (show DmS (w4.alloc (.map #[] 0)).drew w4.heap.size (fun _ => none) G0 from ⟨hma, fun h => by have := HST.out.dg.bnd _ h; omega⟩)
      have HSD := Lib.hid (HST.out.keeps0 KD); have HSE := Lib.hid HST.out.drew
      have e0 := HSD.out.c0.1; have e1 : (w4.alloc (.map #[] 0)).drew.cell? ⟨w.heap.size, 1, none⟩ = some (.slice ai t.init.length ci) := HSD.out.k0.cell HB3.out.c1 (fun h => h)
      have e2 : w4.drew.cell? ⟨ss, 0, none⟩ = some (.pointer (some ⟨sb, 0, none⟩)) := HSE.out.c0.1
      have e3 : w4.drew.cell? ⟨w.heap.size, 1, none⟩ = some (.slice ai t.init.length ci) := HSE.out.k0.cell HB3.out.c1 (fun h => h)
      have HW1 := Lib.hid (word_any (w4.alloc (.map #[] 0)).drew _ t.init (HIN.out.keeps0 KD) (fun x hx => by have := HIR.out x hx; omega))
      have HW2 := Lib.hid (word_any w4.drew _ t.init (HIN.out.keeps0 K0) (fun x hx => by have := HIR.out x hx; omega))
      have HC1 := Lib.hid (cube_any (w4.alloc (.map #[] 0)).drew sb L (wd t.init) N0 G0 HSD.out.dg hL24 (by have := HLOW.out; omega))
      have HC2 := Lib.hid (cube_any w4.drew sb L (wd t.init) N0 G0 HSE.out.dg hL24 (by have := HLOW.out; omega))
      clear KD K0 hma
      go_region_held3 (fun w' => w'.cell? ⟨ss, 0, none⟩ = some (.pointer (some ⟨sb, 0, none⟩)) ∧ w'.cell? ⟨w.heap.size, 1, none⟩ = some (.slice ai t.init.length ci))
        (go_keep)
        (first
          | (go_at_call 16; refine HW1.out.mono ?_; rintro en w5 ⟨rfl, hw5⟩; rw [← hw5]; clear hw5 w5)
          | (go_at_call 16; refine HW2.out.mono ?_; rintro en w5 ⟨rfl, hw5⟩; rw [← hw5]; clear hw5 w5)
          | (go_at_call 15; refine HC1.out.mono ?_; rintro en w5 ⟨k1, N1, G1, rfl, hp1, hd1, hk1, hn1⟩; have HP1 := Lib.hid hp1; have HS1 := Lib.hid (HSD.out.op hd1 hk1 hn1); have HD5 := Lib.hid (HDM.out.op hk1 hn1); have t0 := HS1.out.c0.1; have t1 : w5.cell? ⟨w.heap.size, 1, none⟩ = some (.slice ai t.init.length ci) := HS1.out.k0.cell HB3.out.c1 (fun h => h); obtain ⟨w6, hr6, hm6, hk6⟩ := HD5.out.1.put (P := Try.prog) Try.underlying65 Try.underlying3 0 k1; replace hr6 : (Instr.mapUpdate 65 (.map (some w4.heap.size)) (.int .i64 0) (.int .i64 (k1 : Int))).run Try.prog w5 = .ok () w6 := hr6; have HLO6 := Lib.hid (show w3.heap.size ≤ w4.heap.size from HST.out.k0.size); have HD6 := Lib.hid (show DmS w6 w4.heap.size (putP (fun _ => none) 0 k1) G1 from ⟨hm6, HD5.out.2⟩); have HS6 := Lib.hid (HS1.out.other hk6 (fun k e => by subst e; exact ⟨HST.out.k0.size, HD5.out.2, HD5.out.1.ne_cells HS1.out.blk⟩)); have u0 := HS6.out.c0.1; have u1 : w6.cell? ⟨w.heap.size, 1, none⟩ = some (.slice ai t.init.length ci) := HS6.out.k0.cell HB3.out.c1 (fun h => h); clear hp1 hd1 hk1 hn1 hm6 hk6)
          | (go_at_call 15; refine HC2.out.mono ?_; rintro en w5 ⟨k1, N1, G1, rfl, hp1, hd1, hk1, hn1⟩; have HP1 := Lib.hid hp1; have HS1 := Lib.hid (HSE.out.op hd1 hk1 hn1); have HSA := Lib.hid (HS1.out.keeps0 ((Keeps.refl (fun _ => False) w5).alloc (.map #[] 0))); have HD5 := Lib.hid (show DmS (w5.alloc (.map #[] 0)) w5.heap.size (fun _ => none) G1 from ⟨NMap.made w5 natV, fun h => by have := HS1.out.dg.bnd _ h; omega⟩); have t0 := HS1.out.c0.1; have t1 : w5.cell? ⟨w.heap.size, 1, none⟩ = some (.slice ai t.init.length ci) := HS1.out.k0.cell HB3.out.c1 (fun h => h); have v0 := HSA.out.c0.1; have v1 : (w5.alloc (.map #[] 0)).cell? ⟨w.heap.size, 1, none⟩ = some (.slice ai t.init.length ci) := HSA.out.k0.cell HB3.out.c1 (fun h => h); obtain ⟨w6, hr6, hm6, hk6⟩ := HD5.out.1.put (P := Try.prog) Try.underlying65 Try.underlying3 0 k1; replace hr6 : (Instr.mapUpdate 65 (.map (some w5.heap.size)) (.int .i64 0) (.int .i64 (k1 : Int))).run Try.prog (w5.alloc (.map #[] 0)) = .ok () w6 := hr6; have HLO6 := Lib.hid (show w3.heap.size ≤ w5.heap.size from HS1.out.k0.size); have HD6 := Lib.hid (show DmS w6 w5.heap.size (putP (fun _ => none) 0 k1) G1 from ⟨hm6, HD5.out.2⟩); have HS6 := Lib.hid (HSA.out.other hk6 (fun k e => by subst e; exact ⟨HS1.out.k0.size, HD5.out.2, HD5.out.1.ne_cells HSA.out.blk⟩)); have u0 := HS6.out.c0.1; have u1 : w6.cell? ⟨w.heap.size, 1, none⟩ = some (.slice ai t.init.length ci) := HS6.out.k0.cell HB3.out.c1 (fun h => h); clear hp1 hd1 hk1 hn1 hm6 hk6))
      all_goals
        go_wp2
        go_meet
        case rel => exact ⟨_, k1, N1, G1, rfl, HS6.out, HD6.out, HP1.out, HLO6.out⟩
    case rest =>
      obtain ⟨wb, k1, N1, G1, rfl, hs6, hd6, hp1, hlo6⟩ := hcut
      have HP1 := Lib.hid hp1; have HLO6 := Lib.hid hlo6
      have HC0 := Lib.hid (sym_costs OK.out)
      have HRS := Lib.hid (reached_some (ops := wordsOf t.ops) (s := wd t.init) (l := l) HX.out)
      have HRE := Lib.hid (show ∀ q y, runOps (wordsOf t.ops) (wd t.init) q = some y → y ∈ l from fun q y h => (HRS.out.2.2.2 y).2 (reach_run q .refl h))
      have HLT2 := Lib.hid (show ∀ q y, runOps (wordsOf t.ops) (wd t.init) q = some y → y < 2 ^ L from fun q y h => by
        obtain ⟨g1, g2⟩ := good_explored OK.out HX.out y (HRE.out q y h)
        rw [← g2]; exact wd_lt (fun x hx => by have := (isSet_iff.1 g1).1 x hx; omega))
      have HS0 := Lib.hid (show wd t.init < 2 ^ L from wd_lt HIR.out)
      have HLN := Lib.hid hL
      have HOPS := Lib.hid HT3.out.ops
      have h40 := OK.out.few
      have KM := (Keeps.refl (fun _ => False) wc).alloc (.map #[] 0)
      have HS7 := Lib.hid (hs6.keeps0 KM); have HD7 := Lib.hid (hd6.keeps0 KM)
      have HB7 := Lib.hid (show DmS (wc.alloc (.map #[] 0)) wc.heap.size (fun _ => none) G1 from ⟨NMap.made wc natV, fun h => by have := hs6.dg.bnd _ h; omega⟩)
      have HNE := Lib.hid (show wb ≠ wc.heap.size ∧ w3.heap.size ≤ wc.heap.size from ⟨by have := hd6.1.lt; omega, hs6.k0.size⟩)
      clear hs6 hd6 hp1 hlo6 KM hL HIN
      go_upto_region 7 with fail
      generalize wc.alloc (.map #[] 0) = w7 at HS7 HD7 HB7 ⊢
      generalize wc.heap.size = db at HB7 HNE ⊢
      go_wp2_with fail
      refine (V.new_any w7).mono ?_; rintro e w8 ⟨rfl, hq, hk8⟩
      have HP8 := Lib.hid (show PlM w3 w8 ss sb L (L : Int) (.slice ai t.init.length ci) (.slice ag t.goal.length cg) (.slice ao t.ops.length co) gk N1 G1 wb db (w7.heap.size + 1) (putP (fun _ => none) 0 k1) (fun _ => none) [] 0 (fun b => w7.heap.size ≤ b ∧ b < w8.heap.size) from
        ⟨HS7.out.keeps0 hk8, HD7.out.keeps0 hk8, HB7.out.keeps0 hk8, HNE.out.1, hq.mono (fun b h1 h2 => ⟨h2, h1⟩), fun k hk => by
          have h1 := HS7.out.k0.size
          have h2 := HD7.out.1.lt
          have h3 := HB7.out.1.lt
          have h4 := lt_of_heap HS7.out.blk
          exact ⟨by omega, hk.2, fun hg => by have := HS7.out.dg.bnd k hg; omega, by omega, by omega, by omega⟩, ⟨HLO6.out, HNE.out.2⟩⟩)
      clear hq hk8 HS7 HD7 HB7 HNE HLO6
      generalize w7.heap.size + 1 = Q at HP8 ⊢
      go_wp2_with fail
      refine (V.set_new w8 Q [] 0 _ HP8.out.q 0 0 (by simp) ⟨by omega, by omega⟩ (by simp)).mono ?_; rintro e w9 ⟨rfl, hq9, hk9⟩
      have HP9 := Lib.hid (HP8.out.queue hq9 (fun b hb => hb) hk9)
      clear hq9 hk9 HP8
      have HG9 := Lib.hid (PlG.start (ops := wordsOf t.ops) HP1.out.lt HP1.out.val HS0.out)
      have HLW9 := Lib.hid (show low N1 + 1600000 * 1 ≤ 14600000 + 0 * 1597100000 from by have h1 := HP1.out.cnt; have h2 := HLOW.out; omega)
      go_wp2_with fail
      go_loopw [11, 12] (fun cv nv wr => ∃ (c n : Nat) (N : List Dn) (G : Nat → Prop) (W D : Nat → Option Nat) (A : List (Int × Int)) (tt : Int) (F : Nat → Prop), cv = .int .i64 (c : Int) ∧ nv = .int .i64 (n : Int) ∧ PlM w3 wr ss sb L (L : Int) (.slice ai t.init.length ci) (.slice ag t.goal.length cg) (.slice ao t.ops.length co) gk N G wb db Q W D A tt F ∧ PlG L N (wordsOf t.ops) (wd t.init) (fun _ _ => True) W D c A ∧ CntIs (wordsOf t.ops) (wd t.init) (fun p => ∃ k, D p = some k) n ∧ NoGoal (wordsOf t.ops) (wd t.init) (wd t.goal) (fun p => ∃ k, D p = some k) ∧ DgLe N0 N ∧ low N + 1600000 * A.length ≤ 14600000 + n * 1597100000 ∧ A.length ≤ 1 + 40 * n ∧ 0 ≤ tt ∧ tt ≤ 1 + 40 * (n : Int)) (fun _ nv wr => 41 * (2000 - (intOf nv).toNat) + V.qlen wr Q)
      case atStart => exact ⟨0, 0, N1, G1, _, _, [(0, 0)], _, _, rfl, rfl, HP9.out, HG9.out, CntIs.start (fun p ⟨k, hk⟩ => by cases hk), NoGoal.start (fun p ⟨k, hk⟩ => by cases hk), HP1.out.le, HLW9.out, by simp, by omega, by omega⟩
      case round =>
        obtain ⟨c, n, N, G, W, D, A, tt, F, rfl, rfl, hpm, hpg, hcnt, hng, hle, hlw, han, ht0, ht1⟩ := hrel
        have HPM := Lib.hid hpm; have HPG := Lib.hid hpg; have HCN := Lib.hid hcnt; have HNG := Lib.hid hng; have HLE := Lib.hid hle; have HLW := Lib.hid hlw
        have HOKN := Lib.hid (show DgOk L N from hpm.st.dg.ok)
        have hn2 : n ≤ 2000 := Nat.le_trans (hcnt.le HRE.out) HRS.out.2.1
        have HQL := Lib.hid (V.qlen_any wr Q A tt F hpm.q)
        clear hpm hpg hcnt hng hle hlw HP9 HG9 HLW9
        by_cases hA : A = []
        · subst hA
          have K3 := HPM.out.st.k0
          have d0 := K3.cell HB3.out.c0 (fun h => h); have d1 := K3.cell HB3.out.c1 (fun h => h); have d2 := K3.cell HB3.out.c2 (fun h => h); have d3 := K3.cell HB3.out.c3 (fun h => h)
          have hbx := Nat.lt_of_lt_of_le HB3.out.lt K3.size
          have HR9 := Lib.hid (HR3.out.keeps0 K3)
          have hr := sresult_fit wr _ _ _ _ t [] false (n : Int) (HT3.out.keeps0 K3) OK.out (Ints.nil _) (fun z hz => by simp at hz) (by simp)
          rw [HLN.out] at hr
          have HRES := Lib.hid hr
          clear hr K3
          go_wp2_with fail
          refine HQL.out.mono ?_; rintro e wq ⟨rfl, hwq⟩
          rw [← hwq]; clear hwq wq
          go_wp2_with fail
          refine HRES.out.mono ?_
          rintro e w10 ⟨rfl, hk10⟩
          have HR8 := Lib.hid (HR9.out.keeps0 hk10)
          obtain ⟨r0, r1, r2, r3, y0, y1, y2, y3, hlR⟩ := HR8.out.cells
          obtain ⟨e0, e1, z0, z1, hF⟩ := HR8.out.flt.cells
          have HFIN := Lib.hid (HR8.out.set (.bool false) (.slice none 0 0) (.int .i64 (costL t [])) (.int .i64 (n : Int)) (.int .i64 0) (.int .i64 0))
          clear d0 d1 d2 d3 hbx hk10
          go_wp2_with fail
          refine bodyPost_ret (results_cell_cell _ _ (w.heap.size + 1 + 1) 28 #[.int .i64 0, .int .i64 0] (0, 0) _ rfl rfl HFIN.out.2.1 Try.underlying28 rfl (by kernel_rfl) rfl HFIN.out.1 Try.underlying39 rfl (by kernel_rfl)) rfl ?_
          have hbt := best_none HC0.out HNG.out (fun k x hx => HPG.out.i.empty HC0.out hx)
          exact ⟨HFIN.out.2.2.1, false, _, [], 0, (n : Int), 0, 0, rfl, Ints.nil _, bplan_none OK.out HX.out hbt ⟨by omega, by have := HCN.out.le HRE.out; omega⟩, fun _ => cnt_best HCN.out hbt (fun k x hx => ⟨fun _ => .inl (by decide), fun _ => HPG.out.i.empty HC0.out hx⟩)⟩
        · obtain ⟨⟨x, kk⟩, hfm⟩ : ∃ q, V.firstMin A = some q := by
            cases hf : V.firstMin A with
            | none => exact absurd (V.firstMin_none.1 hf) hA
            | some q => exact ⟨q, rfl⟩
          have hmem := V.firstMin_mem hfm
          obtain ⟨hxk, hx0⟩ := HPG.out.i.it _ hmem
          simp only at hxk hx0
          subst hxk
          obtain ⟨p, rfl⟩ := Int.eq_ofNat_of_zero_le hx0
          have HMIN := Lib.hid (show ∀ a ∈ A, (p : Int) ≤ a.1 from fun a ha => by have h1 := V.firstMin_least hfm a ha; have h2 := (HPG.out.i.it a ha).1; simp only at h1; omega)
          have HIN := Lib.hid (show ∃ a ∈ A, a.1 = (p : Int) from ⟨_, hmem, rfl⟩)
          have HFL := Lib.hid (V.filter_len HPM.out.q.nd HIN.out)
          have q0 : decide ((0 : Int) < (A.length : Int)) = true := by have := List.length_pos_iff.2 hA; simp; omega
          have q0' : decide (0 < A.length) = true := by have := List.length_pos_iff.2 hA; simp; omega
          have HTK := Lib.hid (V.take_some wr Q A tt F HPM.out.q (p : Int) (p : Int) hfm)
          clear hA hmem hx0 hfm
          go_wp2_with fail
          refine HQL.out.mono ?_; rintro e wq ⟨rfl, hwq⟩
          rw [← hwq]; clear hwq wq
          go_wp2_with fail
          refine HTK.out.mono ?_; rintro e w10 ⟨rfl, hq10, hk10⟩
          have HPM10 := Lib.hid (HPM.out.queue hq10 (fun b hb => .inl hb) hk10)
          have HQN := Lib.hid (show V.qlen wr Q = A.length from HPM.out.q.qlen_is)
          clear hq10 hk10 HQL HTK HPM q0 q0'
          obtain ⟨wk, hwk⟩ := look_is W (p : Int)
          have HWK := Lib.hid hwk
          have hlk := HPM10.out.wm.look hwk
          have HC := Lib.hid (without_any w3 w10 ss sb L N G (L : Int) _ _ _ gk wk c HPM10.out.st hL24 (HPG.out.look hwk) HPG.out.cl (by have h1 := HLW.out; omega))
          clear hwk
          go_wp2_with fail
          refine HC.out.mono ?_; rintro e w11 ⟨ly, N2, G2, rfl, hp2, hz2, hs2, hk2, hn2⟩
          have HP2 := Lib.hid hp2
          have HPM11 := Lib.hid (HPM10.out.opS hs2 hk2 hn2)
          obtain ⟨w12, hr12, hm12, hk12⟩ := HPM11.out.dm.1.put (P := Try.prog) Try.underlying65 Try.underlying3 p ly
          replace hr12 : (Instr.mapUpdate 65 (.map (some db)) (.int .i64 (p : Int)) (.int .i64 (ly : Int))).run Try.prog w11 = .ok () w12 := hr12
          have HPM12 := Lib.hid (HPM11.out.putD hm12 hk12)
          have HLY := Lib.hid (show (∀ m, m < 2 ^ L → (dv N2 ly m = true ↔ Pd (wordsOf t.ops) (wd t.init) m p)) ∧ (∀ k x, Pd (wordsOf t.ops) (wd t.init) x k → k < p → ∃ v, D k = some v) ∧ (¬ ∃ v, D p = some v) ∧ ∀ k, (∃ v, D k = some v) → k < p from by
            have h1 := HPG.out.i.layer HC0.out HMIN.out HIN.out
            refine ⟨fun m hm => ?_, h1.2⟩
            rw [← h1.1 m hm, HP2.out.val, mapS_look HWK.out])
          have HLW2 := Lib.hid (show low N2 ≤ low N + (524287 + opC wk) from hp2.cnt)
          have HZ2 := Lib.hid hz2
          have HLE2 := Lib.hid (show DgLe N0 N2 from HLE.out.trans hp2.le)
          have HG2 := Lib.hid (show gk < N2.length + 2 from by have h1 := HLE2.out.len; have h2 := HGK.out; omega)
          clear hlk hp2 hz2 hs2 hk2 hn2 hm12 hk12 HC HPM10
          go_upto_region 14 with fail
          have KD := (Keeps.refl (fun _ => False) w12).drew
          have HPMD := Lib.hid (HPM12.out.keeps0 KD)
          have HC := Lib.hid (andz_any w12.drew sb L N2 G2 ly gk HPMD.out.st.dg hL24 HP2.out.lt HG2.out (by have h1 := HLW2.out; have h2 := opC_le wk; have h3 := opC_le ly; have h4 := HLW.out; omega))
          have e0 := HPMD.out.st.c0.1
          have e5 : w12.drew.cell? ⟨ss, 5, none⟩ = some (.int .i64 (gk : Int)) := (cell_of_blk HPMD.out.st.blk).trans rfl
          have el := HPMD.out.st.c0.2
          clear KD hr12
          go_region_held3 (fun w' => w'.cell? ⟨ss, 0, none⟩ = some (.pointer (some ⟨sb, 0, none⟩)) ∧ w'.cell? ⟨ss, 5, none⟩ = some (.int .i64 (gk : Int)))
            (go_keep)
            (first
              | (go_at_call 29; refine HC.out.mono ?_; rintro en w13 ⟨at_, N3, G3, rfl, hp3, hz3, hd3, hk3, hn3⟩; have HP3 := Lib.hid hp3; have HPM13 := Lib.hid (HPMD.out.op hd3 hk3 hn3); have t0 := HPM13.out.st.c0.1; have t5 : w13.cell? ⟨ss, 5, none⟩ = some (.int .i64 (gk : Int)) := (cell_of_blk HPM13.out.st.blk).trans rfl; clear hp3 hz3 hd3 hk3 hn3))
          all_goals
            have HLY3 := Lib.hid (show ∀ m, m < 2 ^ L → (dv N3 ly m = true ↔ Pd (wordsOf t.ops) (wd t.init) m p) from fun m hm => by rw [HP3.out.le.dv HPMD.out.st.dg.ok HP2.out.lt]; exact HLY.out.1 m hm)
            have HAT := Lib.hid (show ∀ m, dv N3 at_ m = (dv N3 ly m && goalB (wd t.goal) m) from fun m => by
              rw [HP3.out.val, HP3.out.le.dv HPMD.out.st.dg.ok HP2.out.lt, HLE2.out.dv HST.out.dg.ok HGK.out, HGV.out, goal_lit OK.out.goal])
            clear t0 t5 e0 e5 el HC
            by_cases h0 : at_ = 0
            · subst h0
              have HNG3 := Lib.hid (show NoGoal (wordsOf t.ops) (wd t.init) (wd t.goal) (fun k => ∃ v, putP D p ly k = some v) from fun k x hk hx => by
                rcases (put_has k).1 hk with h1 | rfl
                · exact HNG.out k x h1 hx
                · have hxl : x < 2 ^ L := by obtain ⟨⟨q, g1, _⟩, _⟩ := id hx; exact HLT2.out q x g1
                  have h1 := HAT.out x
                  rw [dv_zero, (HLY3.out x hxl).2 hx, Bool.true_and] at h1
                  exact h1.symm)
              have hly3 : ly < N3.length + 2 := by have h1 := HP3.out.le.len; have h2 := HP2.out.lt; omega
              have hc3 : c < N3.length + 2 := by have h1 := HP3.out.le.len; have h2 := HP2.out.le.len; have h3 := HPG.out.cl; omega
              have HB3L := Lib.hid (show low N3 ≤ low N2 + opC ly from HP3.out.cnt)
              have HC := Lib.hid (or_any w13 sb L N3 G3 c ly HPM13.out.st.dg hL24 hc3 hly3 (by have h1 := HLW2.out; have h2 := HB3L.out; have h3 := opC_le wk; have h4 := opC_le ly; have h5 := HLW.out; have h6 := lowB_le L (min (lev L N3 c) (lev L N3 ly)); omega))
              obtain ⟨c0, c0l⟩ := HPM13.out.st.c0
              go_wp2_with fail
              refine HC.out.mono ?_; rintro e w14 ⟨c', N4, G4, rfl, hp4, hd4, hk4, hn4⟩
              have HP4 := Lib.hid hp4
              have HPM14 := Lib.hid (HPM13.out.op hd4 hk4 hn4)
              have hly4 : ly < N4.length + 2 := by have h1 := hp4.le.len; omega
              have HLY4 := Lib.hid (show ∀ m, m < 2 ^ L → (dv N4 ly m = true ↔ Pd (wordsOf t.ops) (wd t.init) m p) from fun m hm => by rw [HP4.out.le.dv HPM13.out.st.dg.ok hly3]; exact HLY3.out m hm)
              have HPG4 := Lib.hid (HPG.out.taken HOKN.out ((HP2.out.le.trans HP3.out.le).trans HP4.out.le) hly4 HP4.out.lt HLY4.out (fun m => by rw [HP4.out.val, HP4.out.le.dv HPM13.out.st.dg.ok hc3, HP4.out.le.dv HPM13.out.st.dg.ok hly3]) HMIN.out)
              obtain ⟨S, hS1, hS2⟩ := Pd.list HRS.out.1 HRE.out (fun k => k = p)
              have hS3 : ∀ x, x ∈ S ↔ Pd (wordsOf t.ops) (wd t.init) x p := fun x => by rw [hS2]; exact ⟨fun ⟨k, h1, h2⟩ => by rw [← h1]; exact h2, fun h => ⟨p, rfl, h⟩⟩
              have hct := count_is HPM14.out.st.dg.ok hly4 hS1 (fun x => by
                rw [hS3]
                constructor
                · intro h
                  have hx : x < 2 ^ L := by obtain ⟨⟨q, g1, _⟩, _⟩ := id h; exact HLT2.out q x g1
                  exact ⟨hx, (HLY4.out x hx).2 h⟩
                · rintro ⟨h1, h2⟩; exact (HLY4.out x h1).1 h2)
              have hc4 := count_any w14 sb L N4 G4 ly HPM14.out.st.dg hL24 hly4
              rw [hct] at hc4
              have HC4 := Lib.hid hc4
              have HCN4 := Lib.hid (HCN.out.more (fun k => put_has (ly := ly) k) HLY.out.2.2.1 hS1 hS3)
              have hsl : S.length ≤ 2000 := Nat.le_trans (nodup_sub hS1 (fun x hx => by obtain ⟨⟨q, g1, _⟩, _⟩ := (hS3 x).1 hx; exact HRE.out q x g1)) HRS.out.2.1
              have HSP := Lib.hid (show ly ≠ 0 → 1 ≤ S.length from fun h0 => by
                obtain ⟨m0, hm0, _, hm1⟩ := dv_some HPM14.out.st.dg.ok ly hly4 h0
                exact List.length_pos_iff.2 (List.ne_nil_of_mem ((hS3 m0).2 ((HLY4.out m0 hm0).1 hm1))))
              generalize S.length = sl at HC4 HCN4 hsl HSP
              clear hp4 hd4 hk4 hn4 c0 c0l HC hS1 hS2 hS3 hct hc4 S
              obtain ⟨c0, c0l⟩ := HPM14.out.st.c0
              go_wp2_with fail
              refine HC4.out.mono ?_; rintro e w15 ⟨rfl, hk15⟩
              have HPM15 := Lib.hid (HPM14.out.keeps0 hk15)
              have d3 := HPM15.out.st.k0.cell HB3.out.c3 (fun h => h)
              have dl := Nat.lt_of_lt_of_le HB3.out.lt HPM15.out.st.k0.size
              have hpb : ly ≠ 0 → p ≤ 1000000000 := fun h0 => by
                obtain ⟨m0, hm0, _, hm1⟩ := dv_some HPM15.out.st.dg.ok ly hly4 h0
                have := ((HLY4.out m0 hm0).1 hm1).bound HC0.out HRE.out HRS.out.2.1
                omega
              have HPB := Lib.hid hpb
              have HLW4 := Lib.hid (show low N4 ≤ low N3 + 524287 from by have h1 := HP4.out.cnt; have h2 := lowB_le L (min (lev L N3 c) (lev L N3 ly)); omega)
              have HLT4 := Lib.hid (show low N4 ≤ 3200000000000 from by have h0 := HLW4.out; have h1 := HLW2.out; have h2 := HB3L.out; have h3 := opC_le wk; have h4 := opC_le ly; have h5 := HLW.out; omega)
              have HOK4 := Lib.hid (show DgOk L N4 from HPM15.out.st.dg.ok)
              have HLY4L := Lib.hid hly4
              have HLE4 := Lib.hid (show DgLe N0 N4 from (HLE2.out.trans HP3.out.le).trans HP4.out.le)
              clear hk15 c0 c0l hpb hly3 hly4 hc3 HPM13 HPM14 HC4 HP4 HP3
              go_wp2_with fail
              go_loopw [107] (fun iv wq => ∃ (j : Nat) (N5 : List Dn) (G5 : Nat → Prop) (W5 : Nat → Option Nat) (A5 : List (Int × Int)) (t5 : Int) (F5 : Nat → Prop), iv = .int .i64 (j : Int) ∧ j ≤ t.ops.length ∧ PlM w3 wq ss sb L (L : Int) (.slice ai t.init.length ci) (.slice ag t.goal.length cg) (.slice ao t.ops.length co) gk N5 G5 wb db Q W5 (putP D p ly) A5 t5 F5 ∧ PlG L N5 (wordsOf t.ops) (wd t.init) (fun k i => k = p → i < j) W5 (putP D p ly) c' A5 ∧ DgLe N4 N5 ∧ low N5 ≤ low N4 + ipay ly j ∧ A5.length ≤ (A.filter fun a => a.1 != (p : Int)).length + jz ly j ∧ 0 ≤ t5 ∧ t5 ≤ tt + (jz ly j : Int)) (fun iv _ => t.ops.length - (intOf iv).toNat)
              case atStart => exact ⟨0, N4, G4, W, _, tt, _, rfl, Nat.zero_le _, HPM15.out, HPG4.out, DgLe.refl _, by rw [ipay_zero]; omega, by omega, ht0, by rw [jz_zero]; omega⟩
              case round =>
                obtain ⟨j, N5, G5, W5, A5, t5, F5, rfl, hj, hpm5, hpg5, hle5, hlw5, ha5, ht50, ht51⟩ := hrel
                have HPM5 := Lib.hid hpm5; have HPG5 := Lib.hid hpg5; have HLE5 := Lib.hid hle5; have HLW5 := Lib.hid hlw5; have HA5 := Lib.hid ha5; have HT5 := Lib.hid ht51
                clear hpm5 hpg5 hle5 hlw5 ha5 ht51 d3 dl HPM15
                by_cases hlt : j < t.ops.length
                · obtain ⟨bo, oo, hao, hcell⟩ := HOPS.out.cell rfl (by omega)
                  cases hao
                  obtain ⟨o, ho⟩ : ∃ o, t.ops[j]? = some o := ⟨_, List.getElem?_eq_getElem hlt⟩
                  have hok := OK.out.ops o (List.mem_of_getElem? ho)
                  rw [HLN.out] at hok
                  have hcst : 0 ≤ o.cost ∧ o.cost ≤ 100 := HC0.out o.word (List.mem_of_getElem? (words_of ho))
                  have HPR := Lib.hid (show ((prcN o.word : Nat) : Int) = 4096 * o.cost + 1 from prcN_int HC0.out (words_of ho))
                  obtain ⟨f1, f2, f3, f4⟩ := opr_few hL24 hok
                  have HCO := Lib.hid (img_pay (ly := ly) f1 f4)
                  obtain ⟨va, vb, vc, u0, u1, u2, u3, i1, i2, i3⟩ := hcell j o ho
                  have r0 := HPM5.out.st.k0.cell u0 (fun h => h); have r1 := HPM5.out.st.k0.cell u1 (fun h => h); have r2 := HPM5.out.st.k0.cell u2 (fun h => h); have r3 := HPM5.out.st.k0.cell u3 (fun h => h)
                  obtain ⟨a1, c1, g1, _⟩ := i1.form
                  obtain ⟨a2, c2, g2, _⟩ := i2.form
                  obtain ⟨a3, c3, g3, _⟩ := i3.form
                  subst g1 g2 g3
                  have K7 := (Keeps.refl (fun _ => False) wr).alloc (.cells #[.slice a1 o.pre.length c1, .slice a2 o.add.length c2, .slice a3 o.del.length c3, .int .i64 o.cost] 64)
                  have HX7 := Lib.hid (heap_alloc_new wr (.cells #[.slice a1 o.pre.length c1, .slice a2 o.add.length c2, .slice a3 o.del.length c3, .int .i64 o.cost] 64))
                  have HPM7 := Lib.hid (HPM5.out.keeps0 K7)
                  have HXG := Lib.hid (show ¬ G5 wr.heap.size from fun h => by have := HPM5.out.st.dg.bnd _ h; omega)
                  have HOK := Lib.hid hok; have HJ := Lib.hid ho; have HLT3 := Lib.hid hlt
                  have HFF := Lib.hid (And.intro f1 (And.intro f2 f3))
                  clear hcell u0 u1 u2 u3 i1 i2 i3 K7 ho hok f1 f2 f3 f4 hlt
                  go_upto_region 22 with fail
                  generalize (wr.alloc (.cells #[.slice a1 o.pre.length c1, .slice a2 o.add.length c2, .slice a3 o.del.length c3, .int .i64 o.cost] 64)) = w17 at HX7 HPM7 ⊢
                  generalize wr.heap.size = bx at HX7 HXG ⊢
                  clear r0 r1 r2 r3
                  have HLL := Lib.hid (show ly < N5.length + 2 from by have h1 := HLE5.out.len; have h2 := HLY4L.out; omega)
                  have HLB5 := Lib.hid (show low N5 + 40000000 ≤ 5800000000000 from by have h1 := HLW5.out; have h2 := HLT4.out; have h3 := ipay_le (ly := ly) (show j ≤ 40 by omega); omega)
                  have HCI := Lib.hid (image_any w3 w17 ss sb L N5 G5 (L : Int) _ _ _ gk ly j t.ops o HPM7.out.st hL24 HOPS.out HJ.out h40 HLL.out (isSet_iff.1 HOK.out.pre).1 (isSet_iff.1 HOK.out.add).1 (isSet_iff.1 HOK.out.del).1 HFF.out.1 HFF.out.2.1 HFF.out.2.2 (by have h1 := HCO.out; have h2 := HLB5.out; split at h1 <;> omega))
                  go_wp2_with fail
                  refine HCI.out.mono ?_; rintro e w18 ⟨nx, N6, G6, rfl, hp6, hz6, hs6, hk6, hn6⟩
                  have HP6 := Lib.hid hp6; have HZ6 := Lib.hid hz6
                  have HPM18 := Lib.hid (HPM7.out.opS hs6 hk6 hn6)
                  have HX18 := Lib.hid (hk6.heap HX7.out HXG.out)
                  have HIM := Lib.hid (show ∀ m, dv N6 nx m = imgB o (dv N6 ly) m from fun m => by
                    have e1 : dv N6 ly = dv N5 ly := funext fun z => HP6.out.le.dv HPM7.out.st.dg.ok HLL.out z
                    rw [HP6.out.val, e1]; rfl)
                  have HPG6 := Lib.hid (HPG5.out.le HPM7.out.st.dg.ok HP6.out.le)
                  clear hp6 hz6 hs6 hk6 hn6 HCI HX7 HXG
                  by_cases hx0 : nx = 0
                  · subst hx0
                    have HPGD := Lib.hid (HPG6.out.dead hL24 HLT2.out HJ.out HOK.out (putP_same D p ly) (fun m => by rw [← HIM.out m]; exact dv_zero m))
                    have HLW6 := Lib.hid (show low N6 ≤ low N4 + ipay ly (j + 1) from by
                      have h1 := HP6.out.cnt; have h2 := HCO.out; have h3 := HLW5.out
                      rw [ipay_succ]; unfold icost
                      split at h2 <;> split <;> omega)
                    have HJZ := Lib.hid (jz_succ ly j)
                    clear HX18
                    go_wp2_with fail
                    go_roundw
                    case rel =>
                      exact ⟨j + 1, N6, G6, W5, A5, t5, F5, by go_num, HLT3.out, HPM18.out, HPGD.out, HLE5.out.trans HP6.out.le, HLW6.out, by have h1 := HA5.out; have h2 := HJZ.out; omega, ht50, by have h1 := HT5.out; have h2 := HJZ.out; omega⟩
                    case measure => simp [intOf]; have := HLT3.out; omega
                  · have q1 : ((nx : Int) == 0) = false := by simpa using hx0
                    have HLZ := Lib.hid (show ly ≠ 0 from fun h => hx0 (HZ6.out h))
                    have hpb := HPB.out HLZ.out
                    have HXZ := Lib.hid hx0
                    have x3 : w18.cell? ⟨bx, 3, none⟩ = some (.int .i64 o.cost) := (cell_of_blk HX18.out).trans rfl
                    have xl := lt_of_heap HX18.out
                    clear hx0
                    go_wp2_with fail
                    refine (sprice_any _ _ ⟨hcst.1, by omega⟩).mono ?_; rintro e wq ⟨rfl, hwq⟩
                    rw [← hwq]; clear hwq wq
                    go_upto_region 25 with fail
                    obtain ⟨to, hto⟩ : ∃ to : Nat, to = p + prcN o.word := ⟨_, rfl⟩
                    have hto2 : (p : Int) + (4096 * o.cost + 1) = (to : Int) := by have h1 := HPR.out; omega
                    rw [hto2]
                    have HTO := Lib.hid hto
                    obtain ⟨kx, hkx⟩ := look_is W5 (to : Int)
                    have HKX := Lib.hid hkx
                    have KD := (Keeps.refl (fun _ => False) w18).drew
                    have HPMD := Lib.hid (HPM18.out.keeps0 KD)
                    have hlk := HPMD.out.wm.look hkx
                    have HKL := Lib.hid (show kx < N6.length + 2 ∧ nx < N6.length + 2 from ⟨HPG6.out.look hkx, HP6.out.lt⟩)
                    have HC := Lib.hid (or_any w18.drew sb L N6 G6 kx nx HPMD.out.st.dg hL24 HKL.out.1 HKL.out.2 (by have h1 := HP6.out.cnt; have h2 := HCO.out; have h3 := HLB5.out; have h4 := lowB_le L (min (lev L N6 kx) (lev L N6 nx)); split at h2 <;> omega))
                    have e0 := HPMD.out.st.c0.1
                    have el := HPMD.out.st.c0.2
                    clear hkx KD x3 xl hcst hpb hto hto2 HX18
                    have hlen : A5.length ≤ 999999 := by have h1 := HA5.out; have h2 := HFL.out; have h3 := jz_le (ly := ly) (show j ≤ 40 by omega); omega
                    have ht5b : t5 ≤ 1000000000000000 := by have h1 := HT5.out; have h3 := jz_le (ly := ly) (show j ≤ 40 by omega); omega
                    have HLN5 := Lib.hid (And.intro hlen ht5b)
                    clear hlen ht5b
                    go_region_held3 (fun w' => w'.cell? ⟨ss, 0, none⟩ = some (.pointer (some ⟨sb, 0, none⟩)))
                      (go_keep)
                      (first
                        | (go_at_call 17; refine HC.out.mono ?_; rintro en w19 ⟨rr, N7, G7, rfl, hp7, hd7, hk7, hn7⟩; have HP7 := Lib.hid hp7; have HPM19 := Lib.hid (HPMD.out.op hd7 hk7 hn7); obtain ⟨w20, hr20, hm20, hk20⟩ := HPM19.out.wm.1.put (P := Try.prog) Try.underlying65 Try.underlying3 to rr; replace hr20 : (Instr.mapUpdate 65 (.map (some wb)) (.int .i64 (to : Int)) (.int .i64 (rr : Int))).run Try.prog w19 = .ok () w20 := hr20; have HPM20 := Lib.hid (HPM19.out.putW hm20 hk20); have t0 := HPM19.out.st.c0.1; have v0 := HPM20.out.st.c0.1; clear hp7 hd7 hk7 hn7 hm20 hk20))
                    all_goals
                      have HPGG := Lib.hid ((HPG6.out.le HPMD.out.st.dg.ok HP7.out.le).grow hL24 HC0.out HLT2.out HJ.out HOK.out (putP_same D p ly) (fun k hk => by
                        rcases (put_has k).1 hk with h1 | h1
                        · have := HLY.out.2.2.2 k h1; omega
                        · omega) HTO.out HKX.out HP7.out.lt (nx := nx) (fun m => by
                          have e1 : dv N7 ly = dv N6 ly := funext fun z => HP7.out.le.dv HPMD.out.st.dg.ok (show ly < N6.length + 2 from by have h1 := HP6.out.le.len; have h2 := HLL.out; omega) z
                          rw [HP7.out.le.dv HPMD.out.st.dg.ok HKL.out.2, HIM.out, e1]) (fun m => by
                          rw [HP7.out.val, HP7.out.le.dv HPMD.out.st.dg.ok HKL.out.1, HP7.out.le.dv HPMD.out.st.dg.ok HKL.out.2]))
                      have HLW7 := Lib.hid (show low N7 ≤ low N4 + ipay ly (j + 1) from by
                        have h1 := HP6.out.cnt; have h2 := HCO.out; have h3 := HLW5.out; have h4 := HP7.out.cnt; have h5 := lowB_le L (min (lev L N6 kx) (lev L N6 nx))
                        rw [if_neg HLZ.out] at h2
                        rw [ipay_succ]; unfold icost
                        rw [if_neg HLZ.out]; omega)
                      have HSB := Lib.hid (V.set_both w20 Q A5 t5 F5 HPM20.out.q (to : Int) (to : Int) ⟨ht50, HLN5.out.2⟩ HLN5.out.1)
                      have HLE7 := Lib.hid ((HLE5.out.trans HP6.out.le).trans HP7.out.le)
                      have HJZ := Lib.hid (jz_step (j := j) HLZ.out)
                      have HAL := Lib.hid (V.setA_len A5 (to : Int) (to : Int))
                      clear t0 v0 hr20 hlk e0 el HC HP7 HPM19
                      go_wp2_with fail
                      refine HSB.out.mono ?_; rintro e w21 ⟨rfl, F6, hq21, hn21, hk21⟩
                      have HPM21 := Lib.hid (HPM20.out.queue hq21 hn21 hk21)
                      clear hq21 hn21 hk21
                      go_wp2_with fail
                      go_roundw
                      case rel =>
                        exact ⟨j + 1, N7, G7, putP W5 to rr, V.setA A5 (to : Int) (to : Int), t5 + 1, _, by go_num, HLT3.out, HPM21.out, HPGG.out, HLE7.out, HLW7.out, by have h1 := HA5.out; have h2 := HJZ.out; have h3 := HAL.out; omega, by omega, by have h1 := HT5.out; have h2 := HJZ.out; omega⟩
                      case measure => simp [intOf]; have := HLT3.out; omega
                · have hje : j = t.ops.length := by omega
                  subst hje
                  clear hlt
                  go_wp2_with fail
                  go_roundw
                  case rel =>
                    obtain ⟨r1, r2, r3, _⟩ := round_pays HLW.out HLW2.out HB3L.out HLW4.out HLW5.out (by omega) HFL.out HA5.out HSP.out han ht1 HT5.out
                    refine ⟨c', n + sl, N5, G5, W5, putP D p ly, A5, t5, F5, rfl, by go_num, HPM5.out, HPG5.out.final rfl, HCN4.out, HNG3.out, HLE4.out.trans HLE5.out, r1, r2, ht50, r3⟩
                  case measure =>
                    obtain ⟨_, _, _, r4⟩ := round_pays HLW.out HLW2.out HB3L.out HLW4.out HLW5.out (by omega) HFL.out HA5.out HSP.out han ht1 HT5.out
                    have h1 := r4 (Nat.le_trans (HCN4.out.le HRE.out) HRS.out.2.1)
                    rw [HPM5.out.q.qlen_is, HQN.out]
                    simp [intOf]
                    omega
            · have HDI := Lib.hid (HPG.out.doneI HOKN.out (HP2.out.le.trans HP3.out.le) (show ly < N3.length + 2 from by have h1 := HP3.out.le.len; have h2 := HP2.out.lt; omega) HLY3.out HLY.out.2.1)
              have HTP := Lib.hid (show ∀ m, m < 2 ^ L → dv N3 at_ m = true → Pd (wordsOf t.ops) (wd t.init) m p from fun m hm h => by
                rw [HAT.out, Bool.and_eq_true] at h
                exact (HLY3.out m hm).1 h.1)
              have HBT := Lib.hid (show BestT t (p : Int) from by
                obtain ⟨m0, hm0, _, hm1⟩ := dv_some HPM13.out.st.dg.ok at_ HP3.out.lt h0
                have h2 := hm1
                rw [HAT.out, Bool.and_eq_true] at h2
                exact best_some HC0.out HNG.out HLY.out.2.1 (HTP.out m0 hm0 hm1) h2.2)
              have hpb : p ≤ 1000000000 := by
                obtain ⟨m0, hm0, _, hm1⟩ := dv_some HPM13.out.st.dg.ok at_ HP3.out.lt h0
                have := (HTP.out m0 hm0 hm1).bound HC0.out HRE.out HRS.out.2.1
                omega
              have HCB := Lib.hid (cnt_best HCN.out HBT.out (fun k x hx => ⟨fun h => .inr (by have := HLY.out.2.2.2 k h; omega), fun h => HLY.out.2.1 k x hx (by omega)⟩))
              have hnl : 0 ≤ (n : Int) ∧ (n : Int) ≤ (l.length : Int) := ⟨by omega, by have := HCN.out.le HRE.out; omega⟩
              have HNL := Lib.hid hnl
              have q0 : ((at_ : Int) != 0) = true := by simpa using h0
              have q0' : (at_ != 0) = true := by simpa using h0
              have KD := (Keeps.refl (fun _ => False) w13).drew
              have HPME := Lib.hid (HPM13.out.keeps0 KD)
              have HTRC := Lib.hid (trace_any w3 w13.drew ss sb L N3 G3 (L : Int) _ _ _ gk t l db (putP D p ly) at_ p HPME.out.st hL24 HLN.out HOPS.out OK.out HX.out HPME.out.dm HDI.out HP3.out.lt h0 HTP.out hpb (by have h1 := HLW2.out; have h2 := HP3.out.cnt; have h3 := opC_le wk; have h4 := opC_le ly; have h5 := HLW.out; omega))
              have K3 := HPME.out.st.k0
              have d0 := K3.cell HB3.out.c0 (fun h => h); have d1 := K3.cell HB3.out.c1 (fun h => h); have d2 := K3.cell HB3.out.c2 (fun h => h); have d3 := K3.cell HB3.out.c3 (fun h => h)
              have hbx : w.heap.size < w13.heap.size := Nat.lt_of_lt_of_le HB3.out.lt HPM13.out.st.k0.size
              have HBA := Lib.hid (show w.heap.size + 1 + 1 < w3.heap.size from lt_of_heap HR3.out.flt.blk)
              clear KD K3 hnl
              go_upto_region 16 with fail
              clear q0 q0' h0 hpb
              by_cases h60 : p % 4096 ≤ 60
              · have H60 := Lib.hid h60
                clear h60
                go_region_held3 (fun w' => w'.cell? ⟨w.heap.size, 0, none⟩ = some (.int .i64 (L : Int)) ∧ w'.cell? ⟨w.heap.size, 1, none⟩ = some (.slice ai t.init.length ci) ∧ w'.cell? ⟨w.heap.size, 2, none⟩ = some (.slice ag t.goal.length cg) ∧ w'.cell? ⟨w.heap.size, 3, none⟩ = some (.slice ao t.ops.length co))
                  (first | go_keep | with_reducible exact ⟨E0.out, E1.out, E2.out, E3.out⟩)
                  (first
                    | (go_at_call 31; refine HTRC.out.mono ?_; rintro en wA ⟨hkA, v2, q, y, rfl, hi, hrun, hyl, hTy, hway, hlo⟩; obtain ⟨a3, c3, hv3, _⟩ := hi.form; subst hv3; have HI := Lib.hid hi; have HRUN := Lib.hid hrun; have HGY := Lib.hid (show goalB (wd t.goal) y = true from by rw [HAT.out, Bool.and_eq_true] at hTy; exact hTy.2); have HLC := Lib.hid (plan_len HC0.out HRE.out HRS.out.2.1 (HTP.out y hyl hTy) hrun hway); have HLO := Lib.hid hlo; have HTA := Lib.hid (HT3.out.keeps0 hkA); have HRA := Lib.hid (HR3.out.keeps0 hkA); have A0 := hkA.cell HB3.out.c0 (fun h => h); have A1 := hkA.cell HB3.out.c1 (fun h => h); have A2 := hkA.cell HB3.out.c2 (fun h => h); have A3 := hkA.cell HB3.out.c3 (fun h => h); have hres := sresult_fit wA _ _ _ _ t (intsP q) true (n : Int) HTA.out OK.out HI.out (planIn_run hrun) (by have h1 := H60.out; have h2 := HLC.out.1; unfold intsP; rw [List.length_map]; omega); rw [HLN.out] at hres; have HRES := Lib.hid hres; clear hi hrun hyl hTy hway hlo hkA hres)
                    | (go_at_call 30; refine HRES.out.mono ?_; rintro en wC ⟨rfl, hkC⟩; have C0 := hkC.cell A0 (fun h => h); have C1 := hkC.cell A1 (fun h => h); have C2 := hkC.cell A2 (fun h => h); have C3 := hkC.cell A3 (fun h => h); have HRC := Lib.hid (HRA.out.keeps0 hkC); have HI4 := Lib.hid (HI.out.keeps0 hkC); obtain ⟨r0, r1, r2, r3, y0, y1, y2, y3, hlR⟩ := HRC.out.cells; obtain ⟨e0, e1, z0, z1, hF⟩ := HRC.out.flt.cells; have HFIN := Lib.hid (HRC.out.set (.bool true) (.slice a3 (intsP q).length c3) (.int .i64 (costL t (intsP q))) (.int .i64 (n : Int)) (.int .i64 0) (.int .i64 0)); have hne : ¬ (w.heap.size = w.heap.size + 1 ∨ w.heap.size = w.heap.size + 1 + 1) := (by omega); have E0 := Lib.hid (HFIN.out.2.2.2.cell C0 hne); have E1 := Lib.hid (HFIN.out.2.2.2.cell C1 hne); have E2 := Lib.hid (HFIN.out.2.2.2.cell C2 hne); have E3 := Lib.hid (HFIN.out.2.2.2.cell C3 hne); clear hkC A0 A1 A2 A3 hne))
                all_goals
                  go_wp2_with fail
                  refine bodyPost_ret (results_cell_cell _ _ (w.heap.size + 1 + 1) 28 #[.int .i64 0, .int .i64 0] (0, 0) _ rfl rfl HFIN.out.2.1 Try.underlying28 rfl (by kernel_rfl) rfl HFIN.out.1 Try.underlying39 rfl (by kernel_rfl)) rfl ?_
                  refine ⟨HFIN.out.2.2.1, true, _, _, _, (n : Int), 0, 0, rfl, ?_, bplan_short OK.out HX.out HBT.out (by omega) HRUN.out HGY.out HLC.out.2.1 HLC.out.2.2 (by have h1 := HLC.out.1; have h2 := H60.out; omega) HNL.out, fun _ => HCB.out⟩
                  refine HI4.out.keepsS HFIN.out.2.2.2 (fun h0 j hj e' => ?_)
                  have h1 := HLO.out j hj
                  have h2 := HBA.out
                  omega
              · have H60 := Lib.hid h60
                clear h60
                go_region_held3 (fun w' => w'.cell? ⟨w.heap.size, 0, none⟩ = some (.int .i64 (L : Int)) ∧ w'.cell? ⟨w.heap.size, 1, none⟩ = some (.slice ai t.init.length ci) ∧ w'.cell? ⟨w.heap.size, 2, none⟩ = some (.slice ag t.goal.length cg) ∧ w'.cell? ⟨w.heap.size, 3, none⟩ = some (.slice ao t.ops.length co))
                  (first | go_keep | with_reducible exact ⟨E0.out, E1.out, E2.out, E3.out⟩)
                  (first
                    | (go_at_call 31; refine HTRC.out.mono ?_; rintro en wA ⟨hkA, v2, q, y, rfl, hi, hrun, hyl, hTy, hway, hlo⟩; obtain ⟨a3, c3, hv3, _⟩ := hi.form; subst hv3; have HI := Lib.hid hi; have HLC := Lib.hid (plan_len HC0.out HRE.out HRS.out.2.1 (HTP.out y hyl hTy) hrun hway); have HTA := Lib.hid (HT3.out.keeps0 hkA); have HRA := Lib.hid (HR3.out.keeps0 hkA); have A0 := hkA.cell HB3.out.c0 (fun h => h); have A1 := hkA.cell HB3.out.c1 (fun h => h); have A2 := hkA.cell HB3.out.c2 (fun h => h); have A3 := hkA.cell HB3.out.c3 (fun h => h); have hres := sresult_long wA _ _ _ _ t (intsP q) true (n : Int) HTA.out OK.out HI.out (planIn_run hrun) (by have h1 := H60.out; have h2 := HLC.out.1; unfold intsP; rw [List.length_map]; omega); rw [HLN.out] at hres; have HRES := Lib.hid hres; clear hi hrun hyl hTy hway hlo hkA hres)
                    | (go_at_call 30; refine HRES.out.mono ?_; rintro en wC ⟨rfl, hkC⟩; have C0 := hkC.cell A0 (fun h => h); have C1 := hkC.cell A1 (fun h => h); have C2 := hkC.cell A2 (fun h => h); have C3 := hkC.cell A3 (fun h => h); have HRC := Lib.hid (HRA.out.keeps0 hkC); obtain ⟨r0, r1, r2, r3, y0, y1, y2, y3, hlR⟩ := HRC.out.cells; obtain ⟨e0, e1, z0, z1, hF⟩ := HRC.out.flt.cells; have HFIN := Lib.hid (HRC.out.set (.bool false) (.slice none 0 0) (.int .i64 0) (.int .i64 0) (.int .i64 10) (.int .i64 (-9))); have hne : ¬ (w.heap.size = w.heap.size + 1 ∨ w.heap.size = w.heap.size + 1 + 1) := (by omega); have E0 := Lib.hid (HFIN.out.2.2.2.cell C0 hne); have E1 := Lib.hid (HFIN.out.2.2.2.cell C1 hne); have E2 := Lib.hid (HFIN.out.2.2.2.cell C2 hne); have E3 := Lib.hid (HFIN.out.2.2.2.cell C3 hne); clear hkC A0 A1 A2 A3 hne))
                all_goals
                  go_wp2_with fail
                  refine bodyPost_ret (results_cell_cell _ _ (w.heap.size + 1 + 1) 28 #[.int .i64 10, .int .i64 (-9)] (0, 0) _ rfl rfl HFIN.out.2.1 Try.underlying28 rfl (by kernel_rfl) rfl HFIN.out.1 Try.underlying39 rfl (by kernel_rfl)) rfl ?_
                  exact ⟨HFIN.out.2.2.1, false, _, [], 0, 0, 10, -9, rfl, Ints.nil _, bplan_long OK.out HX.out HBT.out (by omega) HLC.out.2.1 (by have h1 := HLC.out.1; have h2 := H60.out; omega), fun h => absurd h (by decide)⟩

end Go.Proofs.Ytjcgkmodmjckjaa

namespace Go.Proofs.Ytjcgkmodmjckjaa

section
variable {ops : List Wop} {s : Nat} {out : List Int}
theorem sum_snocI (l : List Int) (c : Int) : (l ++ [c]).sum = l.sum + c := by
  induction l with
  | nil => simp
  | cons a r ih => rw [List.cons_append, List.sum_cons, List.sum_cons, ih]; omega
theorem lay_sums (h : LayersIs ops s out) : ∀ k, k ≤ out.length → ∃ U : List Nat, U.Nodup ∧ (∀ x, x ∈ U ↔ ∃ n, n < k ∧ Dp ops s x n) ∧ (out.take k).sum = (U.length : Int) := by
  intro k
  induction k with
  | zero => intro _; exact ⟨[], List.nodup_nil, fun x => ⟨fun h => by simp at h, fun ⟨n, hn, _⟩ => by omega⟩, by simp⟩
  | succ k ih =>
    intro hk
    obtain ⟨U, h1, h2, h3⟩ := ih (by omega)
    obtain ⟨c, hc⟩ : ∃ c, out[k]? = some c := ⟨_, List.getElem?_eq_getElem (by omega)⟩
    obtain ⟨S, g1, _, g3, g4⟩ := h.1 k c hc
    refine ⟨U ++ S, List.nodup_append.2 ⟨h1, g1, fun a ha b hb e => ?_⟩, fun x => ?_, ?_⟩
    · subst e
      obtain ⟨n, hn, hd⟩ := (h2 a).1 ha
      have := hd.unique ((g3 a).1 hb); omega
    · rw [List.mem_append, h2, g3]
      constructor
      · rintro (⟨n, hn, hd⟩ | hd)
        · exact ⟨n, by omega, hd⟩
        · exact ⟨k, by omega, hd⟩
      · rintro ⟨n, hn, hd⟩
        by_cases e : n = k
        · subst e; exact .inr hd
        · exact .inl ⟨n, by omega, hd⟩
    · rw [take_getS hc, sum_snocI, h3, g4, List.length_append]; omega
/-- They add up to the number of the states. -/
theorem lay_sum (h : LayersIs ops s out) {l : List Nat} (hd : l.Nodup) (hl : ∀ x, x ∈ l ↔ ∃ q, runOps ops s q = some x) : out.sum = (l.length : Int) := by
  obtain ⟨U, h1, h2, h3⟩ := lay_sums h out.length (Nat.le_refl _)
  rw [List.take_of_length_le (Nat.le_refl _)] at h3
  have hm : ∀ x, x ∈ U ↔ x ∈ l := fun x => by
    rw [h2, hl]
    constructor
    · rintro ⟨n, _, ⟨q, hq, _⟩, _⟩; exact ⟨q, hq⟩
    · rintro ⟨q, hq⟩
      obtain ⟨n, _, hn⟩ := Dp.least q.length q (Nat.le_refl _) hq
      exact ⟨n, h.2 _ _ hn, hn⟩
  have a := nodup_sub h1 (r := l) (fun x hx => (hm x).1 hx)
  have b := nodup_sub hd (r := U) (fun x hx => (hm x).2 hx)
  rw [h3]; congr 1; omega
theorem lay_pos (h : LayersIs ops s out) {i : Nat} {c : Int} (hc : out[i]? = some c) : 0 < c := by
  obtain ⟨S, _, g2, _, g4⟩ := h.1 i c hc
  have := List.length_pos_iff.2 g2
  omega
theorem lay_first (h : LayersIs ops s out) : out[0]? = some 1 := by
  have h0 := h.2 s 0 Dp.zero
  obtain ⟨c, hc⟩ : ∃ c, out[0]? = some c := ⟨_, List.getElem?_eq_getElem h0⟩
  obtain ⟨S, g1, _, g3, g4⟩ := h.1 0 c hc
  have a := nodup_sub g1 (r := [s]) (fun x hx => by rw [((g3 x).1 hx).start]; simp)
  have b := nodup_sub (l := [s]) (by simp) (r := S) (fun x hx => by rw [List.mem_singleton.1 hx]; exact (g3 s).2 Dp.zero)
  rw [hc, g4]
  simp only [List.length_singleton] at a b
  congr 1; omega
/-- A shortest plan has fewer steps than there are layers. -/
theorem lay_plan (h : LayersIs ops s out) {acc : Nat → Bool} {q : List Nat} {y : Nat} (hq : runOps ops s q = some y) (ha : acc y = true) (hs : ∀ p z, runOps ops s p = some z → acc z = true → q.length ≤ p.length) : q.length < out.length :=
  h.2 y q.length ⟨⟨q, hq, rfl⟩, fun p hp => hs p y hp ha⟩
end

end Go.Proofs.Ytjcgkmodmjckjaa

namespace Go.Proofs.Ytjcgkmodmjckjaa
open Go.RowKit

/-! ### StateFault of the reference -/
end Go.Proofs.Ytjcgkmodmjckjaa

/- isOne at the task step. -/
namespace Go.Proofs.Ytjcgkmodmjckjaa
open Go.RowKit

set_option maxRecDepth 100000 in
set_option maxHeartbeats 1000000 in
theorem isOne_any (w : World) (vp : Value) (n : Int) (h : Ints w vp [0]) :
    Calls Try.prog 12 #[resV true vp 3 n, fltV 0 0] w fun e w' => e = .returned (.bool true) ∧ Keeps (fun _ => False) w w' := by
  obtain ⟨ap, cp, h4, _⟩ := h.form
  subst h4
  have KA := (Keeps.refl (fun _ => False) w).alloc (.cells #[.bool true, .slice ap 1 cp, .int .i64 3, .int .i64 n] 39)
  have KB := (Keeps.refl (fun _ => False) (w.alloc (.cells #[.bool true, .slice ap 1 cp, .int .i64 3, .int .i64 n] 39))).alloc (.cells #[.int .i64 0, .int .i64 0] 28)
  have HK := Lib.hid (KA.trans KB)
  have HX := KB.heap (heap_alloc_new w (.cells #[.bool true, .slice ap 1 cp, .int .i64 3, .int .i64 n] 39)) (fun h => h)
  have HF := heap_alloc_new (w.alloc (.cells #[.bool true, .slice ap 1 cp, .int .i64 3, .int .i64 n] 39)) (.cells #[.int .i64 0, .int .i64 0] 28)
  rw [World.size_alloc] at HF
  have HP := Lib.hid (show Ints _ (.slice ap 1 cp) [0] from h.keeps0 (KA.trans KB))
  clear KA KB h
  unfold resV fltV
  go_enter Try.func12, Try.ntmps12
  go_upto_region 1 with fail
  generalize (w.alloc (.cells #[.bool true, .slice ap 1 cp, .int .i64 3, .int .i64 n] 39)).alloc (.cells #[.int .i64 0, .int .i64 0] 28) = w1 at HX HF HK HP ⊢
  have s0 : w1.cell? ⟨w.heap.size, 0, none⟩ = some (.bool true) := by rw [cell_of_blk HX]; rfl
  have s1 : w1.cell? ⟨w.heap.size, 1, none⟩ = some (.slice ap 1 cp) := by rw [cell_of_blk HX]; rfl
  have s2 : w1.cell? ⟨w.heap.size, 2, none⟩ = some (.int .i64 3) := by rw [cell_of_blk HX]; rfl
  have f0 : w1.cell? ⟨w.heap.size + 1, 0, none⟩ = some (.int .i64 0) := by rw [cell_of_blk HF]; rfl
  have hl := lt_of_heap HX
  have hlF := lt_of_heap HF
  have kc := (Keeps.refl (fun _ => False) w1).alloc (.cells #[.int .i64 0] 3)
  have HQ := Lib.hid (Ints.one (x := 0) (heap_alloc_new w1 (.cells #[.int .i64 0] 3)))
  have HP2 := Lib.hid (show Ints _ (.slice ap 1 cp) [0] from HP.out.keeps0 kc)
  have HK2 := Lib.hid (HK.out.trans kc)
  have HX2 := Lib.hid (kc.heap HX (fun h => h))
  clear kc HX HF
  go_wp2_with fail
  refine (ints_any _ _ _ _ _ HP2.out HQ.out).mono ?_; rintro e w3 ⟨rfl, hk⟩
  have hx := hk.heap HX2.out (fun h => h)
  clear s0 s1 s2 hl
  have s2 : w3.cell? ⟨w.heap.size, 2, none⟩ = some (.int .i64 3) := by rw [cell_of_blk hx]; rfl
  have hl := lt_of_heap hx
  have HKE := Lib.hid (HK2.out.trans hk)
  clear hx hk
  go_wp2_with fail
  go_ret
  exact ⟨rfl, HKE.out⟩

end Go.Proofs.Ytjcgkmodmjckjaa

namespace Go.Proofs.Ytjcgkmodmjckjaa
open Go.RowKit

theorem stepS_run {q : List Nat} {x y : Nat} (h : runOps (wordsOf stepT.ops) x q = some y) : costN (wordsOf stepT.ops) q = 3 * (q.length : Int) ∧ ∀ k ∈ q, k = 0 := by
  have hl := runOps_lt h
  have hz : ∀ k ∈ q, k = 0 := fun k hk => by
    have h1 := hl k hk
    have h2 : (wordsOf stepT.ops).length = 1 := rfl
    omega
  refine ⟨?_, hz⟩
  clear h hl
  induction q with
  | nil => rfl
  | cons a r ih =>
    obtain rfl := hz a (by simp)
    have h1 := ih (fun k hk => hz k (by simp [hk]))
    rw [costN, h1, List.length_cons]
    have : ((wordsOf stepT.ops)[0]?.map Wop.cost).getD 0 = 3 := rfl
    rw [this]
    omega
theorem stepS_least : BestT stepT 12289 := by
  refine .inr ⟨by decide, ⟨[0], 1, by decide, by decide, by decide⟩, fun p y hr hy => ?_⟩
  have h1 := (stepS_run hr).1
  rw [wayN_split, h1]
  cases p with
  | nil =>
    simp [runOps] at hr; subst hr
    exact absurd hy (by decide)
  | cons a q => rw [List.length_cons]; omega
theorem stepS_expF : expF stepT = (0, 0) := by unfold expF; rw [if_pos (by rw [stepT_ok]), stepT_reached]
theorem stepS_all : ([0, 1] : List Nat).Nodup ∧ (∀ x, x ∈ ([0, 1] : List Nat) ↔ ∃ q, runOps (wordsOf stepT.ops) (wd stepT.init) q = some x) := by
  have h := reached_some (ops := wordsOf stepT.ops) (s := wd stepT.init) stepT_reached
  refine ⟨h.1, fun x => (h.2.2.2 x).trans ⟨fun hx => ?_, fun ⟨q, hq⟩ => reach_run q .refl hq⟩⟩
  induction hx with
  | refl => exact ⟨[], rfl⟩
  | step _ hy ih =>
    obtain ⟨q, hq⟩ := ih
    obtain ⟨o, ho, rfl⟩ := List.mem_map.1 hy
    obtain ⟨ho, hc⟩ := List.mem_filter.1 ho
    obtain ⟨k, hk⟩ := List.mem_iff_getElem?.1 ho
    exact ⟨q ++ [k], runOps_snoc' hq hk hc⟩
theorem stepS_layers {out : List Int} (h : LayersIs (wordsOf stepT.ops) (wd stepT.init) out) : out = [1, 1] := by
  have h1 := lay_first h
  have h2 := lay_sum h stepS_all.1 stepS_all.2
  have h3 : ¬ 2 < out.length := fun hlt => by
    obtain ⟨S, _, g2, g3, _⟩ := h.1 2 _ (List.getElem?_eq_getElem hlt)
    obtain ⟨x, hx⟩ := List.exists_mem_of_ne_nil _ g2
    have := Dp.lt (l := [0, 1]) (fun q y hq => (stepS_all.2 y).2 ⟨q, hq⟩) ((g3 x).1 hx)
    simp at this
  cases out with
  | nil => simp at h1
  | cons a r =>
    simp at h1; subst h1
    cases r with
    | nil => simp at h2
    | cons b r2 =>
      cases r2 with
      | nil =>
        simp only [List.sum_cons, List.sum_nil, List.length_cons, List.length_nil] at h2
        have : b = 1 := by omega
        rw [this]
      | cons c r3 => simp at h3
theorem stepS_cheaper {k : Nat} (h : CntIs (wordsOf stepT.ops) (wd stepT.init) (fun p => (12289 : Int) < 0 ∨ (p : Int) < 12289) k) : k = 1 := by
  obtain ⟨S, h1, h2, h3⟩ := h
  have h0 : (0 : Nat) ∈ S := (h2 0).2 ⟨0, .inr (by decide), Pd.zero (ops := wordsOf stepT.ops) (s := wd stepT.init) (fun o ho => by
    have : o = (⟨0, 1, 0, 3⟩ : Wop) := by simpa [wordsOf, stepT, Opr.word, wd] using ho
    subst this; decide)⟩
  have h4 := nodup_sub h1 (r := [0]) (fun x hx => by
    obtain ⟨p, hp, ⟨q, hq, hw⟩, _⟩ := (h2 x).1 hx
    rw [wayN_split, (stepS_run hq).1] at hw
    have hl : q.length = 0 := by omega
    have : q = [] := List.length_eq_zero_iff.1 hl
    subst this
    cases hq; exact List.mem_singleton.2 rfl)
  have h5 := List.length_pos_iff.2 (List.ne_nil_of_mem h0)
  simp only [List.length_singleton] at h4
  omega
theorem Ints.pair {w : World} {b : Nat} {x y : Int} {T : TypeId} (h : w.heap[b]? = some (.cells #[.int .i64 x, .int .i64 y] T (0, 0))) : Ints w (.slice (some ⟨b, 0, none⟩) 2 2) [x, y] := by
  refine ⟨_, _, rfl, by simp [maxLen], fun _ => ⟨b, 0, rfl, fun j z hj => ?_⟩⟩
  rw [Nat.zero_add, cell_of_blk h]
  cases j with
  | zero => simpa using hj
  | succ j =>
    cases j with
    | zero => simpa using hj
    | succ j => simp at hj
theorem layersStep_any (w : World) (vi vg vo : Value) (h : TaskAt w vi vg vo stepT) :
    Calls Try.prog 6 #[.agg #[.int .i64 1, vi, vg, vo]] w fun e w' => ∃ v, e = .returned (.tuple #[v, fltV 0 0]) ∧ Ints w' v [1, 1] ∧ Keeps (fun _ => False) w w' := by
  refine (layers_any w vi vg vo stepT h).mono ?_
  rintro e w' ⟨hk, v, out, fc, fi, rfl, hi, hr⟩
  rcases hr with ⟨h1, h2, _⟩ | ⟨rfl, rfl, _, l, _, hl⟩
  · rw [stepS_expF] at h2; cases h2; exact absurd rfl h1
  · rw [stepS_layers hl] at hi
    exact ⟨v, rfl, hi, hk⟩
theorem splanStep_any (w : World) (vi vg vo : Value) (h : TaskAt w vi vg vo stepT) :
    Calls Try.prog 10 #[.agg #[.int .i64 1, vi, vg, vo]] w fun e w' => ∃ v, e = .returned (.tuple #[resV true v 3 1, fltV 0 0]) ∧ Ints w' v [0] ∧ Keeps (fun _ => False) w w' := by
  refine (splan_any w vi vg vo stepT h).mono ?_
  rintro e w' ⟨hk, fnd, vp, lp, c, n, fc, fi, rfl, hi, hr, hn⟩
  rcases hr with ⟨h1, h2, _⟩ | ⟨_, _, l, b, hx, hb, hr⟩
  · rw [stepS_expF] at h2; cases h2; exact absurd rfl h1
  · obtain rfl := LeastOf.unique hb stepS_least
    rcases hr with ⟨h1, _⟩ | ⟨_, rfl, rfl, hg⟩
    · exact absurd h1 (by decide)
    · obtain ⟨rfl, q, y, rfl, hrun, hacc, hlen, hcost, rfl⟩ := hg.some_ (by decide)
      have hz := (stepS_run hrun).2
      have hl : q.length = 1 := by omega
      obtain ⟨a, rfl⟩ := List.length_eq_one_iff.1 hl
      obtain rfl := hz a (by simp)
      obtain ⟨k, rfl, hc⟩ := hn rfl 12289 hb
      obtain rfl := stepS_cheaper hc
      exact ⟨vp, rfl, hi, hk⟩

set_option maxRecDepth 100000 in
set_option maxHeartbeats 2000000 in
theorem symExample_any (w : World) : Calls Try.prog 5 #[] w fun e w' => e = .returned (.bool true) ∧ Keeps (fun _ => False) w w' := by
  go_enter Try.func5, Try.ntmps5
  go_wp2_with fail
  refine (step_any _).mono ?_; rintro e w1 ⟨vi, vg, vo, rfl, ht, hk⟩
  have HT := Lib.hid ht; have K1 := Lib.hid hk
  clear ht hk
  go_wp2_with fail
  refine (layersStep_any _ _ _ _ HT.out).mono ?_; rintro e w2 ⟨vl, rfl, hp, hk⟩
  obtain ⟨al, cl, hvp, _⟩ := hp.form
  subst hvp
  simp only [fltV]
  have KA := (Keeps.refl (fun _ => False) w2).alloc (.cells #[.int .i64 0, .int .i64 0] 28)
  have HL3 := Lib.hid (hp.keeps0 KA); have K3 := Lib.hid ((K1.out.trans hk).trans KA)
  have F3 := Lib.hid (heap_alloc_new w2 (.cells #[.int .i64 0, .int .i64 0] 28))
  clear hp hk HT KA
  go_upto_region 2 with fail
  generalize w2.alloc (.cells #[.int .i64 0, .int .i64 0] 28) = w3 at HL3 K3 F3 ⊢
  generalize w2.heap.size = b3 at F3 ⊢
  go_wp2_with fail
  refine (step_any _).mono ?_; rintro e w4 ⟨vi2, vg2, vo2, rfl, ht, hk⟩
  have HT := Lib.hid ht; have K4 := Lib.hid (K3.out.trans hk); have HL4 := Lib.hid (HL3.out.keeps0 hk); have F4 := Lib.hid (hk.heap F3.out (fun h => h))
  clear ht hk
  go_wp2_with fail
  refine (splanStep_any _ _ _ _ HT.out).mono ?_; rintro e w5 ⟨vp, rfl, hp, hk⟩
  obtain ⟨ap, cp, hvp, _⟩ := hp.form
  subst hvp
  simp only [resV, fltV]
  have KA := (Keeps.refl (fun _ => False) w5).alloc (.cells #[.bool true, .slice ap 1 cp, .int .i64 3, .int .i64 1] 39)
  have KB := (Keeps.refl (fun _ => False) (w5.alloc (.cells #[.bool true, .slice ap 1 cp, .int .i64 3, .int .i64 1] 39))).alloc (.cells #[.int .i64 0, .int .i64 0] 28)
  have KC := hk.trans (KA.trans KB)
  have G6 := Lib.hid (KB.heap (heap_alloc_new w5 (.cells #[.bool true, .slice ap 1 cp, .int .i64 3, .int .i64 1] 39)) (fun h => h))
  have hf := heap_alloc_new (w5.alloc (.cells #[.bool true, .slice ap 1 cp, .int .i64 3, .int .i64 1] 39)) (.cells #[.int .i64 0, .int .i64 0] 28)
  rw [World.size_alloc] at hf
  have J6 := Lib.hid hf
  have HQ6 := Lib.hid (hp.keeps0 (KA.trans KB))
  have K6 := Lib.hid (K4.out.trans KC); have HL6 := Lib.hid (HL4.out.keeps0 KC); have F6 := Lib.hid (KC.heap F4.out (fun h => h))
  clear hp hk KA KB KC hf
  go_upto_region 3 with fail
  generalize (w5.alloc (.cells #[.bool true, .slice ap 1 cp, .int .i64 3, .int .i64 1] 39)).alloc (.cells #[.int .i64 0, .int .i64 0] 28) = w6 at G6 J6 HQ6 K6 HL6 F6 ⊢
  generalize w5.heap.size = b6 at G6 J6 ⊢
  obtain ⟨f0, f1, _, _, fl⟩ := pair_cells F6.out
  have KI := (Keeps.refl (fun _ => False) w6).alloc (.cells #[.int .i64 1, .int .i64 1] 3)
  have HI := Lib.hid (ints_any _ _ _ [1, 1] [1, 1] (HL6.out.keeps0 KI) (Ints.pair (heap_alloc_new w6 (.cells #[.int .i64 1, .int .i64 1] 3))))
  have HKI := Lib.hid KI
  clear KI
  go_wp2_with fail
  refine HI.out.mono ?_; rintro e w7 ⟨rfl, hk⟩
  have KC := HKI.out.trans hk
  have G7 := Lib.hid (KC.heap G6.out (fun h => h)); have J7 := Lib.hid (KC.heap J6.out (fun h => h)); have HQ7 := Lib.hid (HQ6.out.keeps0 KC); have K7 := Lib.hid (K6.out.trans KC)
  clear hk KC f0 f1 fl HI
  obtain ⟨g0, g1, g2, g3, gl⟩ := quad_cells G7.out
  obtain ⟨j0, j1, _, _, jl⟩ := pair_cells J7.out
  go_wp2_with fail
  refine (isOne_any _ _ 1 HQ7.out).mono ?_; rintro e w8 ⟨rfl, hk⟩
  have K8 := Lib.hid (K7.out.trans hk)
  have G8 := Lib.hid (hk.heap G7.out (fun h => h))
  clear hk g0 g1 g2 g3 gl j0 j1 jl
  obtain ⟨g0, g1, g2, g3, gl⟩ := quad_cells G8.out
  go_wp2_with fail
  go_ret
  exact ⟨rfl, K8.out⟩

end Go.Proofs.Ytjcgkmodmjckjaa

namespace Go.Proofs.Ytjcgkmodmjckjaa
open Go.RowKit

section
variable {w : World} {vi vg vo : Value} {t : Tsk}
theorem layers_bad (h : TaskAt w vi vg vo t) {c i : Int} (hc : c ≠ 0) (he : expF t = (c, i)) :
    Calls Try.prog 6 #[.agg #[.int .i64 t.n, vi, vg, vo]] w fun e w' => ∃ v, e = .returned (.tuple #[v, fltV c i]) ∧ Ints w' v [] ∧ Keeps (fun _ => False) w w' := by
  refine (layers_any w vi vg vo t h).mono ?_
  rintro e w' ⟨hk, v, out, fc, fi, rfl, hi, hr⟩
  rcases hr with ⟨h1, h2, rfl⟩ | ⟨_, _, ok, l, hx, _⟩
  · rw [he] at h2; cases h2; exact ⟨v, rfl, hi, hk⟩
  · exact (exp_none hc he ok hx).elim
theorem layers_good (h : TaskAt w vi vg vo t) (ok : t.Ok) {l : List Nat} (hx : explored t = some l) :
    Calls Try.prog 6 #[.agg #[.int .i64 t.n, vi, vg, vo]] w fun e w' => ∃ v out, e = .returned (.tuple #[v, fltV 0 0]) ∧ Ints w' v out ∧ LayersIs (wordsOf t.ops) (wd t.init) out ∧ Keeps (fun _ => False) w w' := by
  refine (layers_any w vi vg vo t h).mono ?_
  rintro e w' ⟨hk, v, out, fc, fi, rfl, hi, hr⟩
  rcases hr with ⟨h1, h2, _⟩ | ⟨rfl, rfl, _, l, _, hl⟩
  · exact (exp_none h1 h2 ok hx).elim
  · exact ⟨v, out, rfl, hi, hl, hk⟩
theorem bplan_form (h : TaskAt w vi vg vo t) :
    Calls Try.prog 8 #[.agg #[.int .i64 t.n, vi, vg, vo]] w fun e w' => ∃ a n cap ok c i, e = .returned (.tuple #[.slice a n cap, .bool ok, fltV c i]) ∧ Keeps (fun _ => False) w w' := by
  refine (plan_any w vi vg vo t h).mono ?_
  rintro e w' ⟨hk, hr⟩
  rcases hr with ⟨_, rfl⟩ | ⟨_, _, rfl⟩ | ⟨_, l, _, hway⟩
  · exact ⟨_, _, _, _, _, _, rfl, hk⟩
  · exact ⟨_, _, _, _, _, _, rfl, hk⟩
  · rcases hway with ⟨_, rfl⟩ | ⟨p, _, ⟨_, rfl⟩ | ⟨_, v, rfl, hr⟩⟩
    · exact ⟨_, _, _, _, _, _, rfl, hk⟩
    · exact ⟨_, _, _, _, _, _, rfl, hk⟩
    · obtain ⟨a, c, hv⟩ := ownsRow_form1 hr
      subst hv
      exact ⟨_, _, _, _, _, _, rfl, hk⟩
theorem bplan_lies (h : TaskAt w vi vg vo t) (ok : t.Ok) {l : List Nat} (hx : explored t = some l) {out : List Int} (hl : LayersIs (wordsOf t.ops) (wd t.init) out) :
    Calls Try.prog 8 #[.agg #[.int .i64 t.n, vi, vg, vo]] w fun e w' => ((∃ a n cap, e = .returned (.tuple #[.slice a n cap, .bool false, fltV 0 0])) ∨ (∃ a n cap ok, e = .returned (.tuple #[.slice a n cap, .bool ok, fltV 10 (-9)])) ∨ ∃ a n cap, e = .returned (.tuple #[.slice a n cap, .bool true, fltV 0 0]) ∧ n < out.length) ∧ Keeps (fun _ => False) w w' := by
  refine (plan_any w vi vg vo t h).mono ?_
  rintro e w' ⟨hk, hr⟩
  rcases hr with ⟨hc, _⟩ | ⟨_, hn, _⟩ | ⟨_, l', _, hway⟩
  · exact absurd (taskFault_zero.2 ok) hc
  · rw [hx] at hn; cases hn
  · rcases hway with ⟨_, rfl⟩ | ⟨p, hb, ⟨_, rfl⟩ | ⟨_, v, rfl, hr⟩⟩
    · exact ⟨.inl ⟨_, _, _, rfl⟩, hk⟩
    · exact ⟨.inr (.inl ⟨_, _, _, _, rfl⟩), hk⟩
    · obtain ⟨a, c, hv⟩ := ownsRow_form1 hr
      subst hv
      obtain ⟨⟨y, h1, h2⟩, h3⟩ := hb
      exact ⟨.inr (.inr ⟨_, _, _, rfl, lay_plan hl h1 h2 (fun q z hq hz => by
        have := h3 q z hq hz
        rcases this with h4 | h4
        · omega
        · omega)⟩), hk⟩
end
theorem lay_sum_le {ops : List Wop} {s : Nat} {out : List Int} (h : LayersIs ops s out) {l : List Nat} (hl : ∀ q y, runOps ops s q = some y → y ∈ l) {k : Nat} (hk : k ≤ out.length) : 0 ≤ (out.take k).sum ∧ (out.take k).sum ≤ (l.length : Int) := by
  obtain ⟨U, h1, h2, h3⟩ := lay_sums h k hk
  have := nodup_sub h1 (r := l) (fun x hx => by
    obtain ⟨n, _, ⟨q, hq, _⟩, _⟩ := (h2 x).1 hx
    exact hl q x hq)
  omega

set_option maxRecDepth 100000 in
set_option maxHeartbeats 1000000 in
theorem addUp_any (w : World) (vi vg vo : Value) (t : Tsk) (h : TaskAt w vi vg vo t) :
    Calls Try.prog 3 #[.agg #[.int .i64 t.n, vi, vg, vo]] w fun e w' => e = .returned (.bool true) ∧ Keeps (fun _ => False) w w' := by
  obtain ⟨ai, ci, h1, _⟩ := h.init.form
  obtain ⟨ag, cg, h2, _⟩ := h.goal.form
  obtain ⟨ao, co, h3, hmo⟩ := h.ops.form
  subst h1 h2 h3
  have HB := Lib.hid (Four.new w (.int .i64 t.n) (.slice ai t.init.length ci) (.slice ag t.goal.length cg) (.slice ao t.ops.length co) 25)
  have K1 := (Keeps.refl (fun _ => False) w).alloc (.cells #[.int .i64 t.n, .slice ai t.init.length ci, .slice ag t.goal.length cg, .slice ao t.ops.length co] 25)
  have HT := Lib.hid (h.keeps0 K1); have HK := Lib.hid K1
  clear h K1
  go_enter Try.func3, Try.ntmps3
  go_upto_region 1 with fail
  generalize (w.alloc (.cells #[.int .i64 t.n, .slice ai t.init.length ci, .slice ag t.goal.length cg, .slice ao t.ops.length co] 25)) = w1 at HB HT HK ⊢
  generalize w.heap.size = bt at HB ⊢
  go_wp2_with fail
  refine (symExample_any _).mono ?_; rintro e w2 ⟨rfl, hk⟩
  have HB1 := Lib.hid (HB.out.keeps0 hk); have HT1 := Lib.hid (HT.out.keeps0 hk); have HK1 := Lib.hid (HK.out.trans hk)
  clear HB HT HK
  clear hk
  rcases exp_cases t with ⟨c, i, hc, he⟩ | ⟨hok, l, hx, he⟩
  ·
    have HC := Lib.hid hc; have HE := Lib.hid he
    have hcb : (c != 0) = true := by simpa using hc
    have hcc : (c == c) = true := by simp
    have hii : (i == i) = true := by simp
    clear hc he
    have hbxd := HB1.out.lt
    obtain ⟨d0, d1, d2, d3⟩ := HB1.out
    go_wp2_with fail
    refine (layers_bad HT1.out HC.out HE.out).mono ?_; rintro e y1 ⟨v1, rfl, hr, hk⟩
    obtain ⟨a1, c1, hv, _⟩ := hr.form
    subst hv
    clear hbxd d0 d1 d2 d3
    simp only [fltV]
    have KA := (Keeps.refl (fun _ => False) y1).alloc (.cells #[.int .i64 c, .int .i64 i] 28)
    have KB := hk.trans KA
    have HB2 := Lib.hid (HB1.out.keeps0 KB); have HT2 := Lib.hid (HT1.out.keeps0 KB); have HK2 := Lib.hid (HK1.out.trans KB)
    clear HB1 HT1 HK1
    have F1 := Lib.hid (heap_alloc_new y1 (.cells #[.int .i64 c, .int .i64 i] 28))
    clear hk KA KB
    go_upto_region 4 with fail
    generalize y1.alloc (.cells #[.int .i64 c, .int .i64 i] 28) = z1 at HB2 HT2 HK2 F1 ⊢
    generalize y1.heap.size = b1 at F1 ⊢
    have hbxd := HB2.out.lt
    obtain ⟨d0, d1, d2, d3⟩ := HB2.out
    go_wp2_with fail
    refine (explore_bad HT2.out HC.out HE.out).mono ?_; rintro e y2 ⟨rfl, hk⟩
    clear hbxd d0 d1 d2 d3
    simp only [fltV]
    have KA := (Keeps.refl (fun _ => False) y2).alloc (.cells #[.int .i64 c, .int .i64 i] 28)
    have KB := hk.trans KA
    have HB3 := Lib.hid (HB2.out.keeps0 KB); have HT3 := Lib.hid (HT2.out.keeps0 KB); have HK3 := Lib.hid (HK2.out.trans KB); have F11 := Lib.hid (KB.heap F1.out (fun h => h))
    clear HB2 HT2 HK2 F1
    have F2 := Lib.hid (heap_alloc_new y2 (.cells #[.int .i64 c, .int .i64 i] 28))
    clear hk KA KB
    go_upto_region 5 with fail
    generalize y2.alloc (.cells #[.int .i64 c, .int .i64 i] 28) = z2 at HB3 HT3 HK3 F11 F2 ⊢
    generalize y2.heap.size = b2 at F2 ⊢
    obtain ⟨p1, q1, r1, s1, l1⟩ := pair_cells F11.out
    clear r1 s1
    obtain ⟨p2, q2, r2, s2, l2⟩ := pair_cells F2.out
    clear r2 s2
    go_wp2_with fail
    go_ret
    exact ⟨by simp, HK3.out⟩
  ·
    have OK := Lib.hid hok; have HX := Lib.hid hx
    clear hok hx he
    have hbxd := HB1.out.lt
    obtain ⟨d0, d1, d2, d3⟩ := HB1.out
    go_wp2_with fail
    refine (layers_good HT1.out OK.out HX.out).mono ?_; rintro e y1 ⟨v1, out, rfl, hr, hlay, hk⟩
    have HLY := Lib.hid hlay
    obtain ⟨a1, c1, hv, hmx⟩ := hr.form
    subst hv
    clear hbxd d0 d1 d2 d3
    simp only [fltV]
    have KA := (Keeps.refl (fun _ => False) y1).alloc (.cells #[.int .i64 0, .int .i64 0] 28)
    have KB := hk.trans KA
    have HB2 := Lib.hid (HB1.out.keeps0 KB); have HT2 := Lib.hid (HT1.out.keeps0 KB); have HK2 := Lib.hid (HK1.out.trans KB)
    clear HB1 HT1 HK1
    have F1 := Lib.hid (heap_alloc_new y1 (.cells #[.int .i64 0, .int .i64 0] 28))
    have V1 := Lib.hid (hr.keeps0 KA)
    clear hk KA KB
    go_upto_region 4 with fail
    generalize y1.alloc (.cells #[.int .i64 0, .int .i64 0] 28) = z1 at HB2 HT2 HK2 F1 V1 ⊢
    generalize y1.heap.size = b1 at F1 ⊢
    clear hr hlay
    have hbxd := HB2.out.lt
    obtain ⟨d0, d1, d2, d3⟩ := HB2.out
    go_wp2_with fail
    refine (explore_good HT2.out OK.out HX.out).mono ?_; rintro e y2 ⟨ws, v2, hws, rfl, hr, hk⟩
    have WS := Lib.hid hws
    obtain ⟨a2, c2, hv, _⟩ := hr.form
    rw [List.length_map] at hv
    subst hv
    clear hbxd d0 d1 d2 d3
    simp only [fltV]
    have KA := (Keeps.refl (fun _ => False) y2).alloc (.cells #[.int .i64 0, .int .i64 0] 28)
    have KB := hk.trans KA
    have HB3 := Lib.hid (HB2.out.keeps0 KB); have HT3 := Lib.hid (HT2.out.keeps0 KB); have HK3 := Lib.hid (HK2.out.trans KB); have F11 := Lib.hid (KB.heap F1.out (fun h => h)); have V11 := Lib.hid (V1.out.keeps0 KB)
    clear HB2 HT2 HK2 F1 V1
    have F2 := Lib.hid (heap_alloc_new y2 (.cells #[.int .i64 0, .int .i64 0] 28))
    clear hk KA KB
    go_upto_region 5 with fail
    generalize y2.alloc (.cells #[.int .i64 0, .int .i64 0] 28) = z2 at HB3 HT3 HK3 F11 V11 F2 ⊢
    generalize y2.heap.size = b2 at F2 ⊢
    clear hr hws
    obtain ⟨p1, q1, r1, s1, l1⟩ := pair_cells F11.out
    clear r1 s1
    obtain ⟨p2, q2, r2, s2, l2⟩ := pair_cells F2.out
    clear r2 s2
    have HRS := Lib.hid (reached_some (ops := wordsOf t.ops) (s := wd t.init) (l := l) HX.out)
    have HRE := Lib.hid (show ∀ q y, runOps (wordsOf t.ops) (wd t.init) q = some y → y ∈ l from fun q y h => (HRS.out.2.2.2 y).2 (reach_run q .refl h))
    have HSM := Lib.hid (show out.sum = (ws.length : Int) from by
      rw [lay_sum HLY.out HRS.out.1 (fun x => ⟨fun hx => reach_path ((HRS.out.2.2.2 x).1 hx), fun ⟨q, hq⟩ => HRE.out q x hq⟩), WS.out.1.length_eq])
    have hfew : l.length ≤ 2000 := HRS.out.2.1
    have HCV := Lib.hid (V11.out.cell rfl)
    have hpos : 0 < out.length := HLY.out.2 _ _ Dp.zero
    have HFS := Lib.hid (lay_first HLY.out)
    go_wp2_with fail
    go_loopw [7, 8] (fun sv iv wr => ∃ i : Nat, i ≤ out.length ∧ sv = .int .i64 (out.take i).sum ∧ iv = .int .i64 (i : Int) ∧ Keeps (fun _ => False) z2 wr) (fun _ iv _ => out.length - (intOf iv).toNat)
    case atStart => exact ⟨0, Nat.zero_le _, by simp, rfl, Keeps.refl _ _⟩
    case round =>
      obtain ⟨i, hi, rfl, rfl, hkr⟩ := hrel
      have HKR := Lib.hid hkr
      have hsz := hkr.size
      clear hkr p1 q1 l1 p2 q2 l2
      obtain ⟨bl, ol, hbl, hx'⟩ := HCV.out hpos
      subst hbl
      have HCL := Lib.hid hx'
      by_cases hlt : i < out.length
      · obtain ⟨c, hc⟩ : ∃ c, out[i]? = some c := ⟨_, List.getElem?_eq_getElem hlt⟩
        have u0 := HKR.out.cell (hx' i c hc) (fun h => h)
        have hcp := lay_pos HLY.out hc
        have q0 : decide (c ≤ 0) = false := by simp; omega
        have hs1 := lay_sum_le HLY.out HRE.out hi
        have hs2 := lay_sum_le HLY.out HRE.out (show i + 1 ≤ out.length by omega)
        rw [take_getS hc, sum_snocI] at hs2
        have HNX := Lib.hid (show (out.take (i + 1)).sum = (out.take i).sum + c from by rw [take_getS hc, sum_snocI])
        have hi0 : (0 : Int) ≤ (i : Int) := by omega
        have hi1 : (i : Int) < (out.length : Int) := by omega
        generalize (out.take i).sum = s at hs1 hs2 HNX ⊢
        clear hx' hc
        go_wp2_with fail
        go_roundw
        case rel => exact ⟨i + 1, by omega, by rw [HNX.out], by go_num, HKR.out⟩
        case measure => simp [intOf]; omega
      · have hie : i = out.length := by omega
        subst hie
        have hs : (out.take out.length).sum = (ws.length : Int) := by rw [List.take_of_length_le (Nat.le_refl _)]; exact HSM.out
        rw [hs]
        have u0 := HKR.out.cell (hx' 0 1 HFS.out) (fun h => h)
        rw [Nat.add_zero] at u0
        have q0 : decide ((0 : Int) < (out.length : Int)) = true := by simp; omega
        have q1 : decide (0 < out.length) = true := by simp; omega
        have hi1 : (0 : Int) < (out.length : Int) := by omega
        clear hs hx' hlt
        go_wp2_with fail
        go_ret
        exact ⟨by simp, HK3.out.trans HKR.out⟩

set_option maxRecDepth 100000 in
set_option maxHeartbeats 1000000 in
theorem lieIn_any (w : World) (vi vg vo : Value) (t : Tsk) (h : TaskAt w vi vg vo t) :
    Calls Try.prog 4 #[.agg #[.int .i64 t.n, vi, vg, vo]] w fun e w' => e = .returned (.bool true) ∧ Keeps (fun _ => False) w w' := by
  obtain ⟨ai, ci, h1, _⟩ := h.init.form
  obtain ⟨ag, cg, h2, _⟩ := h.goal.form
  obtain ⟨ao, co, h3, hmo⟩ := h.ops.form
  subst h1 h2 h3
  have HB := Lib.hid (Four.new w (.int .i64 t.n) (.slice ai t.init.length ci) (.slice ag t.goal.length cg) (.slice ao t.ops.length co) 25)
  have K1 := (Keeps.refl (fun _ => False) w).alloc (.cells #[.int .i64 t.n, .slice ai t.init.length ci, .slice ag t.goal.length cg, .slice ao t.ops.length co] 25)
  have HT := Lib.hid (h.keeps0 K1); have HK := Lib.hid K1
  clear h K1
  go_enter Try.func4, Try.ntmps4
  go_upto_region 1 with fail
  generalize (w.alloc (.cells #[.int .i64 t.n, .slice ai t.init.length ci, .slice ag t.goal.length cg, .slice ao t.ops.length co] 25)) = w1 at HB HT HK ⊢
  generalize w.heap.size = bt at HB ⊢
  go_wp2_with fail
  refine (symExample_any _).mono ?_; rintro e w2 ⟨rfl, hk⟩
  have HB1 := Lib.hid (HB.out.keeps0 hk); have HT1 := Lib.hid (HT.out.keeps0 hk); have HK1 := Lib.hid (HK.out.trans hk)
  clear HB HT HK
  clear hk
  rcases exp_cases t with ⟨c, i, hc, he⟩ | ⟨hok, l, hx, he⟩
  ·
    have HC := Lib.hid hc; have HE := Lib.hid he
    have hcb : (c != 0) = true := by simpa using hc
    clear hc he
    have hbxd := HB1.out.lt
    obtain ⟨d0, d1, d2, d3⟩ := HB1.out
    go_wp2_with fail
    refine (layers_bad HT1.out HC.out HE.out).mono ?_; rintro e y1 ⟨v1, rfl, hr, hk⟩
    obtain ⟨a1, c1, hv, _⟩ := hr.form
    subst hv
    clear hbxd d0 d1 d2 d3
    simp only [fltV]
    have KA := (Keeps.refl (fun _ => False) y1).alloc (.cells #[.int .i64 c, .int .i64 i] 28)
    have KB := hk.trans KA
    have HB2 := Lib.hid (HB1.out.keeps0 KB); have HT2 := Lib.hid (HT1.out.keeps0 KB); have HK2 := Lib.hid (HK1.out.trans KB)
    clear HB1 HT1 HK1
    have F1 := Lib.hid (heap_alloc_new y1 (.cells #[.int .i64 c, .int .i64 i] 28))
    clear hk KA KB
    go_upto_region 4 with fail
    generalize y1.alloc (.cells #[.int .i64 c, .int .i64 i] 28) = z1 at HB2 HT2 HK2 F1 ⊢
    generalize y1.heap.size = b1 at F1 ⊢
    have hbxd := HB2.out.lt
    obtain ⟨d0, d1, d2, d3⟩ := HB2.out
    go_wp2_with fail
    refine (bplan_form HT2.out).mono ?_; rintro e y2 ⟨a2, n2, k2, ok2, c2, i2, rfl, hk⟩
    clear hbxd d0 d1 d2 d3
    simp only [fltV]
    have KA := (Keeps.refl (fun _ => False) y2).alloc (.cells #[.int .i64 c2, .int .i64 i2] 28)
    have KB := hk.trans KA
    have HB3 := Lib.hid (HB2.out.keeps0 KB); have HT3 := Lib.hid (HT2.out.keeps0 KB); have HK3 := Lib.hid (HK2.out.trans KB); have F11 := Lib.hid (KB.heap F1.out (fun h => h))
    clear HB2 HT2 HK2 F1
    have F2 := Lib.hid (heap_alloc_new y2 (.cells #[.int .i64 c2, .int .i64 i2] 28))
    clear hk KA KB
    go_upto_region 5 with fail
    generalize y2.alloc (.cells #[.int .i64 c2, .int .i64 i2] 28) = z2 at HB3 HT3 HK3 F11 F2 ⊢
    generalize y2.heap.size = b2 at F2 ⊢
    obtain ⟨p1, q1, r1, s1, l1⟩ := pair_cells F11.out
    clear r1 s1
    obtain ⟨p2, q2, r2, s2, l2⟩ := pair_cells F2.out
    clear r2 s2
    go_wp2_with fail
    go_ret
    exact ⟨by simp, HK3.out⟩
  ·
    have OK := Lib.hid hok; have HX := Lib.hid hx
    clear hok hx he
    have hbxd := HB1.out.lt
    obtain ⟨d0, d1, d2, d3⟩ := HB1.out
    go_wp2_with fail
    refine (layers_good HT1.out OK.out HX.out).mono ?_; rintro e y1 ⟨v1, out, rfl, hr, hlay, hk⟩
    have HLY := Lib.hid hlay
    obtain ⟨a1, c1, hv, hmx⟩ := hr.form
    subst hv
    clear hbxd d0 d1 d2 d3
    simp only [fltV]
    have KA := (Keeps.refl (fun _ => False) y1).alloc (.cells #[.int .i64 0, .int .i64 0] 28)
    have KB := hk.trans KA
    have HB2 := Lib.hid (HB1.out.keeps0 KB); have HT2 := Lib.hid (HT1.out.keeps0 KB); have HK2 := Lib.hid (HK1.out.trans KB)
    clear HB1 HT1 HK1
    have F1 := Lib.hid (heap_alloc_new y1 (.cells #[.int .i64 0, .int .i64 0] 28))
    clear hk KA KB
    go_upto_region 4 with fail
    generalize y1.alloc (.cells #[.int .i64 0, .int .i64 0] 28) = z1 at HB2 HT2 HK2 F1 ⊢
    generalize y1.heap.size = b1 at F1 ⊢
    clear hr hlay
    have hbxd := HB2.out.lt
    obtain ⟨d0, d1, d2, d3⟩ := HB2.out
    go_wp2_with fail
    refine (bplan_lies HT2.out OK.out HX.out HLY.out).mono ?_; rintro e y2 ⟨hr, hk⟩
    clear hbxd d0 d1 d2 d3
    rcases hr with ⟨a2, n2, k2, rfl⟩ | ⟨a2, n2, k2, ok2, rfl⟩ | ⟨a2, n2, k2, rfl, hlt⟩
    ·
      simp only [fltV]
      have KA := (Keeps.refl (fun _ => False) y2).alloc (.cells #[.int .i64 0, .int .i64 0] 28)
      have KB := hk.trans KA
      have HB3 := Lib.hid (HB2.out.keeps0 KB); have HT3 := Lib.hid (HT2.out.keeps0 KB); have HK3 := Lib.hid (HK2.out.trans KB); have F11 := Lib.hid (KB.heap F1.out (fun h => h))
      clear HB2 HT2 HK2 F1
      have F2 := Lib.hid (heap_alloc_new y2 (.cells #[.int .i64 0, .int .i64 0] 28))
      clear hk KA KB
      go_upto_region 5 with fail
      generalize y2.alloc (.cells #[.int .i64 0, .int .i64 0] 28) = z2 at HB3 HT3 HK3 F11 F2 ⊢
      generalize y2.heap.size = b2 at F2 ⊢
      obtain ⟨p1, q1, r1, s1, l1⟩ := pair_cells F11.out
      clear r1 s1
      obtain ⟨p2, q2, r2, s2, l2⟩ := pair_cells F2.out
      clear r2 s2
      go_wp2_with fail
      go_ret
      exact ⟨by simp, HK3.out⟩
    ·
      simp only [fltV]
      have KA := (Keeps.refl (fun _ => False) y2).alloc (.cells #[.int .i64 10, .int .i64 (-9)] 28)
      have KB := hk.trans KA
      have HB3 := Lib.hid (HB2.out.keeps0 KB); have HT3 := Lib.hid (HT2.out.keeps0 KB); have HK3 := Lib.hid (HK2.out.trans KB); have F11 := Lib.hid (KB.heap F1.out (fun h => h))
      clear HB2 HT2 HK2 F1
      have F2 := Lib.hid (heap_alloc_new y2 (.cells #[.int .i64 10, .int .i64 (-9)] 28))
      clear hk KA KB
      go_upto_region 5 with fail
      generalize y2.alloc (.cells #[.int .i64 10, .int .i64 (-9)] 28) = z2 at HB3 HT3 HK3 F11 F2 ⊢
      generalize y2.heap.size = b2 at F2 ⊢
      obtain ⟨p1, q1, r1, s1, l1⟩ := pair_cells F11.out
      clear r1 s1
      obtain ⟨p2, q2, r2, s2, l2⟩ := pair_cells F2.out
      clear r2 s2
      go_wp2_with fail
      go_ret
      exact ⟨by simp, HK3.out⟩
    ·
      simp only [fltV]
      have KA := (Keeps.refl (fun _ => False) y2).alloc (.cells #[.int .i64 0, .int .i64 0] 28)
      have KB := hk.trans KA
      have HB3 := Lib.hid (HB2.out.keeps0 KB); have HT3 := Lib.hid (HT2.out.keeps0 KB); have HK3 := Lib.hid (HK2.out.trans KB); have F11 := Lib.hid (KB.heap F1.out (fun h => h))
      clear HB2 HT2 HK2 F1
      have F2 := Lib.hid (heap_alloc_new y2 (.cells #[.int .i64 0, .int .i64 0] 28))
      clear hk KA KB
      go_upto_region 5 with fail
      generalize y2.alloc (.cells #[.int .i64 0, .int .i64 0] 28) = z2 at HB3 HT3 HK3 F11 F2 ⊢
      generalize y2.heap.size = b2 at F2 ⊢
      obtain ⟨p1, q1, r1, s1, l1⟩ := pair_cells F11.out
      clear r1 s1
      obtain ⟨p2, q2, r2, s2, l2⟩ := pair_cells F2.out
      clear r2 s2
      have q0 : decide ((n2 : Int) < (out.length : Int)) = true := by simp; omega
      have q1 : decide (n2 < out.length) = true := by simp; omega
      go_wp2_with fail
      go_ret
      exact ⟨by simp, HK3.out⟩

end Go.Proofs.Ytjcgkmodmjckjaa
