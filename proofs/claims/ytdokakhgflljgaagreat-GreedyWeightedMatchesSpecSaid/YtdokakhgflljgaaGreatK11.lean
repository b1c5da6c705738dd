/- relaxed.Costs, Max, Add. The values of facts and of pairs of facts are admissible, in plain Lean. pairs: the walk of use. pairs: the walks of find and Goal. pairs: the walk of Goal. astar.Value at the kinds Max, Add and Pairs. No condition beyond what each theorem says. -/
import Derived.Test.YtdokakhgflljgaaGreatK10
import Derived.Test.YtdokakhgflljgaaGreatK8
import Derived.Test.YtdokakhgflljgaaGreatK9

namespace Go.Proofs.YtdokakhgflljgaaGreat
open Go.RowKit Go.Shelf

def costsV (t : Tsk) : List Int := t.ops.map Opr.cost
theorem costsV_len (t : Tsk) : (costsV t).length = t.ops.length := by unfold costsV; rw [List.length_map]
theorem costsV_low {t : Tsk} (ok : t.Ok) : ∀ c ∈ costsV t, 0 ≤ c ∧ c ≤ 100 := fun c hc => by
  obtain ⟨o, ho, rfl⟩ := List.mem_map.1 hc
  exact ⟨(ok.ops o ho).cost0, (ok.ops o ho).cost1⟩

set_option maxRecDepth 100000 in
set_option maxHeartbeats 4000000 in
theorem rcost_any (w : World) (vi vg vo : Value) (t : Tsk) (h : TaskAt w vi vg vo t) (ok : t.Ok) :
    Calls Tryz.prog 116 #[.agg #[.int .i64 t.n, vi, vg, vo]] w fun e w' => ∃ v, e = .returned v ∧ w'.ownsRow w.heap.size 3 1 v t.ops.length ((costsV t).map (Value.int .i64)) ∧ Keeps (fun _ => False) w w' := by
  obtain ⟨i0, hi0, hz0, hz1, hz2⟩ := info_parts Tryz.info3
  obtain ⟨ai, ci, h1, _⟩ := h.init.form
  obtain ⟨ag, cg, h2, _⟩ := h.goal.form
  obtain ⟨ao, co, h3, hmo⟩ := h.ops.form
  subst h1 h2 h3
  have hop40 : t.ops.length ≤ 40 := ok.few
  have K1 := (Keeps.refl (fun _ => False) w).alloc (.cells #[.int .i64 t.n, .slice ai t.init.length ci, .slice ag t.goal.length cg, .slice ao t.ops.length co] 25)
  have HB := Lib.hid (Four.new w (.int .i64 t.n) (.slice ai t.init.length ci) (.slice ag t.goal.length cg) (.slice ao t.ops.length co) 25)
  have HT := Lib.hid h; have K1 := Lib.hid K1
  clear h ok
  go_enter Tryz.func116, Tryz.ntmps116
  go_upto_region 1 with fail
  generalize (w.alloc (.cells #[.int .i64 t.n, .slice ai t.init.length ci, .slice ag t.goal.length cg, .slice ao t.ops.length co] 25)) = w1 at HB K1 ⊢
  obtain ⟨d0, d1, d2, d3⟩ := HB.out
  have hbx := HB.out.lt
  have hsz := K1.out.size
  go_wp2_with fail
  clear d0 d1 d2 d3 hbx
  go_loopw [3, 9] (fun v3 v9 wr => ∃ k : Nat, v9 = .int .i64 (k : Int) ∧ k ≤ t.ops.length ∧ wr.ownsRow w1.heap.size 3 1 v3 k (((costsV t).take k).map (Value.int .i64)) ∧ Keeps (fun _ => False) w1 wr) (fun _ v9 _ => t.ops.length - (intOf v9).toNat)
  case atStart => exact ⟨0, rfl, Nat.zero_le _, World.ownsRow_nil _ _ _ _, Keeps.refl _ _⟩
  case round =>
    obtain ⟨k, rfl, hk, hown, hkr⟩ := hrel
    by_cases hlt : k < t.ops.length
    · have HKR := Lib.hid hkr
      have KW := Lib.hid (K1.out.trans hkr)
      obtain ⟨bo, oo, rfl, hcell⟩ := HT.out.ops.cell rfl (by omega)
      obtain ⟨o, ho⟩ : ∃ o, t.ops[k]? = some o := ⟨_, List.getElem?_eq_getElem hlt⟩
      obtain ⟨va, vb, vd, p0', p1', p2', p3', i1', i2', i3'⟩ := hcell k o ho
      have p0 := KW.out.cell p0' (fun h => h); have p1 := KW.out.cell p1' (fun h => h); have p2 := KW.out.cell p2' (fun h => h); have p3 := KW.out.cell p3' (fun h => h)
      obtain ⟨a1, k1, f1, _⟩ := i1'.form
      obtain ⟨a2, k3, f2, _⟩ := i2'.form
      obtain ⟨a3, k4, f3, _⟩ := i3'.form
      subst f1 f2 f3
      have HTK := Lib.hid (show ((costsV t).take (k + 1)).map (Value.int .i64) = ((costsV t).take k).map (Value.int .i64) ++ [.int .i64 o.cost] by
        rw [take_getS (k := o.cost) (by unfold costsV; rw [List.getElem?_map, ho]; rfl), List.map_append]; rfl)
      have K4 := (Keeps.refl (fun _ => False) wr).alloc (.cells #[.slice a1 o.pre.length k1, .slice a2 o.add.length k3, .slice a3 o.del.length k4, .int .i64 o.cost] 80)
      have HO4 := Lib.hid (Four.new wr (.slice a1 o.pre.length k1) (.slice a2 o.add.length k3) (.slice a3 o.del.length k4) (.int .i64 o.cost) 80)
      have HOW := Lib.hid (World.ownsRow.alloc hown (.cells #[.slice a1 o.pre.length k1, .slice a2 o.add.length k3, .slice a3 o.del.length k4, .int .i64 o.cost] 80))
      have HK4 := Lib.hid (hkr.trans K4)
      obtain ⟨ao3, cap3, hv3⟩ := ownsRow_form1 hown
      subst hv3
      clear p0' p1' p2' p3' i1' i2' i3' hcell ho hown hkr K4
      go_upto_region 5 with fail
      generalize (wr.alloc (.cells #[.slice a1 o.pre.length k1, .slice a2 o.add.length k3, .slice a3 o.del.length k4, .int .i64 o.cost] 80)) = w4 at HO4 HOW HK4 ⊢
      clear p0 p1 p2 p3
      generalize wr.heap.size = b4 at HO4 ⊢
      obtain ⟨q0, q1, q2, q3⟩ := HO4.out
      have hq4 := HO4.out.lt
      have hs4 := HK4.out.size
      go_wp2_with (at_builtin; refine wpList_append_lies _ rfl _ _ _ rfl w1.heap.size 3 i0 _ 1 8 Tryz.underlying22 hi0 hz0 hz1 hz2 rfl (by omega) _ k _ (by rfl) (HOW.out.alloc _) ⟨w4.heap.size, 0, none⟩ 1 1 [.int .i64 o.cost] (by rfl) (by rfl) ?hnews ?hone (by omega) (by unfold maxLen; omega) (by omega) (by simp; omega) (w4.heap.size + 1) (by simp) ?_)
      case hnews => exact World.news_of_block (cs := #[.int .i64 o.cost]) (t := 3) (fr := (0, 0)) (heap_alloc_new _ _)
      case hone => simp [Value.oneCell']
      intro g cap2 w5 hown2 hgrow hat hlt3
      have k5 := ((Keeps.refl (fun b => (Value.slice ao3 k cap3).ownBlock = some b) w4).alloc (.cells #[.int .i64 o.cost] 3)).grown hgrow (fun k hk => .inl hk)
      have HF := Lib.hid (show w5.ownsRow w1.heap.size 3 1 (.slice (some ⟨g, 0, none⟩) (k + 1) cap2) (k + 1) (((costsV t).take (k + 1)).map (Value.int .i64)) ∧ Keeps (fun _ => False) w1 w5 from
        ⟨by rw [HTK.out, List.map_take]; exact hown2, HK4.out.trans' k5 (fun b hb => .inr (HOW.out.lt b hb).1)⟩)
      clear hown2 hgrow hat q0 q1 q2 q3 k5
      go_wp2_with fail
      go_roundw
      case rel => exact ⟨k + 1, by go_num, by omega, HF.out.1, HF.out.2⟩
      case measure => simp [intOf]; omega
    · obtain rfl : k = t.ops.length := by omega
      rw [List.take_of_length_le (by rw [costsV_len]; omega)] at hown
      have HOW := Lib.hid hown; have HKR := Lib.hid hkr
      clear hown hkr
      go_wp2_with fail
      go_ret
      exact ⟨_, rfl, ownsRow_mono HOW.out hsz, K1.out.trans HKR.out⟩

def EstPost (t : Tsk) (x : Nat) (comb : List Int → List Int → Int) (w : World) (e : Ending) (w' : World) : Prop :=
  ∃ g, e = .returned (.tuple #[.slice (some ⟨g, 0, none⟩) t.n.toNat t.n.toNat, .int .i64 (comb (valuesV comb t (costsV t) (facts x)) t.goal), fltV 0 0]) ∧ IArr w' g (valuesV comb t (costsV t) (facts x)) ∧ w.heap.size ≤ g ∧ Keeps (fun _ => False) w w'
theorem valuesV_low {comb : List Int → List Int → Int} (hc : CombOk comb) {t : Tsk} {costs : List Int} (h0 : ∀ c ∈ costs, 0 ≤ c) (s : List Int) : (valuesV comb t costs s).length = t.n.toNat ∧ ∀ y ∈ valuesV comb t costs s, 0 ≤ y ∧ y ≤ 1000000000 := by
  obtain ⟨h1, h2⟩ := startV_low (n := t.n) s
  obtain ⟨g1, g2, _⟩ := fixV_spec hc (os := t.ops.zip costs) (fun o ho => h0 o.2 (List.of_mem_zip ho).2) (weightC (startV t.n s)) (startV t.n s) h2 (Nat.le_refl _)
  exact ⟨by unfold valuesV; rw [g1, h1], g2⟩

set_option maxRecDepth 100000 in
set_option maxHeartbeats 4000000 in
theorem estimate_any (gf : Nat) (comb : List Int → List Int → Int) (hen : ∀ args w, (callFunc gf args).run Tryz.prog w = .ok (.enter gf args) w) (hcf : CombF gf comb) (hc : CombOk comb)
    (w : World) (vi vg vo vs : Value) (t : Tsk) (x : Nat) (h : TaskAt w vi vg vo t) (ok : t.Ok) (hg : Good t.n x) (hs : Ints w vs (facts x)) :
    Calls Tryz.prog 91 #[.agg #[.int .i64 t.n, vi, vg, vo], vs, .func (.func gf) #[] #[]] w (EstPost t x comb w) := by
  obtain ⟨ai, ci, h1, _⟩ := h.init.form
  obtain ⟨ag, cg, h2, _⟩ := h.goal.form
  obtain ⟨ao, co, h3, hmo⟩ := h.ops.form
  subst h1 h2 h3
  obtain ⟨aa, cs, h4, _⟩ := hs.form
  subst h4
  have HE := Lib.hid (show stateFault t (facts x) = (0, 0) by unfold stateFault; rw [if_pos (taskFault_zero.2 ok), if_pos hg.1])
  have HSB := Lib.hid (isSet_iff.1 hg.1).1
  have HGB := Lib.hid (isSet_iff.1 ok.goal).1
  have HN0 := Lib.hid ok.n0
  have HCL := Lib.hid (costsV_len t); have HC0 := Lib.hid (costsV_low ok)
  have K1 := (Keeps.refl (fun _ => False) w).alloc (.cells #[.int .i64 t.n, .slice ai t.init.length ci, .slice ag t.goal.length cg, .slice ao t.ops.length co] 25)
  have KA2 := K1.alloc (.cells #[.int .i64 0, .int .i64 0] 31)
  have HT := Lib.hid (h.keeps0 KA2)
  have HB := Lib.hid ((Four.new w (.int .i64 t.n) (.slice ai t.init.length ci) (.slice ag t.goal.length cg) (.slice ao t.ops.length co) 25).keeps0 ((Keeps.refl _ _).alloc (.cells #[.int .i64 0, .int .i64 0] 31)))
  have HF : Flt w ((w.alloc (.cells #[.int .i64 t.n, .slice ai t.init.length ci, .slice ag t.goal.length cg, .slice ao t.ops.length co] 25)).alloc (.cells #[.int .i64 0, .int .i64 0] 31)) (w.heap.size + 1) 31 :=
    ⟨by have := heap_alloc_new (w.alloc (.cells #[.int .i64 t.n, .slice ai t.init.length ci, .slice ag t.goal.length cg, .slice ao t.ops.length co] 25)) (.cells #[.int .i64 0, .int .i64 0] 31); rwa [World.size_alloc] at this, by omega, KA2⟩
  replace HF := Lib.hid HF
  have HS := Lib.hid (show Ints _ (.slice aa (facts x).length cs) (facts x) from hs.keeps0 KA2)
  have OK := Lib.hid ok; have HCF := Lib.hid hcf; have HCO := Lib.hid hc
  clear h hs ok hg K1 KA2 hcf hc
  go_enter Tryz.func91, Tryz.ntmps91
  go_upto_region 1 with fail
  generalize ((w.alloc (.cells #[.int .i64 t.n, .slice ai t.init.length ci, .slice ag t.goal.length cg, .slice ao t.ops.length co] 25)).alloc (.cells #[.int .i64 0, .int .i64 0] 31)) = w1 at HT HB HF HS ⊢
  obtain ⟨d0, d1, d2, d3⟩ := HB.out
  have hbx := HB.out.lt
  go_wp2_with fail
  refine (stateFault_any _ _ _ _ _ t (facts x) HT.out HS.out).mono ?_; rintro e w2 ⟨rfl, hk⟩
  rw [HE.out]
  have KA := hk.trans ((Keeps.refl (fun _ => False) w2).alloc (.cells #[.int .i64 0, .int .i64 0] 31))
  have HT3 := Lib.hid (HT.out.keeps0 KA); have HB3 := Lib.hid (HB.out.keeps0 KA); have HF3 := Lib.hid (HF.out.keeps0 KA); have HS3 := Lib.hid (HS.out.keeps0 KA)
  have F0 := Lib.hid (heap_alloc_new w2 (.cells #[.int .i64 0, .int .i64 0] 31))
  clear d0 d1 d2 d3 hbx hk KA HT HB HF HS
  go_upto_region 2 with fail
  generalize (w2.alloc (.cells #[.int .i64 0, .int .i64 0] 31)) = w3 at HT3 HB3 HF3 HS3 F0 ⊢
  generalize w2.heap.size = b9 at F0 ⊢
  obtain ⟨f0, f1, y0, y1, fl⟩ := pair_cells F0.out
  clear y0 y1
  have KD := (Keeps.refl (fun _ => False) w3).drew
  have HT4 := Lib.hid (HT3.out.keeps0 KD); have HB4 := Lib.hid (HB3.out.keeps0 KD); have HF4 := Lib.hid (HF3.out.keeps0 KD); have HS4 := Lib.hid (HS3.out.keeps0 KD)
  obtain ⟨d0, d1, d2, d3⟩ := HB4.out
  have hbx := HB4.out.lt
  clear KD
  go_upto_region 4 with fail
  clear f0 f1 fl
  go_region_held3 (fun w' => w'.cell? ⟨w.heap.size, 0, none⟩ = some (.int .i64 t.n) ∧ w'.cell? ⟨w.heap.size, 1, none⟩ = some (.slice ai t.init.length ci) ∧ w'.cell? ⟨w.heap.size, 2, none⟩ = some (.slice ag t.goal.length cg) ∧ w'.cell? ⟨w.heap.size, 3, none⟩ = some (.slice ao t.ops.length co))
    (go_keep)
    (first
      | (go_at_call 116; refine (rcost_any _ _ _ _ t HT4.out OK.out).mono ?_; rintro en wa ⟨vc, rfl, hrow, hka⟩; have HIC := Lib.hid (Ints.of_own (l := costsV t) (by rw [HCL.out]; exact hrow)); have HKA := Lib.hid hka; have a0 := hka.cell d0 (fun h => h); have a1 := hka.cell d1 (fun h => h); have a2 := hka.cell d2 (fun h => h); have a3 := hka.cell d3 (fun h => h); clear hrow hka)
      | (go_at_call 115; refine (values_any _ comb hen HCF.out HCO.out _ _ _ _ _ _ t (facts x) (costsV t) (HT4.out.keeps0 HKA.out) OK.out (HS4.out.keeps0 HKA.out) HSB.out HIC.out HCL.out (fun c hc => ⟨(HC0.out c hc).1, by have := (HC0.out c hc).2; omega⟩)).mono ?_; rintro en wb ⟨g, rfl, hia, hgl, hkb⟩; have HIA := Lib.hid hia; have HKB := Lib.hid (HKA.out.trans hkb); have HGL := Lib.hid (Nat.le_trans HKA.out.size hgl); have b0 := hkb.cell a0 (fun h => h); have b1 := hkb.cell a1 (fun h => h); have b2 := hkb.cell a2 (fun h => h); have b3 := hkb.cell a3 (fun h => h); clear hia hgl hkb))
  all_goals
    obtain ⟨v1, v2⟩ := valuesV_low HCO.out (t := t) (costs := costsV t) (fun c hc => (HC0.out c hc).1) (facts x)
    have HV1 := Lib.hid v1; have HV2 := Lib.hid v2
    have HIV := Lib.hid (show Ints wb (.slice (some ⟨g, 0, none⟩) t.n.toNat t.n.toNat) (valuesV comb t (costsV t) (facts x)) by
      have h := HIA.out.ints (by rw [v1]; have := OK.out.n1; unfold maxLen; omega)
      rw [v1] at h; exact h)
    have HIG := Lib.hid ((HT4.out.keeps0 HKB.out).goal)
    have hbx5 : w.heap.size < wb.heap.size := by have := HKB.out.size; omega
    have HF5 := Lib.hid (HF4.out.keeps0 HKB.out)
    clear d0 d1 d2 d3 a0 a1 a2 a3 v1 v2 hbx
    go_wp2_with fail
    refine (HCF.out _ _ _ _ t.goal HIV.out HIG.out (fun p hp => by have := HGB.out p hp; have := HV1.out; have := HN0.out; omega) HV2.out).mono ?_; rintro en w6 ⟨rfl, rfl⟩
    obtain ⟨e0, e1, z0, z1, hF⟩ := HF5.out.cells
    go_wp2_with fail
    have HST := Lib.hid (HF5.out.set (.int .i64 0) (.int .i64 0))
    refine bodyPost_ret (results_tmp2_cell _ _ (w.heap.size + 1) 31 #[.int .i64 0, .int .i64 0] (0, 0) _ rfl rfl HST.out.1 Tryz.underlying31 rfl (by kernel_rfl)) rfl ?_
    refine ⟨g, rfl, HIA.out.keeps (keeps_pair _ _ _) (by have := HGL.out; have := HF4.out.cells.2.2.2.2; omega), ?_, HST.out.2⟩
    have := HGL.out; have := HF4.out.cells.2.2.2.2; omega

set_option maxRecDepth 100000 in
set_option maxHeartbeats 4000000 in
theorem rmax_any (w : World) (vi vg vo vs : Value) (t : Tsk) (x : Nat) (h : TaskAt w vi vg vo t) (ok : t.Ok) (hg : Good t.n x) (hs : Ints w vs (facts x)) :
    Calls Tryz.prog 76 #[.agg #[.int .i64 t.n, vi, vg, vo], vs] w (EstPost t x greatL w) := by
  obtain ⟨ai, ci, h1, _⟩ := h.init.form
  obtain ⟨ag, cg, h2, _⟩ := h.goal.form
  obtain ⟨ao, co, h3, hmo⟩ := h.ops.form
  subst h1 h2 h3
  obtain ⟨aa, cs, h4, _⟩ := hs.form
  subst h4
  have K1 := (Keeps.refl (fun _ => False) w).alloc (.cells #[.int .i64 t.n, .slice ai t.init.length ci, .slice ag t.goal.length cg, .slice ao t.ops.length co] 25)
  have KA2 := K1.alloc (.cells #[.int .i64 0, .int .i64 0] 31)
  have HT := Lib.hid (h.keeps0 KA2)
  have HB := Lib.hid ((Four.new w (.int .i64 t.n) (.slice ai t.init.length ci) (.slice ag t.goal.length cg) (.slice ao t.ops.length co) 25).keeps0 ((Keeps.refl _ _).alloc (.cells #[.int .i64 0, .int .i64 0] 31)))
  have HF : Flt w ((w.alloc (.cells #[.int .i64 t.n, .slice ai t.init.length ci, .slice ag t.goal.length cg, .slice ao t.ops.length co] 25)).alloc (.cells #[.int .i64 0, .int .i64 0] 31)) (w.heap.size + 1) 31 :=
    ⟨by have := heap_alloc_new (w.alloc (.cells #[.int .i64 t.n, .slice ai t.init.length ci, .slice ag t.goal.length cg, .slice ao t.ops.length co] 25)) (.cells #[.int .i64 0, .int .i64 0] 31); rwa [World.size_alloc] at this, by omega, KA2⟩
  replace HF := Lib.hid HF
  have HS := Lib.hid (show Ints _ (.slice aa (facts x).length cs) (facts x) from hs.keeps0 KA2)
  have OK := Lib.hid ok; have GX := Lib.hid hg
  have hen := enters_of (P := Tryz.prog) Tryz.func92 (by kernel_rfl) rfl
  clear h hs ok hg K1 KA2
  go_enter Tryz.func76, Tryz.ntmps76
  go_upto_region 1 with fail
  generalize ((w.alloc (.cells #[.int .i64 t.n, .slice ai t.init.length ci, .slice ag t.goal.length cg, .slice ao t.ops.length co] 25)).alloc (.cells #[.int .i64 0, .int .i64 0] 31)) = w1 at HT HB HF HS ⊢
  obtain ⟨d0, d1, d2, d3⟩ := HB.out
  have hbx := HB.out.lt
  go_wp2_with fail
  refine (estimate_any _ greatL hen combF_great comb_great _ _ _ _ _ t x HT.out OK.out GX.out HS.out).mono ?_; rintro e w2 ⟨g, rfl, hia, hgl, hk⟩
  have HF5 := Lib.hid (HF.out.keeps0 hk)
  have HIA := Lib.hid hia
  have HGL := Lib.hid (show w.heap.size + 1 < g by have := HF.out.cells.2.2.2.2; omega)
  obtain ⟨e0, e1, z0, z1, hF⟩ := HF5.out.cells
  have HST := Lib.hid (HF5.out.set (.int .i64 0) (.int .i64 0))
  simp only [fltV]
  clear d0 d1 d2 d3 hbx hia hgl hk HT HB HF HS
  go_wp2_with fail
  refine bodyPost_ret (results_tmp2_cell _ _ (w.heap.size + 1) 31 #[.int .i64 0, .int .i64 0] (0, 0) _ rfl rfl HST.out.1 Tryz.underlying31 rfl (by kernel_rfl)) rfl ?_
  exact ⟨g, rfl, HIA.out.keeps (keeps_pair _ _ _) (by have := HGL.out; omega), by have := HGL.out; omega, HST.out.2⟩

end Go.Proofs.YtdokakhgflljgaaGreat

namespace Go.Proofs.YtdokakhgflljgaaGreat

/-! ### the words of states and the lists of facts -/
theorem can_facts {n : Int} (hn : n ≤ 24) {o : Opr} (ho : o.Ok n) {x : Nat} (h : o.word.can x = true) : ∀ p ∈ o.pre, p ∈ facts x := fun p hp => by
  have hb := (isSet_iff.1 ho.pre).1
  have h1 := can_iff.1 h
  have hp' := hb p hp
  refine mem_facts.2 ⟨p.toNat, by omega, by omega, h1 p.toNat ?_⟩
  show (wd o.pre).testBit p.toNat = true
  rw [testBit_wd (fun x hx => (hb x hx).1), show ((p.toNat : Nat) : Int) = p by omega]
  simpa using hp
theorem goal_facts {n : Int} (hn : n ≤ 24) {g : List Int} (hg : isSetB g n = true) {x : Nat} (h : goalB (wd g) x = true) : ∀ p ∈ g, p ∈ facts x := fun p hp => by
  have hb := (isSet_iff.1 hg).1
  have h1 := goalB_iff.1 h
  have hp' := hb p hp
  refine mem_facts.2 ⟨p.toNat, by omega, by omega, h1 p.toNat ?_⟩
  rw [testBit_wd (fun x hx => (hb x hx).1), show ((p.toNat : Nat) : Int) = p by omega]
  simpa using hp
theorem next_facts {n : Int} {o : Opr} (ho : o.Ok n) {x : Nat} {q : Int} (h : q ∈ facts (o.word.next x)) : (q ∈ facts x ∧ q ∉ o.del) ∨ q ∈ o.add := by
  obtain ⟨i, rfl, hi, ht⟩ := mem_facts.1 h
  have ha := (isSet_iff.1 ho.add).1
  have hd := (isSet_iff.1 ho.del).1
  unfold Wop.next Opr.word at ht
  simp only at ht
  rw [Nat.testBit_or, testBit_andN _ _ _ hi, testBit_wd (fun x hx => (ha x hx).1), testBit_wd (fun x hx => (hd x hx).1)] at ht
  rw [Bool.or_eq_true, Bool.and_eq_true] at ht
  rcases ht with ⟨h1, h2⟩ | h1
  · exact .inl ⟨mem_facts.2 ⟨i, rfl, hi, h1⟩, by simpa using h2⟩
  · exact .inr (by simpa using h1)

/-- What holds along a plan. -/
theorem run_inv {t : Tsk} {Inv : Nat → Int → Prop} (step : ∀ (o : Opr) (z : Nat) (c : Int), o ∈ t.ops → o.word.can z = true → Inv z c → Inv (o.word.next z) (c + o.cost)) :
    ∀ (p : List Nat) (x y : Nat) (c : Int), runOps (wordsOf t.ops) x p = some y → Inv x c → Inv y (c + costN (wordsOf t.ops) p)
  | [], x, y, c, h, hi => by cases h; simpa [costN] using hi
  | a :: r, x, y, c, h, hi => by
    unfold runOps at h
    cases ho : (wordsOf t.ops)[a]? with
    | none => rw [ho] at h; cases h
    | some w =>
      rw [ho] at h
      simp only at h
      obtain ⟨o, ho', rfl⟩ : ∃ o, t.ops[a]? = some o ∧ o.word = w := by
        unfold wordsOf at ho
        rw [List.getElem?_map] at ho
        cases h2 : t.ops[a]? with
        | none => rw [h2] at ho; cases ho
        | some o => rw [h2] at ho; cases ho; exact ⟨o, rfl, rfl⟩
      split at h
      · rename_i hc
        have h1 := run_inv step r (o.word.next x) y (c + o.cost) h (step o x c (List.mem_of_getElem? ho') hc hi)
        rw [costN, ho]
        simp only [Option.map_some, Option.getD_some]
        rw [show c + (o.word.cost + costN (wordsOf t.ops) r) = c + o.cost + costN (wordsOf t.ops) r by unfold Opr.word; simp only; omega]
        exact h1
      · cases h

/-! ### Max -/
theorem getV_set_le {v : List Int} {i : Nat} {x : Int} {y : Int} (hi : v[i]? = some y) (h : x ≤ y) (q : Int) : getV (v.set i x) q ≤ getV v q := by
  unfold getV
  rw [List.getD_eq_getElem?_getD, List.getD_eq_getElem?_getD, List.getElem?_set]
  split
  · rename_i e
    subst e
    rw [if_pos (List.getElem?_eq_some_iff.1 hi).1, hi]
    exact h
  · exact Int.le_refl _
theorem addsV_le {x : Int} (hx : 0 ≤ x) : ∀ (ps v : List Int) (q : Int), getV (addsV x v ps) q ≤ getV v q
  | [], v, q => Int.le_refl _
  | p :: r, v, q => by
    unfold addsV
    rw [List.foldl_cons]
    by_cases h : x < getV v p
    · rw [if_pos h]
      obtain ⟨y, hy, hxy⟩ := getV_in h hx
      exact Int.le_trans (addsV_le hx r (v.set p.toNat x) q) (getV_set_le hy (by omega) q)
    · rw [if_neg h]
      exact addsV_le hx r v q
theorem opsV_le {comb : List Int → List Int → Int} (hc : CombOk comb) : ∀ (os : List (Opr × Int)) (v : List Int), (∀ o ∈ os, 0 ≤ o.2) → (∀ y ∈ v, 0 ≤ y ∧ y ≤ 1000000000) → ∀ q, getV (opsV comb v os) q ≤ getV v q
  | [], v, _, _, q => Int.le_refl _
  | o :: r, v, ho, hv, q => by
    have hx := plusI_low (hc v o.1.pre hv).1 (ho o (by simp))
    have h1 := addsV_le hx.1 o.1.add v q
    have h2 := opsV_le hc r (addsV (plusI (comb v o.1.pre) o.2) v o.1.add) (fun o h => ho o (by simp [h])) (addsV_spec hx o.1.add v hv).2.1 q
    unfold opsV at h2 ⊢
    rw [List.foldl_cons]; omega
theorem fixV_le {comb : List Int → List Int → Int} (hc : CombOk comb) {os : List (Opr × Int)} (ho : ∀ o ∈ os, 0 ≤ o.2) : ∀ (n : Nat) (v : List Int), (∀ y ∈ v, 0 ≤ y ∧ y ≤ 1000000000) → ∀ q, getV (fixV comb os n v) q ≤ getV v q
  | 0, v, _, q => Int.le_refl _
  | n + 1, v, hv, q => by
    unfold fixV
    split
    · exact Int.le_refl _
    · have h1 := fixV_le hc ho n (opsV comb v os) (opsV_spec hc os v ho hv).2.1 q
      have h2 := opsV_le hc os v ho hv q
      omega
theorem zeroV_at : ∀ (ps v : List Int) (q : Int), (∀ y ∈ v, 0 ≤ y) → (0 ≤ getV (zeroV v ps) q ∧ getV (zeroV v ps) q ≤ getV v q ∧ (q ∈ ps → getV (zeroV v ps) q ≤ 0))
  | [], v, q, hv => by
    refine ⟨?_, Int.le_refl _, fun h => (List.not_mem_nil h).elim⟩
    show 0 ≤ getV v q
    unfold getV
    rw [List.getD_eq_getElem?_getD]
    cases h : v[q.toNat]? with
    | none => simp
    | some y => exact hv y (List.mem_of_getElem? h)
  | p :: r, v, q, hv => by
    obtain ⟨h1, h2, h3⟩ := zeroV_at r (v.set p.toNat 0) q (fun y hy => by
      rcases List.mem_or_eq_of_mem_set hy with h | h
      · exact hv y h
      · rw [h]; decide)
    have e : getV (v.set p.toNat 0) q ≤ getV v q ∧ (q = p → getV (v.set p.toNat 0) q ≤ 0) := by
      unfold getV
      rw [List.getD_eq_getElem?_getD, List.getD_eq_getElem?_getD, List.getElem?_set]
      split
      · rename_i e
        constructor
        · split
          · cases h : v[q.toNat]? with
            | none => simp
            | some y => exact hv y (List.mem_of_getElem? h)
          · rw [← e, List.getElem?_eq_none (by omega)]; simp
        · intro _; split <;> simp
      · rename_i e
        exact ⟨Int.le_refl _, fun h => absurd (by rw [h]) e⟩
    refine ⟨h1, by have := e.1; show getV (zeroV (v.set p.toNat 0) r) q ≤ _; omega, fun h => ?_⟩
    show getV (zeroV (v.set p.toNat 0) r) q ≤ 0
    rcases List.mem_cons.1 h with rfl | h
    · have := e.2 rfl; omega
    · exact h3 h

/-- The facts of the state have no value, and no operator is worth more than it costs. -/
structure RelOk (t : Tsk) (costs : List Int) (comb : List Int → List Int → Int) (s v : List Int) : Prop where
  len : v.length = t.n.toNat
  low : ∀ y ∈ v, 0 ≤ y ∧ y ≤ 1000000000
  here : ∀ q ∈ s, getV v q = 0
  step : ∀ o ∈ t.ops.zip costs, ∀ p ∈ o.1.add, getV v p ≤ plusI (comb v o.1.pre) o.2
theorem values_ok {comb : List Int → List Int → Int} (hc : CombOk comb) {t : Tsk} {costs : List Int} (h0 : ∀ c ∈ costs, 0 ≤ c) (s : List Int) : RelOk t costs comb s (valuesV comb t costs s) := by
  obtain ⟨h1, h2⟩ := startV_low (n := t.n) s
  have ho : ∀ o ∈ t.ops.zip costs, 0 ≤ o.2 := fun o ho => h0 o.2 (List.of_mem_zip ho).2
  obtain ⟨g1, g2, g3⟩ := fixV_spec hc ho (weightC (startV t.n s)) (startV t.n s) h2 (Nat.le_refl _)
  refine ⟨by unfold valuesV; rw [g1, h1], g2, fun q hq => ?_, (opsV_spec hc (t.ops.zip costs) _ ho g2).2.2.2 g3⟩
  have h3 := fixV_le hc ho (weightC (startV t.n s)) (startV t.n s) h2 q
  have h4 := (zeroV_at s (List.replicate t.n.toNat 1000000000) q (fun y hy => by rw [(List.mem_replicate.1 hy).2]; decide)).2.2 hq
  have h5 := (getV_low g2 q).1
  unfold valuesV
  unfold startV at h3 h5 ⊢
  omega
theorem zip_costs {t : Tsk} {o : Opr} (ho : o ∈ t.ops) : (o, o.cost) ∈ t.ops.zip (costsV t) := by
  obtain ⟨i, hi⟩ := List.mem_iff_getElem?.1 ho
  refine List.mem_iff_getElem?.2 ⟨i, ?_⟩
  rw [List.getElem?_zip_eq_some]
  exact ⟨hi, by unfold costsV; rw [List.getElem?_map, hi]; rfl⟩

/-- What relaxed.Max says of a state. -/
def maxH (t : Tsk) (x : Nat) : Int := greatL (valuesV greatL t (costsV t) (facts x)) t.goal
theorem max_adm {t : Tsk} (ok : t.Ok) (L : List Nat) : Adm (wordsOf t.ops) L (goalB (wd t.goal)) (maxH t) := by
  have h0 : ∀ c ∈ costsV t, 0 ≤ c := fun c hc => (costsV_low ok c hc).1
  refine ⟨fun x _ => comb_great _ _ (values_ok comb_great h0 (facts x)).low, fun x _ p y hr ha => ?_⟩
  have V := values_ok (t := t) comb_great h0 (facts x)
  have hb := costN_bound (ops_cost ok) p
  have key := run_inv (t := t) (Inv := fun z c => 0 ≤ c ∧ ∀ q ∈ facts z, getV (valuesV greatL t (costsV t) (facts x)) q ≤ c ∧ getV (valuesV greatL t (costsV t) (facts x)) q < 1000000000) (by
    intro o z c ho hc ⟨hc0, hi⟩
    have oko := ok.ops o ho
    refine ⟨by have := oko.cost0; omega, fun q hq => ?_⟩
    rcases next_facts oko hq with ⟨h1, _⟩ | h1
    · have := hi q h1; have := oko.cost0; omega
    · have h2 := V.step _ (zip_costs ho) q h1
      simp only at h2
      have hpre := can_facts ok.n1 oko hc
      have h3 : greatL (valuesV greatL t (costsV t) (facts x)) o.pre ≤ c := greatL_le hc0 (fun p hp => (hi p (hpre p hp)).1)
      have h4 : greatL (valuesV greatL t (costsV t) (facts x)) o.pre ≤ 999999999 := greatL_le (by decide) (fun p hp => by have := (hi p (hpre p hp)).2; omega)
      have h5 := greatL_low (valuesV greatL t (costsV t) (facts x)) o.pre
      have c0 := oko.cost0; have c1 := oko.cost1
      unfold plusI at h2
      rw [if_neg (by omega)] at h2
      omega) p x y 0 hr ⟨Int.le_refl _, fun q hq => by rw [V.here q hq]; omega⟩
  obtain ⟨k0, k1⟩ := key
  have hg := goal_facts ok.n1 ok.goal ha
  have e1 : maxH t x ≤ 0 + costN (wordsOf t.ops) p := greatL_le k0 (fun q hq => (k1 q (hg q hq)).1)
  have e2 : maxH t x ≤ 999999999 := greatL_le (by decide) (fun q hq => by have := (k1 q (hg q hq)).2; omega)
  exact ⟨by omega, by omega⟩

/-! ### pairs -/
theorem withF_mem {a : List Int} {q x : Int} (h : x ∈ withF a q) : x ∈ a ∨ x = q := by
  unfold withF at h
  rcases (updL_spec a [q] []).2 x |>.1 h with ⟨h1, _⟩ | h1
  · exact .inl h1
  · exact .inr (by simpa using h1)
theorem pairs_adm {t : Tsk} (ok : t.Ok) (L : List Nat) (hL : ∀ x ∈ L, Good t.n x) : Adm (wordsOf t.ops) L (goalB (wd t.goal)) (pairsH t) := by
  refine ⟨fun x _ => valueP_bound (pairsV_spec ok (facts x)).1 _, fun x hx p y hr ha => ?_⟩
  obtain ⟨hT, hS, hF⟩ := pairsV_spec ok (facts x)
  have hn0 := ok.n0
  unfold pairsH
  have inn : ∀ q ∈ facts x, 0 ≤ q ∧ q.toNat < t.n.toNat := fun q hq => by have := (isSet_iff.1 (hL x hx).1).1 q hq; omega
  generalize pairsV t (facts x) = v at hT hS hF
  have key := run_inv (t := t) (Inv := fun z c => 0 ≤ c ∧ ∀ a ∈ facts z, (0 ≤ a ∧ a.toNat < t.n.toNat) ∧ ∀ b ∈ facts z, getT v a.toNat b.toNat ≤ c ∧ getT v a.toNat b.toNat < 1000000000) (by
    intro o z c ho hc ⟨hc0, hi⟩
    have oko := ok.ops o ho
    have c0 := oko.cost0; have c1 := oko.cost1
    have hpre := can_facts ok.n1 oko hc
    have hadd := (isSet_iff.1 oko.add).1
    have bound : ∀ S : List Int, (∀ a ∈ S, a ∈ facts z) → plusI (valueP v S) o.cost ≤ c + o.cost ∧ plusI (valueP v S) o.cost < 1000000000 := fun S hS => by
      have h1 : valueP v S ≤ c := valueP_le hc0 (fun a ha b hb => ((hi a (hS a ha)).2 b (hS b hb)).1)
      have h2 : valueP v S ≤ 999999999 := valueP_le (by decide) (fun a ha b hb => by have := ((hi a (hS a ha)).2 b (hS b hb)).2; omega)
      have h3 := valueP_low v S
      unfold plusI
      rw [if_neg (by omega)]
      omega
    have mixed : ∀ a b : Int, a ∈ o.add → b ∉ o.add → (b ∈ facts z ∧ b ∉ o.del) → getT v a.toNat b.toNat ≤ c + o.cost ∧ getT v a.toNat b.toNat < 1000000000 := fun a b ha hb hz => by
      have hbn := (hi b hz.1).1
      have hd := (opsP_done (pairs_need ok) hT hF ho ha).2 b.toNat hbn.2 (by rw [show ((b.toNat : Nat) : Int) = b by omega]; exact hb) (by rw [show ((b.toNat : Nat) : Int) = b by omega]; exact hz.2)
      rw [show ((b.toNat : Nat) : Int) = b by omega] at hd
      have h2 := bound (withF o.pre b) (fun y hy => by
        rcases withF_mem hy with h | rfl
        · exact hpre y h
        · exact hz.1)
      omega
    refine ⟨by omega, fun a ha => ⟨?_, fun b hb => ?_⟩⟩
    · rcases next_facts oko ha with ⟨h1, _⟩ | h1
      · exact (hi a h1).1
      · have := hadd a h1; omega
    · by_cases ha' : a ∈ o.add
      · by_cases hb' : b ∈ o.add
        · have h1 := (opsP_done (pairs_need ok) hT hF ho ha').1 b hb'
          have h2 := bound o.pre hpre
          omega
        · exact mixed a b ha' hb' ((next_facts oko hb).resolve_right hb')
      · have hza := (next_facts oko ha).resolve_right ha'
        by_cases hb' : b ∈ o.add
        · rw [hT.sym]; exact mixed b a hb' ha' hza
        · have hzb := (next_facts oko hb).resolve_right hb'
          have := (hi a hza.1).2 b hzb.1; omega) p x y 0 hr ⟨Int.le_refl _, fun a ha => ⟨inn a ha, fun b hb => by
            have h1 := hS a.toNat b.toNat
            rw [startT_get _ (inn a ha).2 (inn b hb).2] at h1
            have e1 : ((a.toNat : Nat) : Int) = a := by have := (inn a ha).1; omega
            have e2 : ((b.toNat : Nat) : Int) = b := by have := (inn b hb).1; omega
            rw [e1, e2, if_pos ⟨ha, hb⟩] at h1
            omega⟩⟩
  obtain ⟨k0, k1⟩ := key
  have hg := goal_facts ok.n1 ok.goal ha
  have e1 : valueP v t.goal ≤ 0 + costN (wordsOf t.ops) p := valueP_le k0 (fun a ha b hb => ((k1 a (hg a ha)).2 b (hg b hb)).1)
  have e2 : valueP v t.goal ≤ 999999999 := valueP_le (by decide) (fun a ha b hb => by have := ((k1 a (hg a ha)).2 b (hg b hb)).2; omega)
  have hb := costN_bound (ops_cost ok) p
  exact ⟨by omega, by omega⟩

end Go.Proofs.YtdokakhgflljgaaGreat

namespace Go.Proofs.YtdokakhgflljgaaGreat
open Go.RowKit Go.Shelf

theorem lowT_flag {n p q : Nat} {x : Int} {v : List (List Int)} (hv : Tbl n v) (hp : p < n) (hq : q < n) (hx : 0 ≤ x ∧ x ≤ 1000000000) : Flag weightT v (lowT v p q x) (decide (x < getT v p q)) := by
  by_cases h : x < getT v p q
  · refine .inr ⟨by simpa using h, ?_⟩
    refine (lowT_ok hp hq hx v hv).2.2.resolve_left (fun e => ?_)
    have := lowT_done hv hp hq hx e
    omega
  · exact .inl ⟨by simpa using h, by unfold lowT; rw [if_neg h]⟩
theorem addAll_snoc (v : List (List Int)) (ps : List Int) (q p x : Int) : addAll v (ps ++ [q]) p x = lowT (addAll v ps p x) p.toNat q.toNat x := by unfold addAll; rw [List.foldl_append]; rfl
theorem otherP_succ (v : List (List Int)) (o : Opr) (p : Int) (k : Nat) : otherP v o p (k + 1) = if (k : Int) ∈ o.add ∨ (k : Int) ∈ o.del then otherP v o p k else lowT (otherP v o p k) p.toNat k (plusI (valueP (otherP v o p k) (withF o.pre k)) o.cost) := by
  unfold otherP; rw [List.range_succ, List.foldl_append]; rfl
theorem usePK_snoc (v : List (List Int)) (o : Opr) (n : Nat) (c : Int) (ps : List Int) (p : Int) : usePK v o n c (ps ++ [p]) = otherP (addAll (usePK v o n c ps) o.add p c) o p n := by unfold usePK; rw [List.foldl_append]; rfl

set_option maxHeartbeats 1000000 in
theorem union_any (w : World) (va vb : Value) (a b : List Int) (ha : Ints w va a) (hb : Ints w vb b) (la : a.length ≤ 1000) (lb : b.length ≤ 1000) :
    Calls Tryz.prog 134 #[va, vb] w fun e w' => ∃ v, e = .returned v ∧ w'.ownsRow w.heap.size 3 1 v (updL a b []).length ((updL a b []).map (Value.int .i64)) ∧ Keeps (fun _ => False) w w' := by
  have HA := Lib.hid ha; have HB := Lib.hid hb
  clear ha hb
  go_enter Tryz.func134, Tryz.ntmps134
  go_wp2_with fail
  refine (update_any _ _ _ _ a b [] HA.out HB.out (Ints.nil _) List.Pairwise.nil la lb (by simp)).mono ?_
  rintro e w' ⟨v, rfl, hown, hk⟩
  have HO := Lib.hid hown; have HK := Lib.hid hk
  clear hown hk
  go_wp2_with fail
  go_ret
  exact ⟨v, rfl, HO.out, HK.out⟩

theorem Four.keepsB {S : Nat → Prop} {w w' : World} {b : Nat} {x0 x1 x2 x3 : Value} (h : Four w b x0 x1 x2 x3) (hk : Keeps S w w') (hs : ¬ S b) : Four w' b x0 x1 x2 x3 := by
  exact ⟨hk.cell h.c0 hs, hk.cell h.c1 hs, hk.cell h.c2 hs, hk.cell h.c3 hs⟩

section
variable (w2 : World) (gT n : Nat) (rs : List Nat) (v : List (List Int)) (v' : List (List Int)) (v5 : Value) (wr : World)
/-- Between the steps of use: the table, what has changed, and whether. -/
def UseAt : Prop := ∃ ch : Bool, v5 = .bool ch ∧ Tab wr gT n rs v' ∧ Keeps (fun b => b ∈ rs) w2 wr ∧ Flag weightT v v' ch
end

theorem sub_one (q : Int) (l : List Int) : subB [q] l = decide (q ∈ l) := by
  unfold subB
  simp

set_option maxRecDepth 100000 in
set_option maxHeartbeats 8000000 in
theorem puse_any (w0 w : World) (gT n : Nat) (rs : List Nat) (v : List (List Int)) (va vb vd : Value) (o : Opr) (h0 : Keeps (fun _ => False) w0 w) (hr : ∀ g ∈ rs, w0.heap.size ≤ g) (hT : Tab w gT n rs v) (hv : Tbl n v) (hn : n ≤ 24)
    (i1 : Ints w0 va o.pre) (i2 : Ints w0 vb o.add) (i3 : Ints w0 vd o.del) (oko : o.Ok (n : Int)) :
    Calls Tryz.prog 122 #[.slice (some ⟨gT, 0, none⟩) n n, .agg #[va, vb, vd, .int .i64 o.cost]] w fun e w' => ∃ ch, e = .returned (.bool ch) ∧ Tab w' gT n rs (useP v o n) ∧ Keeps (fun b => b ∈ rs) w w' ∧ Flag weightT v (useP v o n) ch := by
  obtain ⟨a1, k1, f1, _⟩ := i1.form
  obtain ⟨a2, k3, f2, _⟩ := i2.form
  obtain ⟨a3, k4, f3, _⟩ := i3.form
  subst f1 f2 f3
  have HRS := Lib.hid (show ∀ g ∈ rs, g < w.heap.size from fun g hg => by
    obtain ⟨p, hp⟩ := List.mem_iff_getElem?.1 hg
    obtain ⟨g', e1, _, _, e2, _⟩ := hT.get (p := p) (by have := hT.len; have := (List.getElem?_eq_some_iff.1 hp).1; omega)
    rw [hp] at e1; cases e1; exact e2)
  have K1 := (Keeps.refl (fun _ => False) w).alloc (.cells #[.slice a1 o.pre.length k1, .slice a2 o.add.length k3, .slice a3 o.del.length k4, .int .i64 o.cost] 80)
  have HO := Lib.hid (Four.new w (.slice a1 o.pre.length k1) (.slice a2 o.add.length k3) (.slice a3 o.del.length k4) (.int .i64 o.cost) 80)
  have HT := Lib.hid (hT.keeps0 K1)
  have HI1 := Lib.hid i1; have HI2 := Lib.hid i2; have HI3 := Lib.hid i3
  have HK1 := Lib.hid K1; have HV := Lib.hid hv; have HR := Lib.hid hr
  have HK0 := Lib.hid (h0.trans K1)
  have U1 := Lib.hid (isSet_iff.1 oko.pre); have U2 := Lib.hid (isSet_iff.1 oko.add); have U3 := Lib.hid (isSet_iff.1 oko.del)
  have L1 := Lib.hid (isSet_length oko.pre (by omega))
  have HC := Lib.hid (show 0 ≤ o.cost ∧ o.cost ≤ 1000000000 by have := oko.cost0; have := oko.cost1; omega)
  clear hT i1 i2 i3 K1 hv oko h0 hr
  go_enter Tryz.func122, Tryz.ntmps122
  go_upto_region 2 with fail
  generalize (w.alloc (.cells #[.slice a1 o.pre.length k1, .slice a2 o.add.length k3, .slice a3 o.del.length k4, .int .i64 o.cost] 80)) = w1 at HO HT HK0 HK1 ⊢
  obtain ⟨bx, hbx⟩ : ∃ bx, w.heap.size = bx := ⟨_, rfl⟩
  rw [hbx] at HO HRS ⊢
  have HBX := Lib.hid (show ¬ bx ∈ rs from fun e => by have := HRS.out bx e; omega)
  have KD := (Keeps.refl (fun _ => False) w1).drew
  have HOD := Lib.hid (HO.out.keeps0 KD); have HTD := Lib.hid (HT.out.keeps0 KD)
  have HKD := Lib.hid (HK1.out.trans KD); have HK0D := Lib.hid (HK0.out.trans KD)
  have I1D := Lib.hid (HI1.out.keeps0 HK0D.out)
  obtain ⟨d0, d1, d2, d3⟩ := HOD.out
  have hbl := HOD.out.lt
  have HVB := Lib.hid (valueP_bound HV.out o.pre)
  clear KD HO HT HK1 HK0 hbx
  go_region_held3 (fun w' => w'.cell? ⟨bx, 0, none⟩ = some (.slice a1 o.pre.length k1) ∧ w'.cell? ⟨bx, 3, none⟩ = some (.int .i64 o.cost))
    (go_keep)
    (first
      | (go_at_call 102; refine (pvalue_any _ gT n rs v _ o.pre HTD.out I1D.out U1.out.1).mono ?_; rintro en w9 ⟨rfl, rfl⟩)
      | (go_at_call 117; refine (plus_any _ _ _ HVB.out HC.out).mono ?_; rintro en w9 ⟨rfl, rfl⟩))
  all_goals
    have HX := Lib.hid (plusI_low HVB.out.1 HC.out.1)
    have HUP := Lib.hid (show useP v o n = usePK v o n (plusI (valueP v o.pre) o.cost) o.add from rfl)
    generalize plusI (valueP v o.pre) o.cost = c at HX HUP ⊢
    generalize w1.drew = w2 at HOD HTD I1D HKD HK0D d0 d1 d2 d3 hbl ⊢
    go_wp2_with fail
    clear d0 d1 d2 d3
    go_loopw [5, 23] (fun v5 v23 wr => ∃ j : Nat, v23 = .int .i64 (j : Int) ∧ j ≤ o.add.length ∧ UseAt w2 gT n rs v (usePK v o n c (o.add.take j)) v5 wr) (fun _ v23 _ => o.add.length - (intOf v23).toNat)
    case atStart => exact ⟨0, rfl, Nat.zero_le _, false, rfl, HTD.out, Keeps.refl _ _, .inl ⟨rfl, rfl⟩⟩
    case round =>
      obtain ⟨j, rfl, hj, ch, rfl, ht, hk, hf⟩ := hrel
      have HTJ := Lib.hid ht; have HKJ := Lib.hid hk; have HFJ := Lib.hid hf
      clear ht hk hf
      by_cases hjl : j < o.add.length
      · have HW := Lib.hid (HK0D.out.trans' HKJ.out (fun i hi => .inr (HR.out i hi)))
        obtain ⟨b2, o2, rfl, hcell⟩ := (HI2.out.keeps0 HW.out).cell rfl (by omega)
        obtain ⟨p, hpj⟩ : ∃ p, o.add[j]? = some p := ⟨_, List.getElem?_eq_getElem hjl⟩
        have hpb := U2.out.1 p (List.mem_of_getElem? hpj)
        obtain ⟨p, rfl⟩ := Int.eq_ofNat_of_zero_le hpb.1
        have hp : p < n := by omega
        have HVJ := Lib.hid (show Tbl n (usePK v o n c (o.add.take j)) from (usePK_ok (n := n) (o := o) (ps := o.add.take j) U2.out.1 (fun q hq => U2.out.1 q (List.mem_of_mem_take hq)) HC.out.1 HX.out v HV.out).1)
        have HNJ := Lib.hid (show usePK v o n c (o.add.take (j + 1)) = otherP (addAll (usePK v o n c (o.add.take j)) o.add p c) o p n by rw [take_getS hpj, usePK_snoc])
        have HVJ' : Tbl n (usePK v o n c (o.add.take j)) := HVJ.out
        generalize usePK v o n c (o.add.take j) = vj at HTJ HFJ HNJ HVJ'
        have HVJ := Lib.hid HVJ'
        have c0 := hcell j _ hpj
        obtain ⟨q0, q1, q2, q3⟩ := (HOD.out.keepsB HKJ.out HBX.out)
        have hql : bx < wr.heap.size := (HOD.out.keepsB HKJ.out HBX.out).lt
        have HCL := Lib.hid hcell
        clear HVJ' hcell hpj hpb
        go_wp2_with fail
        clear q0 q1 q2 q3 hql c0
        go_loopw [5, 30] (fun v5 v30 wr' => ∃ i : Nat, v30 = .int .i64 (i : Int) ∧ i ≤ o.add.length ∧ UseAt w2 gT n rs v (addAll vj (o.add.take i) p c) v5 wr') (fun _ v30 _ => o.add.length - (intOf v30).toNat)
        case atStart => exact ⟨0, rfl, Nat.zero_le _, ch, rfl, HTJ.out, HKJ.out, HFJ.out⟩
        case round =>
          obtain ⟨i, rfl, hi, ch2, rfl, ht, hk, hf⟩ := hrel
          have HTI := Lib.hid ht; have HKI := Lib.hid hk; have HFI := Lib.hid hf
          clear ht hk hf
          have HVI := Lib.hid (show Tbl n (addAll vj (o.add.take i) p c) from (addAll_ok (n := n) (ps := o.add.take i) (p := (p : Int)) (x := c) (by omega) (fun q hq => U2.out.1 q (List.mem_of_mem_take hq)) HX.out vj HVJ.out).1)
          by_cases hil : i < o.add.length
          · have HW2 := Lib.hid (HK0D.out.trans' HKI.out (fun i hi => .inr (HR.out i hi)))
            obtain ⟨b2', o2', e2, hcell⟩ := (HI2.out.keeps0 HW2.out).cell rfl (by omega)
            cases e2
            obtain ⟨q, hqi⟩ : ∃ q, o.add[i]? = some q := ⟨_, List.getElem?_eq_getElem hil⟩
            have hqb := U2.out.1 q (List.mem_of_getElem? hqi)
            obtain ⟨q, rfl⟩ := Int.eq_ofNat_of_zero_le hqb.1
            have hq : q < n := by omega
            have c1 := hcell i _ hqi
            have HNI := Lib.hid (show addAll vj (o.add.take (i + 1)) p c = lowT (addAll vj (o.add.take i) p c) p q c by rw [take_getS hqi, addAll_snoc]; rfl)
            have HVI' := HVI.out
            generalize addAll vj (o.add.take i) p c = vi at HTI HFI HNI HVI'
            have HFL := Lib.hid (lowT_flag HVI' hp hq HX.out)
            clear hcell hqi hqb HVI'
            go_wp2_with fail
            refine (pset_any _ gT n rs vi p q c HTI.out hp hq).mono ?_
            rintro e w5 ⟨rfl, ht5, hk5⟩
            have HT5 := Lib.hid ht5; have HK5 := Lib.hid (HKI.out.trans hk5)
            clear ht5 hk5
            have HF5 := Lib.hid (HFI.out.more HFL.out)
            generalize decide (c < getT vi p q) = dd at HF5 ⊢
            clear HFL
            cases dd with
            | true =>
              go_wp2_with fail
              go_roundw
              case rel => exact ⟨i + 1, by go_num, by omega, true, rfl, by rw [HNI.out]; exact HT5.out, HK5.out, by rw [HNI.out]; exact HF5.out⟩
              case measure => simp [intOf]; omega
            | false =>
              go_wp2_with fail
              go_roundw
              case rel => exact ⟨i + 1, by go_num, by omega, ch2, rfl, by rw [HNI.out]; exact HT5.out, HK5.out, by rw [HNI.out]; exact HF5.out⟩
              case measure => simp [intOf]; omega
          · rw [List.take_of_length_le (by omega)] at HTI HFI HVI
            have HVA' := HVI.out
            generalize addAll vj o.add p c = v3 at HTI HFI HNJ HVA'
            have HV3 := Lib.hid HVA'
            clear HVA' HVI
            go_wp2_with fail
            go_loopw [5, 45] (fun v5 v45 wr2 => ∃ q : Nat, v45 = .int .i64 (q : Int) ∧ q ≤ n ∧ UseAt w2 gT n rs v (otherP v3 o p q) v5 wr2) (fun _ v45 _ => n - (intOf v45).toNat)
            case atStart => exact ⟨0, rfl, Nat.zero_le _, ch2, rfl, HTI.out, HKI.out, HFI.out⟩
            case round =>
              obtain ⟨q, rfl, hq, ch3, rfl, ht, hk, hf⟩ := hrel
              have HTQ := Lib.hid ht; have HKQ := Lib.hid hk; have HFQ := Lib.hid hf
              clear ht hk hf
              by_cases hql : q < n
              · have HVQ := Lib.hid (show Tbl n (otherP v3 o p q) from (otherP_ok (n := n) (o := o) (p := (p : Int)) (k := q) (by omega) (by omega) HC.out.1 v3 HV3.out).1)
                have HNQ := Lib.hid (otherP_succ v3 o p q)
                have HVQ' := HVQ.out
                generalize otherP v3 o p q = vq at HTQ HFQ HNQ HVQ'
                have HVQ := Lib.hid HVQ'
                clear HVQ'
                have HW3 := Lib.hid (HK0D.out.trans' HKQ.out (fun i hi => .inr (HR.out i hi)))
                obtain ⟨q0, q1, q2, q3⟩ := (HOD.out.keepsB HKQ.out HBX.out)
                have hqb : bx < wr.heap.size := (HOD.out.keepsB HKQ.out HBX.out).lt
                have KA := (Keeps.refl (fun _ => False) wr).alloc (.cells #[.int .i64 (q : Int)] 3)
                have HKA := Lib.hid KA
                have HI2A := Lib.hid (HI2.out.keeps0 (HW3.out.trans KA))
                have HQA := Lib.hid (show Ints (wr.alloc (.cells #[.int .i64 (q : Int)] 3)) (.slice (some ⟨wr.heap.size, 0, none⟩) 1 1) [(q : Int)] from (IArr.new wr [(q : Int)]).ints (by simp [maxLen]))
                have HTQA := Lib.hid (HTQ.out.keeps0 KA); have HKQA := Lib.hid (HKQ.out.trans (KA.mono (fun _ _ h => h.elim)))
                have q1A := KA.cell q1 (fun h => h); have q0A := KA.cell q0 (fun h => h); have q2A := KA.cell q2 (fun h => h); have q3A := KA.cell q3 (fun h => h)
                clear KA
                go_wp2_with fail
                refine (contains_any _ _ _ o.add [(q : Int)] HI2A.out HQA.out U2.out.2 (List.pairwise_singleton _ _)).mono ?_
                rintro e w5 ⟨rfl, rfl⟩
                rw [sub_one]
                clear q0 q1 q2 q3
                generalize hwa : wr.alloc (.cells #[.int .i64 (q : Int)] 3) = wa at HKA HI2A HQA HTQA HKQA q0A q1A q2A q3A ⊢
                clear hwa
                by_cases h1 : (q : Int) ∈ o.add
                · have HN2 := Lib.hid (show otherP v3 o p (q + 1) = vq by rw [HNQ.out, if_pos (.inl h1)])
                  rw [decide_eq_true h1]
                  clear h1
                  go_wp2_with fail
                  go_roundw
                  case rel => exact ⟨q + 1, by go_num, by omega, ch3, rfl, by rw [HN2.out]; exact HTQA.out, HKQA.out, by rw [HN2.out]; exact HFQ.out⟩
                  case measure => simp [intOf]; omega
                · rw [decide_eq_false h1]
                  have KB := (Keeps.refl (fun _ => False) wa).alloc (.cells #[.int .i64 (q : Int)] 3)
                  have HI3B := Lib.hid (HI3.out.keeps0 ((HW3.out.trans HKA.out).trans KB))
                  have HQB := Lib.hid (show Ints (wa.alloc (.cells #[.int .i64 (q : Int)] 3)) (.slice (some ⟨wa.heap.size, 0, none⟩) 1 1) [(q : Int)] from (IArr.new wa [(q : Int)]).ints (by simp [maxLen]))
                  have HTQB := Lib.hid (HTQA.out.keeps0 KB); have HKQB := Lib.hid (HKQA.out.trans (KB.mono (fun _ _ h => h.elim)))
                  have HKB := Lib.hid ((HW3.out.trans HKA.out).trans KB)
                  have q1B := KB.cell q1A (fun h => h); have q0B := KB.cell q0A (fun h => h); have q2B := KB.cell q2A (fun h => h); have q3B := KB.cell q3A (fun h => h)
                  have hqa : bx < wa.heap.size := by have := HKA.out.size; omega
                  have H1 := Lib.hid h1
                  clear KB h1
                  go_wp2_with fail
                  refine (contains_any _ _ _ o.del [(q : Int)] HI3B.out HQB.out U3.out.2 (List.pairwise_singleton _ _)).mono ?_
                  rintro e w5 ⟨rfl, rfl⟩
                  rw [sub_one]
                  clear q0A q1A q2A q3A
                  generalize hwb : wa.alloc (.cells #[.int .i64 (q : Int)] 3) = wb at HI3B HQB HTQB HKQB HKB q0B q1B q2B q3B ⊢
                  clear hwb
                  by_cases h2 : (q : Int) ∈ o.del
                  · have HN2 := Lib.hid (show otherP v3 o p (q + 1) = vq by rw [HNQ.out, if_pos (.inr h2)])
                    rw [decide_eq_true h2]
                    clear h2
                    go_wp2_with fail
                    go_roundw
                    case rel => exact ⟨q + 1, by go_num, by omega, ch3, rfl, by rw [HN2.out]; exact HTQB.out, HKQB.out, by rw [HN2.out]; exact HFQ.out⟩
                    case measure => simp [intOf]; omega
                  · have HN2 := Lib.hid (show otherP v3 o p (q + 1) = lowT vq p q (plusI (valueP vq (withF o.pre q)) o.cost) by rw [HNQ.out, if_neg (fun h => h.elim H1.out h2)]; rfl)
                    rw [decide_eq_false h2]
                    clear h2
                    go_upto_region 15 with fail
                    have KD := (Keeps.refl (fun _ => False) wb).drew
                    have KE := ((Keeps.refl (fun _ => False) wb).alloc (.cells #[.int .i64 (q : Int)] 3)).drew
                    have HI1E := Lib.hid (HI1.out.keeps0 (HKB.out.trans KE))
                    have HQE := Lib.hid (show Ints (wb.alloc (.cells #[.int .i64 (q : Int)] 3)).drew (.slice (some ⟨wb.heap.size, 0, none⟩) 1 1) [(q : Int)] from ((IArr.new wb [(q : Int)]).ints (by simp [maxLen])).keeps0 (Keeps.refl (fun _ => False) _).drew)
                    have HTQE := Lib.hid (HTQB.out.keeps0 KE)
                    have HKE := Lib.hid KE
                    have e0 := KE.cell q0B (fun h => h); have e3 := KE.cell q3B (fun h => h)
                    have p0 := KD.cell q0B (fun h => h); have p3 := KD.cell q3B (fun h => h)
                    have hqb2 : bx < wb.heap.size := World.block_lt_of_cell? wb _ q0B
                    have HWB := Lib.hid (show ∀ x ∈ withF o.pre q, 0 ≤ x ∧ x < (n : Int) from fun x hx => (withF_mem hx).elim (fun h => U1.out.1 x h) (fun h => by omega))
                    have HVW := Lib.hid (valueP_bound HVQ.out (withF o.pre q))
                    clear KD KE q0B q1B q2B q3B
                    go_region_held3 (fun w' => w'.cell? ⟨bx, 0, none⟩ = some (.slice a1 o.pre.length k1) ∧ w'.cell? ⟨bx, 3, none⟩ = some (.int .i64 o.cost))
                      (first | go_keep | exact ⟨e0, e3⟩)
                      (first
                        | (go_at_call 134; refine (union_any _ _ _ o.pre [(q : Int)] HI1E.out HQE.out L1.out (by simp)).mono ?_; rintro en wc ⟨vu, rfl, hown, hkc⟩; have HU := Lib.hid (Ints.of_own (l := updL o.pre [(q : Int)] []) hown); have HKC := Lib.hid hkc; have u0 := hkc.cell e0 (fun h => h); have u3 := hkc.cell e3 (fun h => h); clear hown hkc)
                        | (go_at_call 102; refine (pvalue_any _ gT n rs vq _ (withF o.pre q) (HTQE.out.keeps0 HKC.out) HU.out HWB.out).mono ?_; rintro en w9 ⟨rfl, rfl⟩)
                        | (go_at_call 117; refine (plus_any _ _ _ HVW.out HC.out).mono ?_; rintro en w9 ⟨rfl, rfl⟩))
                    all_goals
                      have HX2 := Lib.hid (plusI_low HVW.out.1 HC.out.1)
                      have HTC := Lib.hid (HTQE.out.keeps0 HKC.out)
                      have HKW := Lib.hid (HKQB.out.trans ((HKE.out.trans HKC.out).mono (fun _ _ h => h.elim)))
                      generalize plusI (valueP vq (withF o.pre q)) o.cost = c2 at HX2 HN2 ⊢
                      have HFL := Lib.hid (lowT_flag HVQ.out hp hql HX2.out)
                      clear e0 e3 p0 p3 u0 u3
                      go_wp2_with fail
                      refine (pset_any _ gT n rs vq p q c2 HTC.out hp hql).mono ?_
                      rintro e w5 ⟨rfl, ht5, hk5⟩
                      have HT5 := Lib.hid ht5; have HK5 := Lib.hid (HKW.out.trans hk5)
                      clear ht5 hk5
                      have HF5 := Lib.hid (HFQ.out.more HFL.out)
                      generalize decide (c2 < getT vq p q) = dd at HF5 ⊢
                      clear HFL
                      cases dd with
                      | true =>
                        go_wp2_with fail
                        go_roundw
                        case rel => exact ⟨q + 1, by go_num, by omega, true, rfl, by rw [HN2.out]; exact HT5.out, HK5.out, by rw [HN2.out]; exact HF5.out⟩
                        case measure => simp [intOf]; omega
                      | false =>
                        go_wp2_with fail
                        go_roundw
                        case rel => exact ⟨q + 1, by go_num, by omega, ch3, rfl, by rw [HN2.out]; exact HT5.out, HK5.out, by rw [HN2.out]; exact HF5.out⟩
                        case measure => simp [intOf]; omega
              · have HNZ := Lib.hid (show usePK v o n c (o.add.take (j + 1)) = otherP v3 o p q by rw [HNJ.out, show q = n by omega])
                go_wp2_with fail
                go_roundw
                case rel => exact ⟨j + 1, by go_num, by omega, ch3, rfl, by rw [HNZ.out]; exact HTQ.out, HKQ.out, by rw [HNZ.out]; exact HFQ.out⟩
                case measure => simp [intOf]; omega
      · rw [List.take_of_length_le (by omega)] at HTJ HFJ
        go_wp2_with fail
        go_ret
        exact ⟨ch, rfl, by rw [HUP.out]; exact HTJ.out, (HKD.out.mono (fun _ _ h => h.elim)).trans HKJ.out, by rw [HUP.out]; exact HFJ.out⟩

end Go.Proofs.YtdokakhgflljgaaGreat

namespace Go.Proofs.YtdokakhgflljgaaGreat
open Go.RowKit Go.Shelf

theorem Tryz.info_rowA : (Tryz.prog.info? 22).map (fun i => (i.zero, i.size, i.bytes)) = some (some (.slice none 0 0), 1, 24) := by kernel_rfl
/-- make(table, n). -/
theorem run_make_rows (W : World) (c : Int) (n : Nat) (hc : c = (n : Int)) (hn : n ≤ 100000) :
    (Instr.makeSlice 175 (.int .i64 c) (.int .i64 c)).run Tryz.prog W = .ok (.slice (some ⟨W.heap.size, 0, none⟩) n n) (W.alloc (.cells (Array.replicate n (Value.slice none 0 0)) 22)) := by
  subst hc
  obtain ⟨i0, hi0, hz0, hz1, hz2⟩ := info_parts Tryz.info_rowA
  have hr := run_make (P := Tryz.prog) W 175 22 i0 _ Tryz.underlying175 hi0 hz0 .i64 .i64 n n (by omega) (Int.le_refl _) (by rw [hz2]; omega) (by omega)
  have e : madeCells (Value.cells (.slice none 0 0)) n = Array.replicate n (Value.slice none 0 0) := by
    apply Array.ext
    · simp [madeCells]
    · intro i h1 h2
      simp [madeCells, Value.cells]
      rw [Nat.mod_one]; rfl
  rw [hr, hz1]
  simp only [Int.toNat_natCast, Nat.mul_one]
  rw [e]

/-- The first rows of a table; the others are nil. -/
structure TabTo (W : World) (gT n : Nat) (rs : List Nat) (v : List (List Int)) : Prop where
  top : Arr W gT 22 ((rs.map fun g => Value.slice (some ⟨g, 0, none⟩) n n) ++ List.replicate (n - rs.length) (.slice none 0 0))
  len : rs.length = v.length
  row : ∀ (p g : Nat) (r : List Int), rs[p]? = some g → v[p]? = some r → IArr W g r ∧ r.length = n
  nodup : rs.Nodup
  out : gT ∉ rs
  lt : ∀ g ∈ rs, g < W.heap.size
theorem TabTo.keeps {S : Nat → Prop} {W W' : World} {gT n : Nat} {rs : List Nat} {v : List (List Int)} (h : TabTo W gT n rs v) (hk : Keeps S W W') (h1 : ¬ S gT) (h2 : ∀ g ∈ rs, ¬ S g) : TabTo W' gT n rs v :=
  ⟨h.top.keeps hk h1, h.len, fun p g r hg hr => ⟨(h.row p g r hg hr).1.keeps hk (h2 g (List.mem_of_getElem? hg)), (h.row p g r hg hr).2⟩, h.nodup, h.out, fun g hg => Nat.lt_of_lt_of_le (h.lt g hg) hk.size⟩
theorem TabTo.start (W : World) (n : Nat) : TabTo (W.alloc (.cells (Array.replicate n (Value.slice none 0 0)) 22)) W.heap.size n [] [] := by
  refine ⟨?_, rfl, fun p g r h => by simp at h, List.nodup_nil, List.not_mem_nil, fun g h => by cases h⟩
  have h := Arr.new W 22 (List.replicate n (Value.slice none 0 0))
  rw [List.toArray_replicate] at h
  simpa using h
theorem TabTo.tab {W : World} {gT n : Nat} {rs : List Nat} {v : List (List Int)} (h : TabTo W gT n rs v) (hn : rs.length = n) : Tab W gT n rs v :=
  ⟨by have := h.top; rw [hn, Nat.sub_self] at this; simpa using this, hn, by rw [← h.len, hn], h.row, h.nodup, h.out⟩
/-- One row more. -/
theorem TabTo.more {W : World} {gT n : Nat} {rs : List Nat} {v : List (List Int)} (h : TabTo W gT n rs v) {g : Nat} {r : List Int} (hr : IArr W g r) (hl : r.length = n) (hg : g ∉ rs) (hgt : gT ≠ g) (hlt : rs.length < n) :
    TabTo (W.setCell ⟨gT, rs.length, none⟩ (.slice (some ⟨g, 0, none⟩) n n)) gT n (rs ++ [g]) (v ++ [r]) := by
  have hk := keeps_set W gT rs.length (.slice (some ⟨g, 0, none⟩) n n)
  refine ⟨?_, by rw [List.length_append, List.length_append, h.len]; rfl, fun p g' r' hg' hr' => ?_, ?_, ?_, fun g' hg' => ?_⟩
  · have h1 := h.top.set rs.length (.slice (some ⟨g, 0, none⟩) n n)
    have e : ((rs.map fun g => Value.slice (some ⟨g, 0, none⟩) n n) ++ List.replicate (n - rs.length) (Value.slice none 0 0)).set rs.length (Value.slice (some ⟨g, 0, none⟩) n n) =
        ((rs ++ [g]).map fun g => Value.slice (some ⟨g, 0, none⟩) n n) ++ List.replicate (n - (rs ++ [g]).length) (Value.slice none 0 0) := by
      rw [List.set_append_right _ _ (by rw [List.length_map]; omega), List.length_map, Nat.sub_self, List.map_append, List.append_assoc]
      congr 1
      obtain ⟨m, hm⟩ : ∃ m, n - rs.length = m + 1 := ⟨n - rs.length - 1, by omega⟩
      rw [hm, List.length_append, List.length_singleton, show n - (rs.length + 1) = m by omega, List.replicate_succ]
      rfl
    rw [e] at h1; exact h1
  · rw [List.getElem?_append] at hg' hr'
    rw [h.len] at hg'
    split at hg'
    · rename_i hp
      rw [if_pos hp] at hr'
      obtain ⟨a1, a2⟩ := h.row p g' r' hg' hr'
      exact ⟨a1.keeps hk (fun e => h.out (e ▸ List.mem_of_getElem? hg')), a2⟩
    · rename_i hp
      rw [if_neg hp] at hr'
      have hp0 : p - v.length = 0 := by
        have := (List.getElem?_eq_some_iff.1 hg').1
        simp at this; omega
      rw [hp0] at hg' hr'
      simp at hg' hr'
      subst hg' hr'
      exact ⟨hr.keeps hk (fun e => hgt e.symm), hl⟩
  · rw [List.nodup_append]
    exact ⟨h.nodup, by simp, fun a ha b hb e => hg (by rw [List.mem_singleton.1 hb] at e; exact e ▸ ha)⟩
  · rw [List.mem_append, List.mem_singleton]
    exact fun e => e.elim h.out hgt
  · have hz := hk.size
    rcases List.mem_append.1 hg' with e | e
    · exact Nat.lt_of_lt_of_le (h.lt g' e) hz
    · rw [List.mem_singleton.1 e]; exact Nat.lt_of_lt_of_le hr.lt hz
/-- A store into the last row. -/
theorem TabTo.put {W : World} {gT n : Nat} {rs : List Nat} {v : List (List Int)} {g : Nat} {r : List Int} (h : TabTo W gT n (rs ++ [g]) (v ++ [r])) (q : Nat) (x : Int) : TabTo (W.setCell ⟨g, q, none⟩ (.int .i64 x)) gT n (rs ++ [g]) (v ++ [r.set q x]) := by
  have hk := keeps_set W g q (.int .i64 x)
  have hl : rs.length = v.length := by have := h.len; simpa using this
  have hnd := List.nodup_append.1 h.nodup
  refine ⟨h.top.keeps hk (fun e => h.out (by rw [List.mem_append, List.mem_singleton]; exact .inr e)), by simpa using hl, fun p g' r' hg' hr' => ?_, h.nodup, h.out, fun g' hg' => Nat.lt_of_lt_of_le (h.lt g' hg') hk.size⟩
  rw [List.getElem?_append] at hr'
  have h2 := h.row p g'
  rw [List.getElem?_append (l₁ := v)] at h2
  split at hr'
  · rename_i hp
    rw [if_pos hp] at h2
    obtain ⟨a1, a2⟩ := h2 r' hg' hr'
    refine ⟨a1.keeps hk (fun e => ?_), a2⟩
    rw [List.getElem?_append_left (by omega)] at hg'
    exact hnd.2.2 g' (List.mem_of_getElem? hg') g (by simp) e
  · rename_i hp
    rw [if_neg hp] at h2
    have hp0 : p - v.length = 0 := by
      have := (List.getElem?_eq_some_iff.1 hr').1
      simp at this; omega
    rw [hp0] at hr' h2
    simp at hr'
    subst hr'
    obtain ⟨a1, a2⟩ := h2 r hg' (by simp)
    rw [List.getElem?_append_right (by omega)] at hg'
    have : g' = g := by
      have h3 := (List.getElem?_eq_some_iff.1 hg').1
      have h4 := List.mem_of_getElem? hg'
      simpa using h4
    subst this
    exact ⟨a1.set q x, by rw [List.length_set]; exact a2⟩
theorem TabTo.last {W : World} {gT n : Nat} {rs : List Nat} {v : List (List Int)} {g : Nat} {r : List Int} (h : TabTo W gT n (rs ++ [g]) (v ++ [r])) : IArr W g r ∧ r.length = n ∧ W.cell? ⟨gT, rs.length, none⟩ = some (.slice (some ⟨g, 0, none⟩) n n) ∧ gT < W.heap.size := by
  have hl : rs.length = v.length := by have := h.len; simpa using this
  obtain ⟨a1, a2⟩ := h.row rs.length g r (by simp) (by rw [hl]; simp)
  exact ⟨a1, a2, h.top.cell (by simp), h.top.lt⟩

/-- A row of the table at the start, up to q. -/
def rowTo (n : Nat) (s : List Int) (p q : Nat) : List Int := (List.range n).map fun i : Nat => if i < q then (if (p : Int) ∈ s ∧ (i : Int) ∈ s then 0 else 1000000000) else 0
theorem rowTo_len (n : Nat) (s : List Int) (p q : Nat) : (rowTo n s p q).length = n := by unfold rowTo; simp
theorem rowTo_zero (n : Nat) (s : List Int) (p : Nat) : rowTo n s p 0 = List.replicate n 0 := by
  refine List.eq_replicate_iff.2 ⟨rowTo_len _ _ _ _, fun b hb => ?_⟩
  unfold rowTo at hb
  obtain ⟨i, _, rfl⟩ := List.mem_map.1 hb
  simp
theorem rowTo_get {n : Nat} (s : List Int) (p q : Nat) {i : Nat} (hi : i < n) : (rowTo n s p q)[i]? = some (if i < q then (if (p : Int) ∈ s ∧ (i : Int) ∈ s then 0 else 1000000000) else 0) := by
  unfold rowTo; rw [List.getElem?_map, List.getElem?_range hi]; rfl
theorem rowTo_keep {n : Nat} {s : List Int} {p q : Nat} (h : (p : Int) ∈ s ∧ (q : Int) ∈ s) : rowTo n s p (q + 1) = rowTo n s p q := by
  unfold rowTo
  refine List.map_congr_left fun i _ => ?_
  by_cases hi : i < q
  · rw [if_pos hi, if_pos (by omega)]
  · rw [if_neg hi]
    by_cases hq : i = q
    · subst hq; rw [if_pos (by omega), if_pos h]
    · rw [if_neg (by omega)]
theorem rowTo_put {n : Nat} {s : List Int} {p q : Nat} (h : ¬ ((p : Int) ∈ s ∧ (q : Int) ∈ s)) : rowTo n s p (q + 1) = (rowTo n s p q).set q 1000000000 := by
  refine List.ext_getElem? fun i => ?_
  by_cases hi : i < n
  · rw [rowTo_get s p (q + 1) hi, List.getElem?_set, rowTo_len]
    by_cases hq : q = i
    · subst hq
      rw [if_pos (by omega), if_neg h, if_pos rfl, if_pos hi]
    · rw [if_neg hq, rowTo_get s p q hi]
      by_cases hlt : i < q
      · rw [if_pos hlt, if_pos (by omega)]
      · rw [if_neg hlt, if_neg (by omega)]
  · rw [List.getElem?_eq_none (by rw [rowTo_len]; omega), List.getElem?_eq_none (by rw [List.length_set, rowTo_len]; omega)]
theorem rowTo_all (n : Nat) (s : List Int) : startT n s = (List.range n).map fun p : Nat => rowTo n s p n := by
  unfold startT rowTo
  refine List.map_congr_left fun p _ => List.map_congr_left fun q hq => ?_
  rw [if_pos (List.mem_range.1 hq)]
theorem opsP_snoc (n : Nat) (os : List Opr) (o : Opr) (v : List (List Int)) : opsP n (os ++ [o]) v = useP (opsP n os v) o n := by unfold opsP; rw [List.foldl_append]; rfl

section
variable (w1 w3 : World) (gT n : Nat) (rs : List Nat) (ops : List Opr) (v0 v : List (List Int))
/-- Some rows are made. -/
def RowsTo (s : List Int) (k : Nat) (wr : World) : Prop := Keeps (fun _ => False) w1 wr ∧ ∃ rs : List Nat, rs.length = k ∧ (∀ g ∈ rs, w1.heap.size ≤ g) ∧ TabTo wr gT n rs ((List.range k).map fun p : Nat => rowTo n s p n)
def RowAt (s : List Int) (k : Nat) (rs : List Nat) (g q : Nat) (wr : World) : Prop := Keeps (fun _ => False) w1 wr ∧ TabTo wr gT n (rs ++ [g]) (((List.range k).map fun p : Nat => rowTo n s p n) ++ [rowTo n s k q])
def PfHead (k : Nat) (v8 : Value) (wr : World) : Prop :=
  ∃ (v : List (List Int)) (ch : Bool), v8 = .bool ch ∧ Tbl n v ∧ Tab wr gT n rs v ∧ Keeps (fun b => b ∈ rs) w3 wr ∧ fixG (opsP n ops) (weightT v0) v = fixG (opsP n ops) (weightT v0) v0 ∧ weightT v ≤ weightT v0 ∧ (ch = false → opsP n ops v = v) ∧ k = 2 * weightT v + (if ch = true then 1 else 0)
def PfMid (j : Nat) (v8 : Value) (wr : World) : Prop := ∃ ch : Bool, v8 = .bool ch ∧ Tab wr gT n rs (opsP n (ops.take j) v) ∧ Keeps (fun b => b ∈ rs) w3 wr ∧ Flag weightT v (opsP n (ops.take j) v) ch
end

set_option maxRecDepth 100000 in
set_option maxHeartbeats 8000000 in
theorem pfind_any (w : World) (vi vg vo vs : Value) (t : Tsk) (s : List Int) (h : TaskAt w vi vg vo t) (ok : t.Ok) (hs : Ints w vs s) (ss : s.Pairwise (· < ·)) :
    Calls Tryz.prog 101 #[.agg #[.int .i64 t.n, vi, vg, vo], vs] w fun e w' => ∃ gT rs, e = .returned (.slice (some ⟨gT, 0, none⟩) t.n.toNat t.n.toNat) ∧ Tab w' gT t.n.toNat rs (pairsV t s) ∧ Keeps (fun _ => False) w w' := by
  obtain ⟨ai, ci, h1, _⟩ := h.init.form
  obtain ⟨ag, cg, h2, _⟩ := h.goal.form
  obtain ⟨ao, co, h3, hmo⟩ := h.ops.form
  obtain ⟨a4, cs, h4, hms⟩ := hs.form
  subst h1 h2 h3 h4
  have hn0 : 0 ≤ t.n ∧ t.n ≤ 24 := ⟨by have := ok.n0; omega, ok.n1⟩
  obtain ⟨n, hn⟩ : ∃ n : Nat, t.n = (n : Int) := ⟨t.n.toNat, by omega⟩
  have HNT := Lib.hid (show t.n.toNat = n by omega)
  have hn24 : n ≤ 24 := by omega
  have HN := Lib.hid hn; clear hn
  have HOP := Lib.hid (pairs_need ok)
  have K1 := (Keeps.refl (fun _ => False) w).alloc (.cells #[.int .i64 t.n, .slice ai t.init.length ci, .slice ag t.goal.length cg, .slice ao t.ops.length co] 25)
  have HB := Lib.hid (Four.new w (.int .i64 t.n) (.slice ai t.init.length ci) (.slice ag t.goal.length cg) (.slice ao t.ops.length co) 25)
  have HT := Lib.hid (h.keeps0 K1); have HS := Lib.hid (hs.keeps0 K1)
  have OK := Lib.hid ok; have HSS := Lib.hid ss; have HK1 := Lib.hid K1
  clear h ok hs ss K1
  go_enter Tryz.func101, Tryz.ntmps101
  go_upto_region 1 with fail
  generalize (w.alloc (.cells #[.int .i64 t.n, .slice ai t.init.length ci, .slice ag t.goal.length cg, .slice ao t.ops.length co] 25)) = w1 at HT HB HK1 HS ⊢
  obtain ⟨d0, d1, d2, d3⟩ := HB.out
  have hbx := HB.out.lt
  have hmk := run_make_rows w1 t.n n HN.out (by omega)
  go_upto_region 2 with fail
  have KM := (Keeps.refl (fun _ => False) w1).alloc (.cells (Array.replicate n (Value.slice none 0 0)) 22)
  have HTS := Lib.hid (TabTo.start w1 n)
  have HKM := Lib.hid KM
  clear d0 d1 d2 d3 hbx hmk KM
  obtain ⟨gT, hg⟩ : ∃ g, w1.heap.size = g := ⟨_, rfl⟩
  have HGT := Lib.hid hg
  rw [hg] at HTS ⊢
  generalize (w1.alloc (.cells (Array.replicate n (Value.slice none 0 0)) 22)) = w3 at HTS HKM ⊢
  clear hg
  go_wp2_with fail
  go_loopw [16] (fun v16 wr => ∃ k : Nat, v16 = .int .i64 (k : Int) ∧ k ≤ n ∧ RowsTo w1 gT n s k wr) (fun v16 _ => n - (intOf v16).toNat)
  case atStart => exact ⟨0, rfl, Nat.zero_le _, HKM.out, [], rfl, (fun g h => by cases h), HTS.out⟩
  case round =>
    obtain ⟨k, rfl, hk, hkr, rs, hrl, hrb, htt⟩ := hrel
    have HKR := Lib.hid hkr; have HRB := Lib.hid hrb; have HTT := Lib.hid htt; have HRL := Lib.hid hrl
    clear hkr hrb htt hrl
    by_cases hlt : k < n
    · have hnk : (k : Int) < (n : Int) := by omega
      obtain ⟨d0, d1, d2, d3⟩ := (HB.out.keeps0 HKR.out)
      have hbx : w.heap.size < wr.heap.size := World.block_lt_of_cell? wr _ d0
      have hmk := run_make_ints wr t.n n HN.out (by omega)
      have KM := (Keeps.refl (fun _ => False) wr).alloc (.cells (Array.replicate n (Value.int .i64 0)) 3)
      have hzero := IArr.zeros wr n
      have htm := HTT.out.keeps KM (fun h => h) (fun _ _ h => h)
      have hgl := HTT.out.top.lt
      obtain ⟨u, hu⟩ : ∃ u, (wr.alloc (.cells (Array.replicate n (Value.int .i64 0)) 3)).cell? ⟨gT, k, none⟩ = some u := by
        have hl := HRL.out
        refine ⟨.slice none 0 0, htm.top.cell (i := k) ?_⟩
        rw [List.getElem?_append_right (by rw [List.length_map]; omega), List.length_map, List.getElem?_replicate, if_pos (by omega)]
      have hfz := htm.top.frozen k
      have hgs : gT < (wr.alloc (.cells (Array.replicate n (Value.int .i64 0)) 3)).heap.size := htm.top.lt
      have hnew := htm.more hzero (by simp) (fun e => by have := HTT.out.lt _ e; omega) (by omega) (by rw [HRL.out]; exact hlt)
      rw [HRL.out] at hnew
      have HNEW := Lib.hid hnew
      have HKN := Lib.hid (show Keeps (fun _ => False) w1 ((wr.alloc (.cells (Array.replicate n (Value.int .i64 0)) 3)).setCell ⟨gT, k, none⟩ (.slice (some ⟨wr.heap.size, 0, none⟩) n n)) from
        (HKR.out.trans KM).trans' (keeps_set _ gT k _) (fun i hi => .inr (by have := HGT.out; omega)))
      clear hzero htm hnew KM
      go_upto_region 6 with fail
      obtain ⟨g, hg⟩ : ∃ g, wr.heap.size = g := ⟨_, rfl⟩
      rw [hg] at HNEW HKN ⊢
      have HGG := Lib.hid (show w1.heap.size ≤ g by have := HKR.out.size; omega)
      rw [World.setCell_alloc_past _ _ _ _ hgl] at HNEW HKN
      generalize (wr.setCell ⟨gT, k, none⟩ (.slice (some ⟨g, 0, none⟩) n n)).alloc (.cells (Array.replicate n (Value.int .i64 0)) 3) = w5 at HNEW HKN ⊢
      rw [← rowTo_zero n s k] at HNEW
      clear d0 d1 d2 d3 hbx hmk hu u hfz hgs hgl hg
      obtain ⟨_, _, hc6, hc7⟩ := HNEW.out.last
      rw [HRL.out] at hc6
      go_wp2_with fail
      clear hc6 hc7
      go_loopw [30] (fun v30 wr' => ∃ q : Nat, v30 = .int .i64 (q : Int) ∧ q ≤ n ∧ RowAt w1 gT n s k rs g q wr') (fun v30 _ => n - (intOf v30).toNat)
      case atStart => exact ⟨0, rfl, Nat.zero_le _, HKN.out, HNEW.out⟩
      case round =>
        obtain ⟨q, rfl, hq, hkq, htq⟩ := hrel
        have HKQ := Lib.hid hkq; have HTQ := Lib.hid htq
        clear hkq htq
        by_cases hql : q < n
        · have KA := (Keeps.refl (fun _ => False) wr).alloc (.cells #[.int .i64 (k : Int)] 3)
          have HSA := Lib.hid (HS.out.keeps0 (HKQ.out.trans KA))
          have HQA := Lib.hid (show Ints (wr.alloc (.cells #[.int .i64 (k : Int)] 3)) (.slice (some ⟨wr.heap.size, 0, none⟩) 1 1) [(k : Int)] from (IArr.new wr [(k : Int)]).ints (by simp [maxLen]))
          have HKA := Lib.hid (HKQ.out.trans KA)
          have HTA := Lib.hid (HTQ.out.keeps KA (fun h => h) (fun _ _ h => h))
          clear KA
          go_wp2_with fail
          refine (contains_any _ _ _ s [(k : Int)] HSA.out HQA.out HSS.out (List.pairwise_singleton _ _)).mono ?_
          rintro e w9 ⟨rfl, rfl⟩
          rw [sub_one]
          generalize hwa : wr.alloc (.cells #[.int .i64 (k : Int)] 3) = wa at HSA HQA HKA HTA ⊢
          clear hwa HQA
          by_cases h1 : (k : Int) ∈ s
          · rw [decide_eq_true h1]
            have KB := (Keeps.refl (fun _ => False) wa).alloc (.cells #[.int .i64 (q : Int)] 3)
            have HSB := Lib.hid (HSA.out.keeps0 KB)
            have HQB := Lib.hid (show Ints (wa.alloc (.cells #[.int .i64 (q : Int)] 3)) (.slice (some ⟨wa.heap.size, 0, none⟩) 1 1) [(q : Int)] from (IArr.new wa [(q : Int)]).ints (by simp [maxLen]))
            have HKB := Lib.hid (HKA.out.trans KB)
            have HTB := Lib.hid (HTA.out.keeps KB (fun h => h) (fun _ _ h => h))
            have H1 := Lib.hid h1
            clear KB h1
            go_wp2_with fail
            refine (contains_any _ _ _ s [(q : Int)] HSB.out HQB.out HSS.out (List.pairwise_singleton _ _)).mono ?_
            rintro e w9 ⟨rfl, rfl⟩
            rw [sub_one]
            generalize hwb : wa.alloc (.cells #[.int .i64 (q : Int)] 3) = wb at HSB HQB HKB HTB ⊢
            clear hwb HQB
            by_cases h2 : (q : Int) ∈ s
            · rw [decide_eq_true h2]
              have HE := Lib.hid (rowTo_keep (n := n) ⟨H1.out, h2⟩)
              clear h2
              go_wp2_with fail
              go_roundw
              case rel => exact ⟨q + 1, by go_num, by omega, HKB.out, by rw [HE.out]; exact HTB.out⟩
              case measure => simp [intOf]; omega
            · rw [decide_eq_false h2]
              have HE := Lib.hid (rowTo_put (n := n) (s := s) (p := k) (q := q) (fun h => h2 h.2))
              obtain ⟨r1, r2, r3, r4⟩ := HTB.out.last
              rw [HRL.out] at r3
              have r5 := r1.cell (rowTo_get s k q hql)
              have r6 := r1.frozen q
              have hki : (k : Int) < (n : Int) := by omega
              have hqi : (q : Int) < (n : Int) := by omega
              have HN2 := Lib.hid (show RowAt w1 gT n s k rs g (q + 1) (wb.setCell ⟨g, q, none⟩ (.int .i64 1000000000)) from ⟨HKB.out.trans' (keeps_set _ g q _) (fun i hi => .inr (by have := HGG.out; omega)), by rw [HE.out]; exact HTB.out.put q _⟩)
              clear h2 r1 r2
              go_wp2_with fail
              go_roundw
              case rel => exact ⟨q + 1, by go_num, by omega, HN2.out⟩
              case measure => simp [intOf]; omega
          · rw [decide_eq_false h1]
            have HE := Lib.hid (rowTo_put (n := n) (s := s) (p := k) (q := q) (fun h => h1 h.1))
            obtain ⟨r1, r2, r3, r4⟩ := HTA.out.last
            rw [HRL.out] at r3
            have r5 := r1.cell (rowTo_get s k q hql)
            have r6 := r1.frozen q
            have hki : (k : Int) < (n : Int) := by omega
            have hqi : (q : Int) < (n : Int) := by omega
            have HN2 := Lib.hid (show RowAt w1 gT n s k rs g (q + 1) (wa.setCell ⟨g, q, none⟩ (.int .i64 1000000000)) from ⟨HKA.out.trans' (keeps_set _ g q _) (fun i hi => .inr (by have := HGG.out; omega)), by rw [HE.out]; exact HTA.out.put q _⟩)
            clear h1 r1 r2
            go_wp2_with fail
            go_roundw
            case rel => exact ⟨q + 1, by go_num, by omega, HN2.out⟩
            case measure => simp [intOf]; omega
        · have HFIN := Lib.hid (show RowsTo w1 gT n s (k + 1) wr from ⟨HKQ.out, rs ++ [g], by rw [List.length_append, HRL.out]; rfl, fun g' hg' => by
              rcases List.mem_append.1 hg' with e | e
              · exact HRB.out g' e
              · rw [List.mem_singleton.1 e]; exact HGG.out, by
              rw [List.range_succ, List.map_append]
              have hqn : q = n := by omega
              rw [← hqn]
              rw [← hqn] at HTQ
              exact HTQ.out⟩)
          go_wp2_with fail
          go_roundw
          case rel => exact ⟨k + 1, by go_num, by omega, HFIN.out⟩
          case measure => simp [intOf]; omega
    · have hkn : k = n := by omega
      rw [hkn, ← rowTo_all] at HTT
      rw [hkn] at HRL
      have HTZ := Lib.hid (HTT.out.tab HRL.out)
      have HV0 := Lib.hid (startT_ok n s)
      have HPV := Lib.hid (show pairsV t s = fixG (opsP n t.ops) (weightT (startT n s)) (startT n s) by unfold pairsV; rw [HNT.out])
      have HOK := Lib.hid (show Okf (Tbl n) weightT LeT (opsP n t.ops) from opsP_ok (by have h := HOP.out; rw [HNT.out] at h; exact h))
      clear HTT HRL hkn HKM HTS
      generalize startT n s = v0 at HTZ HV0 HPV
      generalize hw6 : wr = w6 at HKR HTZ ⊢
      clear hw6
      have HBW : ∀ wq : World, Keeps (fun b => b ∈ rs) w6 wq → Keeps (fun _ => False) w1 wq := fun wq hk => HKR.out.trans' hk (fun i hi => .inr (HRB.out i hi))
      have HBW := Lib.hid HBW
      go_wp2_with fail
      go_loopg [8] (2 * weightT v0 + 1) (fun k v8 wr => PfHead w6 gT n rs t.ops v0 k v8 wr)
      case atStart => exact ⟨v0, true, rfl, HV0.out, HTZ.out, Keeps.refl _ _, rfl, Nat.le_refl _, (fun h => by cases h), by rw [if_pos rfl]⟩
      case round =>
        obtain ⟨v, ch, rfl, htb, hta, hkp, hfx, hwt, hst, hgk⟩ := hrel
        have HTB := Lib.hid htb; have HTA := Lib.hid hta; have HKP := Lib.hid hkp; have HFX := Lib.hid hfx; have HWT := Lib.hid hwt; have HSTD := Lib.hid hst; have HGK := Lib.hid hgk
        have HKW := Lib.hid (HBW.out wr hkp)
        clear htb hta hkp hfx hwt hst hgk
        cases ch with
        | false =>
          go_wp2_with fail
          go_ret
          refine ⟨gT, by rw [HNT.out]; rfl, ⟨rs, ?_⟩, HK1.out.trans HKW.out⟩
          have e : pairsV t s = v := by
            rw [HPV.out, ← HFX.out]
            exact fixG_done (HSTD.out (by first | rfl | trivial)) _
          rw [e, HNT.out]; exact HTA.out
        | true =>
          obtain ⟨d0, d1, d2, d3⟩ := (HB.out.keeps0 HKW.out)
          have hbx : w.heap.size < wr.heap.size := World.block_lt_of_cell? wr _ d0
          go_wp2_with fail
          clear d0 d1 d2 d3 hbx
          go_loopw [8, 57] (fun v8 v57 wr' => ∃ j : Nat, v57 = .int .i64 (j : Int) ∧ j ≤ t.ops.length ∧ PfMid w6 gT n rs t.ops v j v8 wr') (fun _ v57 _ => t.ops.length - (intOf v57).toNat)
          case atStart => exact ⟨0, rfl, Nat.zero_le _, false, rfl, HTA.out, HKP.out, .inl ⟨rfl, rfl⟩⟩
          case round =>
            obtain ⟨j, rfl, hj, ch, rfl, hma, hmk, hms⟩ := hrel
            have HMA := Lib.hid hma; have HMK := Lib.hid hmk; have HMS := Lib.hid hms
            have KW2 := Lib.hid (HBW.out wr hmk)
            clear hma hmk hms
            by_cases hjl : j < t.ops.length
            · obtain ⟨bo, oo, rfl, hcell⟩ := HT.out.ops.cell rfl (by omega)
              obtain ⟨o, ho⟩ : ∃ o, t.ops[j]? = some o := ⟨_, List.getElem?_eq_getElem hjl⟩
              obtain ⟨va, vb, vd, p0', p1', p2', p3', i1, i2, i3⟩ := hcell j o ho
              have p0 := KW2.out.cell p0' (fun h => h); have p1 := KW2.out.cell p1' (fun h => h); have p2 := KW2.out.cell p2' (fun h => h); have p3 := KW2.out.cell p3' (fun h => h)
              clear p0' p1' p2' p3'
              have hom := Lib.hid (show o.Ok (n : Int) by have := OK.out.ops o (List.mem_of_getElem? ho); rw [HN.out] at this; exact this)
              obtain ⟨a1, k1, f1, _⟩ := i1.form
              obtain ⟨a2, k3, f2, _⟩ := i2.form
              obtain ⟨a3, k4, f3, _⟩ := i3.form
              subst f1 f2 f3
              have I1 := Lib.hid i1; have I2 := Lib.hid i2; have I3 := Lib.hid i3
              have K4 := (Keeps.refl (fun _ => False) wr).alloc (.cells #[.slice a1 o.pre.length k1, .slice a2 o.add.length k3, .slice a3 o.del.length k4, .int .i64 o.cost] 80)
              have HO4 := Lib.hid (Four.new wr (.slice a1 o.pre.length k1) (.slice a2 o.add.length k3) (.slice a3 o.del.length k4) (.int .i64 o.cost) 80)
              have HMA4 := Lib.hid (HMA.out.keeps0 K4); have HMK4 := Lib.hid (HMK.out.trans (K4.mono (fun _ _ h => h.elim))); have KW4 := Lib.hid (KW2.out.trans K4)
              have HVJ := Lib.hid (show Tbl n (opsP n (t.ops.take j) v) from (opsP_ok (n := n) (os := t.ops.take j) (fun o ho => by have h := HOP.out o (List.mem_of_mem_take ho); rw [HNT.out] at h; exact h) v HTB.out).1)
              have HNX := Lib.hid (show opsP n (t.ops.take (j + 1)) v = useP (opsP n (t.ops.take j) v) o n by rw [take_getS ho, opsP_snoc])
              clear hcell ho i1 i2 i3 K4 HMA HMK
              go_upto_region 19 with fail
              generalize hw4 : (wr.alloc (.cells #[.slice a1 o.pre.length k1, .slice a2 o.add.length k3, .slice a3 o.del.length k4, .int .i64 o.cost] 80)) = w4 at HMA4 HMK4 HO4 KW4 ⊢
              clear p0 p1 p2 p3 hw4
              obtain ⟨b4, hb4⟩ : ∃ b4, wr.heap.size = b4 := ⟨_, rfl⟩
              rw [hb4] at HO4 ⊢
              clear hb4
              generalize opsP n (t.ops.take j) v = vj at HMA4 HMS HVJ HNX ⊢
              obtain ⟨q0, q1, q2, q3⟩ := HO4.out
              have hq4 := HO4.out.lt
              go_wp2_with fail
              refine (puse_any w1 w4 gT n rs vj _ _ _ o KW4.out HRB.out HMA4.out HVJ.out hn24 I1.out I2.out I3.out hom.out).mono ?_
              rintro e w5 ⟨dd, rfl, ht5, hk5, hf5⟩
              have HT5 := Lib.hid ht5; have HK5 := Lib.hid (HMK4.out.trans hk5); have HF5 := Lib.hid (HMS.out.more hf5)
              clear q0 q1 q2 q3 hq4 ht5 hk5 hf5
              cases dd with
              | true =>
                go_wp2_with fail
                go_roundw
                case rel => exact ⟨j + 1, by go_num, by omega, true, rfl, by rw [HNX.out]; exact HT5.out, HK5.out, by rw [HNX.out]; exact HF5.out⟩
                case measure => simp [intOf]; omega
              | false =>
                go_wp2_with fail
                go_roundw
                case rel => exact ⟨j + 1, by go_num, by omega, ch, rfl, by rw [HNX.out]; exact HT5.out, HK5.out, by rw [HNX.out]; exact HF5.out⟩
                case measure => simp [intOf]; omega
            · rw [List.take_of_length_le (by omega)] at HMA HMS
              have HFS := Lib.hid (fixG_step HOK.out (weightT v0) v HTB.out HWT.out)
              have HS1 := Lib.hid (show Tbl n (opsP n t.ops v) from (HOK.out v HTB.out).1)
              go_wp2_with fail
              rcases HMS.out with ⟨rfl, he⟩ | ⟨rfl, hlt⟩
              · have HE := Lib.hid he
                clear he
                go_roundg (2 * weightT v)
                case rel => exact ⟨opsP n t.ops v, false, rfl, HS1.out, HMA.out, HMK.out, by rw [HFS.out]; exact HFX.out, by rw [HE.out]; exact HWT.out, fun _ => by rw [HE.out]; exact HE.out, by rw [HE.out]; simp⟩
                case measure => rw [HGK.out]; simp
              · have HE := Lib.hid hlt
                clear hlt
                go_roundg (2 * weightT (opsP n t.ops v) + 1)
                case rel => exact ⟨opsP n t.ops v, true, rfl, HS1.out, HMA.out, HMK.out, by rw [HFS.out]; exact HFX.out, by have := HE.out; have := HWT.out; omega, (fun h => by cases h), by simp⟩
                case measure => rw [HGK.out]; have := HE.out; simp; omega

end Go.Proofs.YtdokakhgflljgaaGreat

namespace Go.Proofs.YtdokakhgflljgaaGreat
open Go.RowKit Go.Shelf

set_option maxRecDepth 100000 in
set_option maxHeartbeats 4000000 in
theorem pgoal_any (w : World) (vi vg vo vs : Value) (t : Tsk) (x : Nat) (h : TaskAt w vi vg vo t) (ok : t.Ok) (hg : Good t.n x) (hs : Ints w vs (facts x)) :
    Calls Tryz.prog 80 #[.agg #[.int .i64 t.n, vi, vg, vo], vs] w fun e w' => e = .returned (.tuple #[.int .i64 (pairsH t x), fltV 0 0]) ∧ Keeps (fun _ => False) w w' := by
  obtain ⟨ai, ci, h1, _⟩ := h.init.form
  obtain ⟨ag, cg, h2, _⟩ := h.goal.form
  obtain ⟨ao, co, h3, hmo⟩ := h.ops.form
  subst h1 h2 h3
  obtain ⟨aa, cs, h4, _⟩ := hs.form
  subst h4
  have HE := Lib.hid (show stateFault t (facts x) = (0, 0) by unfold stateFault; rw [if_pos (taskFault_zero.2 ok), if_pos hg.1])
  have HSS := Lib.hid (isSet_iff.1 hg.1).2
  have HGB := Lib.hid (isSet_iff.1 ok.goal).1
  have HN0 := Lib.hid ok.n0
  have K1 := (Keeps.refl (fun _ => False) w).alloc (.cells #[.int .i64 t.n, .slice ai t.init.length ci, .slice ag t.goal.length cg, .slice ao t.ops.length co] 25)
  have KA2 := K1.alloc (.cells #[.int .i64 0, .int .i64 0] 31)
  have HT := Lib.hid (h.keeps0 KA2)
  have HB := Lib.hid ((Four.new w (.int .i64 t.n) (.slice ai t.init.length ci) (.slice ag t.goal.length cg) (.slice ao t.ops.length co) 25).keeps0 ((Keeps.refl _ _).alloc (.cells #[.int .i64 0, .int .i64 0] 31)))
  have HF : Flt w ((w.alloc (.cells #[.int .i64 t.n, .slice ai t.init.length ci, .slice ag t.goal.length cg, .slice ao t.ops.length co] 25)).alloc (.cells #[.int .i64 0, .int .i64 0] 31)) (w.heap.size + 1) 31 :=
    ⟨by have := heap_alloc_new (w.alloc (.cells #[.int .i64 t.n, .slice ai t.init.length ci, .slice ag t.goal.length cg, .slice ao t.ops.length co] 25)) (.cells #[.int .i64 0, .int .i64 0] 31); rwa [World.size_alloc] at this, by omega, KA2⟩
  replace HF := Lib.hid HF
  have HS := Lib.hid (show Ints _ (.slice aa (facts x).length cs) (facts x) from hs.keeps0 KA2)
  have OK := Lib.hid ok
  clear h hs ok hg K1 KA2
  go_enter Tryz.func80, Tryz.ntmps80
  go_upto_region 1 with fail
  generalize ((w.alloc (.cells #[.int .i64 t.n, .slice ai t.init.length ci, .slice ag t.goal.length cg, .slice ao t.ops.length co] 25)).alloc (.cells #[.int .i64 0, .int .i64 0] 31)) = w1 at HT HB HF HS ⊢
  obtain ⟨d0, d1, d2, d3⟩ := HB.out
  have hbx := HB.out.lt
  go_wp2_with fail
  refine (stateFault_any _ _ _ _ _ t (facts x) HT.out HS.out).mono ?_; rintro e w2 ⟨rfl, hk⟩
  rw [HE.out]
  have KA := hk.trans ((Keeps.refl (fun _ => False) w2).alloc (.cells #[.int .i64 0, .int .i64 0] 31))
  have HT3 := Lib.hid (HT.out.keeps0 KA); have HB3 := Lib.hid (HB.out.keeps0 KA); have HF3 := Lib.hid (HF.out.keeps0 KA); have HS3 := Lib.hid (HS.out.keeps0 KA)
  have F0 := Lib.hid (heap_alloc_new w2 (.cells #[.int .i64 0, .int .i64 0] 31))
  clear d0 d1 d2 d3 hbx hk KA HT HB HF HS
  go_upto_region 2 with fail
  generalize (w2.alloc (.cells #[.int .i64 0, .int .i64 0] 31)) = w3 at HT3 HB3 HF3 HS3 F0 ⊢
  generalize w2.heap.size = b9 at F0 ⊢
  obtain ⟨f0, f1, y0, y1, fl⟩ := pair_cells F0.out
  clear y0 y1
  have KD := (Keeps.refl (fun _ => False) w3).drew
  have HT4 := Lib.hid (HT3.out.keeps0 KD); have HB4 := Lib.hid (HB3.out.keeps0 KD); have HF4 := Lib.hid (HF3.out.keeps0 KD); have HS4 := Lib.hid (HS3.out.keeps0 KD)
  obtain ⟨d0, d1, d2, d3⟩ := HB4.out
  have hbx := HB4.out.lt
  obtain ⟨c0, c1, z0, z1, hF⟩ := HF4.out.cells
  clear KD
  go_upto_region 4 with fail
  clear f0 f1 fl
  have HGN := Lib.hid (show ∀ p ∈ t.goal, 0 ≤ p ∧ p < ((t.n.toNat : Nat) : Int) from fun p hp => by have := HGB.out p hp; have := HN0.out; omega)
  go_region_held3 (fun w' => w'.cell? ⟨w.heap.size, 0, none⟩ = some (.int .i64 t.n) ∧ w'.cell? ⟨w.heap.size, 1, none⟩ = some (.slice ai t.init.length ci) ∧ w'.cell? ⟨w.heap.size, 2, none⟩ = some (.slice ag t.goal.length cg) ∧ w'.cell? ⟨w.heap.size, 3, none⟩ = some (.slice ao t.ops.length co))
    (go_keep)
    (first
      | (go_at_call 101; refine (pfind_any _ _ _ _ _ t (facts x) HT4.out OK.out HS4.out HSS.out).mono ?_; rintro en wa ⟨gT, rs, rfl, hta, hka⟩; have HTA := Lib.hid hta; have HKA := Lib.hid hka; have a0 := hka.cell d0 (fun h => h); have a1 := hka.cell d1 (fun h => h); have a2 := hka.cell d2 (fun h => h); have a3 := hka.cell d3 (fun h => h); have e0 := hka.cell c0 (fun h => h); have e1 := hka.cell c1 (fun h => h); have HF5 := Lib.hid (HF4.out.keeps0 hka); have e2 := HF5.out.cells.2.2.1; have e3 := HF5.out.cells.2.2.2.1; clear hta hka)
      | (go_at_call 102; refine (pvalue_any _ gT _ rs _ _ t.goal HTA.out ((HT4.out.keeps0 HKA.out).goal) HGN.out).mono ?_; rintro en w9 ⟨rfl, rfl⟩))
  all_goals
    have HST := Lib.hid (HF5.out.set (.int .i64 0) (.int .i64 0))
    clear d0 d1 d2 d3 a0 a1 a2 a3 e0 e1 e2 e3 c0 c1 z0 z1 hF hbx
    go_wp2_with fail
    refine bodyPost_ret (results_tmp_cell _ _ (w.heap.size + 1) 31 #[.int .i64 0, .int .i64 0] (0, 0) _ rfl rfl HST.out.1 Tryz.underlying31 rfl (by kernel_rfl)) rfl ?_
    exact ⟨rfl, HST.out.2⟩

end Go.Proofs.YtdokakhgflljgaaGreat

namespace Go.Proofs.YtdokakhgflljgaaGreat
open Go.RowKit Go.Shelf

/-- What relaxed.Add says of a state. -/
def addH (t : Tsk) (x : Nat) : Int := sumL (valuesV sumL t (costsV t) (facts x)) t.goal

set_option maxRecDepth 100000 in
set_option maxHeartbeats 4000000 in
theorem value1_any (t : Tsk) (ok : t.Ok) (L : List Nat) (hL : ∀ x ∈ L, Good t.n x) : ValC t 1 L (maxH t) := by
  intro w vi vg vo vs x h hx hs
  obtain ⟨ai, ci, h1, _⟩ := h.init.form
  obtain ⟨ag, cg, h2, _⟩ := h.goal.form
  obtain ⟨ao, co, h3, hmo⟩ := h.ops.form
  subst h1 h2 h3
  have K1 := (Keeps.refl (fun _ => False) w).alloc (.cells #[.int .i64 t.n, .slice ai t.init.length ci, .slice ag t.goal.length cg, .slice ao t.ops.length co] 25)
  have HB := Lib.hid (Four.new w (.int .i64 t.n) (.slice ai t.init.length ci) (.slice ag t.goal.length cg) (.slice ao t.ops.length co) 25)
  have HT := Lib.hid (h.keeps0 K1); have HS := Lib.hid (hs.keeps0 K1); have HK1 := Lib.hid K1
  have OK := Lib.hid ok; have HX := Lib.hid (hL x hx)
  clear h hs K1 ok hL hx
  go_enter Tryz.func59, Tryz.ntmps59
  go_upto_region 3 with fail
  generalize (w.alloc (.cells #[.int .i64 t.n, .slice ai t.init.length ci, .slice ag t.goal.length cg, .slice ao t.ops.length co] 25)) = w1 at HT HB HK1 HS ⊢
  obtain ⟨d0, d1, d2, d3⟩ := HB.out
  have hbx := HB.out.lt
  go_wp2_with fail
  refine (rmax_any _ _ _ _ _ t x HT.out OK.out HX.out HS.out).mono ?_
  rintro e w2 ⟨g, rfl, _, _, hk⟩
  have HK2 := Lib.hid (HK1.out.trans hk)
  unfold fltV
  clear hk d0 d1 d2 d3
  go_wp2_with fail
  go_ret
  exact ⟨rfl, HK2.out.trans ((Keeps.refl (fun _ => False) w2).alloc _)⟩

set_option maxRecDepth 100000 in
set_option maxHeartbeats 4000000 in
theorem value5_any (t : Tsk) (ok : t.Ok) (L : List Nat) (hL : ∀ x ∈ L, Good t.n x) : ValC t 5 L (pairsH t) := by
  intro w vi vg vo vs x h hx hs
  obtain ⟨ai, ci, h1, _⟩ := h.init.form
  obtain ⟨ag, cg, h2, _⟩ := h.goal.form
  obtain ⟨ao, co, h3, hmo⟩ := h.ops.form
  subst h1 h2 h3
  have K1 := (Keeps.refl (fun _ => False) w).alloc (.cells #[.int .i64 t.n, .slice ai t.init.length ci, .slice ag t.goal.length cg, .slice ao t.ops.length co] 25)
  have HB := Lib.hid (Four.new w (.int .i64 t.n) (.slice ai t.init.length ci) (.slice ag t.goal.length cg) (.slice ao t.ops.length co) 25)
  have HT := Lib.hid (h.keeps0 K1); have HS := Lib.hid (hs.keeps0 K1); have HK1 := Lib.hid K1
  have OK := Lib.hid ok; have HX := Lib.hid (hL x hx)
  clear h hs K1 ok hL hx
  go_enter Tryz.func59, Tryz.ntmps59
  go_upto_region 23 with fail
  generalize (w.alloc (.cells #[.int .i64 t.n, .slice ai t.init.length ci, .slice ag t.goal.length cg, .slice ao t.ops.length co] 25)) = w1 at HT HB HK1 HS ⊢
  obtain ⟨d0, d1, d2, d3⟩ := HB.out
  have hbx := HB.out.lt
  go_wp2_with fail
  refine (pgoal_any _ _ _ _ _ t x HT.out OK.out HX.out HS.out).mono ?_
  rintro e w2 ⟨rfl, hk⟩
  have HK2 := Lib.hid (HK1.out.trans hk)
  unfold fltV
  clear hk d0 d1 d2 d3
  go_wp2_with fail
  go_ret
  exact ⟨rfl, HK2.out.trans ((Keeps.refl (fun _ => False) w2).alloc _)⟩

end Go.Proofs.YtdokakhgflljgaaGreat
