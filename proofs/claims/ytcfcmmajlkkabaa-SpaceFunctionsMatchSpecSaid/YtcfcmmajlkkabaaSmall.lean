/- The reference's Goals and Explored; the laws' wayFault and wide. -/
import Derived.Test.YtcfcmmajlkkabaaShort
import Derived.Test.YtcfcmmajlkkabaaChk
namespace Go.Proofs.Ytcfcmmajlkkabaa
open Go.RowKit

theorem Try.info_bool : (Try.prog.info? 4).map (fun i => (i.zero, i.size, i.bytes)) = some (some (.bool false), 1, 1) := by kernel_rfl

def goalW (t : Tsk) (x : Nat) : Bool := subB t.goal (facts x)

theorem subset_goal (w : World) (va vb : Value) (t : Tsk) (x : Nat) (ha : Ints w va t.goal) (hb : Ints w vb (facts x)) :
    Calls Try.prog 51 #[va, vb] w fun e w' => e = .returned (.bool (goalW t x)) ∧ w = w' := subset_any w va vb t.goal (facts x) ha hb

set_option maxRecDepth 100000 in
set_option maxHeartbeats 2000000 in
theorem goals_any (w : World) (vi vg vo vl : Value) (t : Tsk) (L : List Nat) (h : TaskAt w vi vg vo t) (hl : Lists w vl (L.map facts)) (hfew : L.length ≤ 2000) :
    Calls Try.prog 22 #[.agg #[.int .i64 t.n, vi, vg, vo], vl] w fun e w' => ∃ v, e = .returned v ∧ w'.ownsRow w.heap.size 4 1 v L.length ((L.map (goalW t)).map Value.bool) ∧ Keeps (fun _ => False) w w' := by
  obtain ⟨i0, hi0, hz0, hz1, hz2⟩ := info_parts Try.info_bool
  obtain ⟨ai, ci, h1, _⟩ := h.init.form
  obtain ⟨ag, cg, h2, _⟩ := h.goal.form
  obtain ⟨ao, co, h3, hmo⟩ := h.ops.form
  obtain ⟨al, cl, h4, _⟩ := hl.form
  have hcl := hl.cell h4
  rw [List.length_map] at h4 hcl
  subst h1 h2 h3 h4
  have HB := Lib.hid (Four.new w (.int .i64 t.n) (.slice ai t.init.length ci) (.slice ag t.goal.length cg) (.slice ao t.ops.length co) 25)
  have K1 := (Keeps.refl (fun _ => False) w).alloc (.cells #[.int .i64 t.n, .slice ai t.init.length ci, .slice ag t.goal.length cg, .slice ao t.ops.length co] 25)
  have HGL := Lib.hid (h.goal.keeps0 K1); have HCL := Lib.hid hcl; have HK := Lib.hid K1
  clear h hl hcl K1
  go_enter Try.func22, Try.ntmps22
  go_upto_region 1 with fail
  generalize (w.alloc (.cells #[.int .i64 t.n, .slice ai t.init.length ci, .slice ag t.goal.length cg, .slice ao t.ops.length co] 25)) = w1 at HB HGL HK ⊢
  go_wp2_with fail
  go_loopw [5, 6] (fun v5 i6 wr => ∃ i : Nat, i ≤ L.length ∧ i6 = .int .i64 (i : Int) ∧ wr.ownsRow w1.heap.size 4 1 v5 i ((L.take i).map fun x => Value.bool (goalW t x)) ∧ Keeps (fun _ => False) w1 wr) (fun _ i6 _ => L.length - (intOf i6).toNat)
  case atStart => exact ⟨0, Nat.zero_le _, rfl, World.ownsRow_nil _ _ _ _, Keeps.refl _ _⟩
  case round =>
    obtain ⟨i, hi, rfl, hown, hkw⟩ := hrel
    obtain ⟨av, cv, hav⟩ := ownsRow_form1 hown
    subst hav
    have HO := Lib.hid hown; have KW := Lib.hid hkw
    have hsw := hkw.size
    have hsz := HK.out.size
    have hbr := (HB.out.keeps0 hkw).lt
    obtain ⟨d0, d1, d2, d3⟩ := HB.out.keeps0 hkw
    clear hown hkw
    by_cases hlt : i < L.length
    · obtain ⟨bl, ol, rfl, hx'⟩ := HCL.out (by omega)
      obtain ⟨x, hx⟩ : ∃ x, L[i]? = some x := ⟨_, List.getElem?_eq_getElem hlt⟩
      obtain ⟨u, hu, hiu⟩ := hx' i (facts x) (by rw [List.getElem?_map, hx]; rfl)
      have hu2 := (HK.out.trans KW.out).cell hu (fun h => h)
      have KD := (KW.out.drew)
      have HIW := Lib.hid (hiu.keeps0 (HK.out.trans KD))
      have HGW := Lib.hid (show Ints wr.drew (.slice ag t.goal.length cg) t.goal from HGL.out.keeps0 KD)
      have HTK := Lib.hid (take_getS hx)
      obtain ⟨au, cu, hfu, _⟩ := hiu.form
      subst hfu
      clear hx' hx hu hiu
      go_upto_region 5 with fail
      have i1' : (0 : Int) ≤ (i : Int) := by omega
      have i2' : (i : Int) < (L.length : Int) := by omega
      have KWR := Lib.hid KD
      clear KD
      go_region_law (first | (refine step_append_lies _ (by rfl) _ _ _ (by rfl) w1.heap.size 4 i0 _ 1 1 Try.underlying40 hi0 hz0 hz1 hz2 rfl (by omega) _ i ((L.take i).map fun x => Value.bool (goalW t x)) (by rfl) ((World.ownsRow.alloc HO.out (.cells #[.bool (goalW t x)] 4)).drew) ⟨wr.heap.size, 0, none⟩ 1 1 [.bool (goalW t x)] (by rfl) (by rfl) (World.news_of_block (cs := #[.bool (goalW t x)]) (t := 4) (fr := (0, 0)) (heap_alloc_new wr _)) (by simp [Value.oneCell']) (by omega) (by unfold maxLen; omega) (by omega) (by simp; omega) (wr.heap.size + 1) (by simp) ?_; intro gg cap2 w5 hown hgrow hat hlt5) | (go_simp; go_at_call 51; refine (subset_goal _ _ _ t x HGW.out HIW.out).mono ?_; rintro e w4 ⟨rfl, rfl⟩))
      all_goals
        have HN := Lib.hid (show w5.ownsRow w1.heap.size 4 1 (.slice (some ⟨gg, 0, none⟩) (i + 1) cap2) (i + 1) ((L.take (i + 1)).map fun x => Value.bool (goalW t x)) by
          rw [HTK.out, List.map_append]; exact hown)
        have HKN := Lib.hid (own_grown HO.out KW.out (((Keeps.refl _ wr).alloc (.cells #[.bool (goalW t x)] 4)).drew) hgrow)
        clear hown hgrow hat
        go_wp2
        go_roundw
        case rel => exact ⟨i + 1, by omega, by go_num, HN.out, HKN.out⟩
        case measure => simp [intOf]; omega
    · have HN := Lib.hid (show wr.ownsRow w1.heap.size 4 1 (.slice av i cv) L.length ((L.map (goalW t)).map Value.bool) by
        have hie : i = L.length := by omega
        have h := HO.out
        rw [List.take_of_length_le (by omega)] at h
        rw [List.map_map]
        rw [hie] at h ⊢
        exact h)
      go_wp2_with fail
      go_ret
      exact ⟨_, rfl, ownsRow_mono HN.out HK.out.size, HK.out.trans KW.out⟩

/-! ### Explored -/
def expF (t : Tsk) : Int × Int := if (taskFault t).1 = 0 then (match explored t with | none => (10, -7) | some _ => (0, 0)) else taskFault t

theorem pair_cells {w : World} {B : Nat} {x y : Value} {T : TypeId} (h : w.heap[B]? = some (.cells #[x, y] T (0, 0))) : w.cell? ⟨B, 0, none⟩ = some x ∧ w.cell? ⟨B, 1, none⟩ = some y ∧ w.frozen? ⟨B, 0, none⟩ = false ∧ w.frozen? ⟨B, 1, none⟩ = false ∧ B < w.heap.size :=
  ⟨by rw [cell_of_blk h]; rfl, by rw [cell_of_blk h]; rfl, frozen_of_blk h, frozen_of_blk h, lt_of_heap h⟩

theorem Flt.keepsS {S : Nat → Prop} {w w1 w2 : World} {F : Nat} {T : TypeId} (h : Flt w w1 F T) (hk : Keeps S w1 w2) (hF : ¬ S F) (hS : ∀ i, S i → w.heap.size ≤ i) : Flt w w2 F T :=
  ⟨hk.heap h.blk hF, h.base, h.keep.trans' hk (fun i hi => .inr (hS i hi))⟩

set_option maxRecDepth 100000 in
set_option maxHeartbeats 2000000 in
theorem explored_any (w : World) (vi vg vo : Value) (t : Tsk) (h : TaskAt w vi vg vo t) :
    Calls Try.prog 18 #[.agg #[.int .i64 t.n, vi, vg, vo]] w fun e w' => e = .returned (.agg #[.int .i64 (expF t).1, .int .i64 (expF t).2]) ∧ Keeps (fun _ => False) w w' := by
  obtain ⟨ai, ci, h1, _⟩ := h.init.form
  obtain ⟨ag, cg, h2, _⟩ := h.goal.form
  obtain ⟨ao, co, h3, hmo⟩ := h.ops.form
  subst h1 h2 h3
  have K1 := (Keeps.refl (fun _ => False) w).alloc (.cells #[.int .i64 t.n, .slice ai t.init.length ci, .slice ag t.goal.length cg, .slice ao t.ops.length co] 25)
  have HT := h.keeps0 (K1.alloc (.cells #[.int .i64 0, .int .i64 0] 29))
  have HB := (Four.new w (.int .i64 t.n) (.slice ai t.init.length ci) (.slice ag t.goal.length cg) (.slice ao t.ops.length co) 25).keeps0 ((Keeps.refl _ _).alloc (.cells #[.int .i64 0, .int .i64 0] 29))
  have HF : Flt w ((w.alloc (.cells #[.int .i64 t.n, .slice ai t.init.length ci, .slice ag t.goal.length cg, .slice ao t.ops.length co] 25)).alloc (.cells #[.int .i64 0, .int .i64 0] 29)) (w.heap.size + 1) 29 :=
    ⟨by have := heap_alloc_new (w.alloc (.cells #[.int .i64 t.n, .slice ai t.init.length ci, .slice ag t.goal.length cg, .slice ao t.ops.length co] 25)) (.cells #[.int .i64 0, .int .i64 0] 29); rwa [World.size_alloc] at this, by omega, K1.alloc _⟩
  replace HT := Lib.hid HT; replace HB := Lib.hid HB; replace HF := Lib.hid HF
  clear h K1
  go_enter Try.func18, Try.ntmps18
  go_upto_region 1 with fail
  generalize ((w.alloc (.cells #[.int .i64 t.n, .slice ai t.init.length ci, .slice ag t.goal.length cg, .slice ao t.ops.length co] 25)).alloc (.cells #[.int .i64 0, .int .i64 0] 29)) = w1 at HT HB HF ⊢
  have hbx := HB.out.lt
  obtain ⟨d0, d1, d2, d3⟩ := HB.out
  go_wp2_with fail
  refine (taskFault_any _ _ _ _ t HT.out).mono ?_; rintro e w2 ⟨rfl, hk⟩
  have HF2 := Lib.hid (HF.out.keeps0 hk)
  have HB2 := Lib.hid (HB.out.keeps0 hk)
  have HT2 := Lib.hid (HT.out.keeps0 hk)
  have hbx2 := HB2.out.lt
  have hlt3 := HF2.out.cells.2.2.2.2
  clear d0 d1 d2 d3 hk hbx
  generalize hfe : taskFault t = f
  have HFE := Lib.hid hfe
  have KA := (Keeps.refl (fun _ => False) w2).alloc (.cells #[.int .i64 f.1, .int .i64 f.2] 29)
  have HF3 := Lib.hid (HF2.out.keeps0 KA); have HB3 := Lib.hid (HB2.out.keeps0 KA); have HT3 := Lib.hid (HT2.out.keeps0 KA)
  have H3 := Lib.hid (heap_alloc_new w2 (.cells #[.int .i64 f.1, .int .i64 f.2] 29))
  clear KA hfe
  go_upto_region 2 with fail
  generalize w2.alloc (.cells #[.int .i64 f.1, .int .i64 f.2] 29) = w3 at HF3 HB3 HT3 H3 ⊢
  generalize w2.heap.size = b3 at hlt3 hbx2 H3 ⊢
  obtain ⟨p0, p1, z0, z1, hl3⟩ := pair_cells H3.out
  obtain ⟨e0, e1, y0, y1, hF⟩ := HF3.out.cells
  by_cases hc : f.1 = 0
  · have hok : t.Ok := taskFault_zero.1 (by rw [HFE.out]; exact hc)
    have hft : f = (0, 0) := by rw [← HFE.out]; exact taskFault_ok hok
    subst hft
    have OK := Lib.hid hok
    obtain ⟨d0, d1, d2, d3⟩ := HB3.out
    have hbx3 := HB3.out.lt
    clear hc hok
    go_wp2_with fail
    refine (reached_any _ _ _ _ t HT3.out OK.out).mono ?_; rintro e w4 ⟨hk, hr⟩
    have H4 := Lib.hid (hk.heap H3.out (fun h => h))
    have HF4 := Lib.hid (HF3.out.keeps0 hk)
    clear p0 p1 z0 z1 e0 e1 y0 y1 d0 d1 d2 d3 hk hl3 hF hbx3
    rcases hr with ⟨hn, rfl⟩ | ⟨l, hn, v, vw, vs, rfl, hr⟩
    · have HP := Lib.hid (show expF t = (10, -7) by unfold expF; rw [HFE.out, if_pos rfl]; unfold explored; rw [hn])
      clear hn
      go_wp2_with fail
      refine (at_any _ _ _).mono ?_; rintro e w5 ⟨rfl, hk⟩
      have H5 := Lib.hid (hk.heap H4.out (fun h => h))
      have HF5 := Lib.hid (HF4.out.keeps0 hk)
      obtain ⟨p0, p1, z0, z1, hl3⟩ := pair_cells H5.out
      have H6 := Lib.hid (pair_set H5.out (.int .i64 10) (.int .i64 (-7)))
      have HF6 := Lib.hid (HF5.out.keepsS (keeps_pair (w := w5) b3 (.int .i64 10) (.int .i64 (-7))) (by omega) (fun i hi => by omega))
      clear hk
      go_upto_region 6 with fail
      generalize (w5.setCell ⟨b3, 0, none⟩ (.int .i64 10)).setCell ⟨b3, 1, none⟩ (.int .i64 (-7)) = w6 at H6 HF6 ⊢
      clear p0 p1 z0 z1 hl3
      obtain ⟨p0, p1, z0, z1, hl3⟩ := pair_cells H6.out
      obtain ⟨e0, e1, y0, y1, hF⟩ := HF6.out.cells
      go_wp2_with fail
      refine bodyPost_ret (results_cell_row rfl _ _ (w.heap.size + 1) 29 _ (0, 0) _ rfl (HF6.out.set (.int .i64 10) (.int .i64 (-7))).1 Try.underlying29 rfl (by kernel_rfl)) rfl ?_
      exact ⟨by rw [HP.out], (HF6.out.set _ _).2⟩
    · have HP := Lib.hid (show expF t = (0, 0) by unfold expF; rw [HFE.out, if_pos rfl]; unfold explored; rw [hn])
      clear hn
      obtain ⟨av, cv, hav⟩ := ownsRow_form1 hr.out
      subst hav
      clear hr
      obtain ⟨p0, p1, z0, z1, hl3⟩ := pair_cells H4.out
      obtain ⟨e0, e1, y0, y1, hF⟩ := HF4.out.cells
      go_wp2_with fail
      refine bodyPost_ret (results_cell_row rfl _ _ (w.heap.size + 1) 29 _ (0, 0) _ rfl (HF4.out.set (.int .i64 0) (.int .i64 0)).1 Try.underlying29 rfl (by kernel_rfl)) rfl ?_
      exact ⟨by rw [HP.out], (HF4.out.set _ _).2⟩
  · have HP := Lib.hid (show expF t = f by unfold expF; rw [HFE.out, if_neg hc])
    have hc2 : (f.1 == 0) = false := by simpa using hc
    clear hc
    go_wp2_with fail
    refine bodyPost_ret (results_cell_row rfl _ _ (w.heap.size + 1) 29 _ (0, 0) _ rfl (HF3.out.set (.int .i64 f.1) (.int .i64 f.2)).1 Try.underlying29 rfl (by kernel_rfl)) rfl ?_
    exact ⟨by rw [HP.out], (HF3.out.set _ _).2⟩

/-! ### wayFault -/
def wayF (n : Nat) (f : Int × Int) : Int × Int := if f.1 = 0 ∧ 60 < n then (10, -9) else f

set_option maxRecDepth 100000 in
set_option maxHeartbeats 1000000 in
theorem wayFault_any (w : World) (ao : Option Addr) (n cap : Nat) (c i : Int) :
    Calls Try.prog 23 #[.slice ao n cap, .agg #[.int .i64 c, .int .i64 i]] w fun e w' => e = .returned (.agg #[.int .i64 (wayF n (c, i)).1, .int .i64 (wayF n (c, i)).2]) ∧ Keeps (fun _ => False) w w' := by
  have K1 := (Keeps.refl (fun _ => False) w).alloc (.cells #[.int .i64 c, .int .i64 i] 29)
  have H1 := Lib.hid (((Keeps.refl (fun _ => False) _).alloc (.cells #[.int .i64 0, .int .i64 0] 29)).heap (heap_alloc_new w (.cells #[.int .i64 c, .int .i64 i] 29)) (fun h => h))
  have HF : Flt w ((w.alloc (.cells #[.int .i64 c, .int .i64 i] 29)).alloc (.cells #[.int .i64 0, .int .i64 0] 29)) (w.heap.size + 1) 29 :=
    ⟨by have := heap_alloc_new (w.alloc (.cells #[.int .i64 c, .int .i64 i] 29)) (.cells #[.int .i64 0, .int .i64 0] 29); rwa [World.size_alloc] at this, by omega, K1.alloc _⟩
  replace HF := Lib.hid HF
  clear K1
  go_enter Try.func23, Try.ntmps23
  go_upto_region 1 with fail
  generalize ((w.alloc (.cells #[.int .i64 c, .int .i64 i] 29)).alloc (.cells #[.int .i64 0, .int .i64 0] 29)) = w1 at H1 HF ⊢
  have hlF : w.heap.size < w.heap.size + 1 := by omega
  generalize w.heap.size + 1 = F at hlF HF ⊢
  generalize w.heap.size = b at hlF H1 ⊢
  obtain ⟨p0, p1, z0, z1, hl3⟩ := pair_cells H1.out
  by_cases hc : c = 0
  · by_cases hn : 60 < n
    · have HP := Lib.hid (show wayF n (c, i) = (10, -9) by unfold wayF; rw [if_pos ⟨hc, hn⟩])
      have hc2 : (c == 0) = true := by simpa using hc
      clear hc
      go_wp2_with fail
      refine (at_any _ _ _).mono ?_; rintro e w5 ⟨rfl, hk⟩
      have HF5 := Lib.hid (HF.out.keeps0 hk)
      obtain ⟨e0, e1, y0, y1, hF⟩ := HF5.out.cells
      clear hk p0 p1 z0 z1 hl3
      go_wp2_with fail
      refine bodyPost_ret (results_cell_row rfl _ _ F 29 _ (0, 0) _ rfl (HF5.out.set (.int .i64 10) (.int .i64 (-9))).1 Try.underlying29 rfl (by kernel_rfl)) rfl ?_
      exact ⟨by rw [HP.out], (HF5.out.set _ _).2⟩
    · have HP := Lib.hid (show wayF n (c, i) = (c, i) by unfold wayF; rw [if_neg (fun h => hn h.2)])
      have hc2 : (c == 0) = true := by simpa using hc
      clear hc
      obtain ⟨e0, e1, y0, y1, hF⟩ := HF.out.cells
      go_wp2_with fail
      refine bodyPost_ret (results_cell_row rfl _ _ F 29 _ (0, 0) _ rfl (HF.out.set (.int .i64 c) (.int .i64 i)).1 Try.underlying29 rfl (by kernel_rfl)) rfl ?_
      exact ⟨by rw [HP.out], (HF.out.set _ _).2⟩
  · have HP := Lib.hid (show wayF n (c, i) = (c, i) by unfold wayF; rw [if_neg (fun h => hc h.1)])
    have hc2 : (c == 0) = false := by simpa using hc
    clear hc
    obtain ⟨e0, e1, y0, y1, hF⟩ := HF.out.cells
    go_wp2_with fail
    refine bodyPost_ret (results_cell_row rfl _ _ F 29 _ (0, 0) _ rfl (HF.out.set (.int .i64 c) (.int .i64 i)).1 Try.underlying29 rfl (by kernel_rfl)) rfl ?_
    exact ⟨by rw [HP.out], (HF.out.set _ _).2⟩

/-! ### wide -/
theorem fault_field0 (w : World) (a b : Value) : (Instr.field 29 (.agg #[a, b]) 0).run Try.prog w = .ok a w := by kernel_rfl
def wideB (t : Tsk) : Bool := if (taskFault t).1 = 0 then (match explored t with | none => false | some l => decide (150 < (l.length : Int))) else false

set_option maxRecDepth 100000 in
set_option maxHeartbeats 1000000 in
theorem wide_any (w : World) (vi vg vo : Value) (t : Tsk) (h : TaskAt w vi vg vo t) :
    Calls Try.prog 16 #[.agg #[.int .i64 t.n, vi, vg, vo]] w fun e w' => e = .returned (.bool (wideB t)) ∧ Keeps (fun _ => False) w w' := by
  obtain ⟨ai, ci, h1, _⟩ := h.init.form
  obtain ⟨ag, cg, h2, _⟩ := h.goal.form
  obtain ⟨ao, co, h3, hmo⟩ := h.ops.form
  subst h1 h2 h3
  have HB := Lib.hid (Four.new w (.int .i64 t.n) (.slice ai t.init.length ci) (.slice ag t.goal.length cg) (.slice ao t.ops.length co) 25)
  have K1 := (Keeps.refl (fun _ => False) w).alloc (.cells #[.int .i64 t.n, .slice ai t.init.length ci, .slice ag t.goal.length cg, .slice ao t.ops.length co] 25)
  have HT := Lib.hid (h.keeps0 K1); have HK := Lib.hid K1
  clear h K1
  go_enter Try.func16, Try.ntmps16
  go_upto_region 1 with fail
  generalize (w.alloc (.cells #[.int .i64 t.n, .slice ai t.init.length ci, .slice ag t.goal.length cg, .slice ao t.ops.length co] 25)) = w1 at HB HT HK ⊢
  have hbx := HB.out.lt
  obtain ⟨d0, d1, d2, d3⟩ := HB.out
  go_wp2_with fail
  refine (taskFault_any _ _ _ _ t HT.out).mono ?_; rintro e w2 ⟨rfl, hk⟩
  have HB2 := Lib.hid (HB.out.keeps0 hk)
  have HT2 := Lib.hid (HT.out.keeps0 hk)
  have K2 := Lib.hid (HK.out.trans hk)
  clear d0 d1 d2 d3 hk hbx
  by_cases hc : (taskFault t).1 = 0
  · have hok : t.Ok := taskFault_zero.1 hc
    have hc2 : ((taskFault t).1 != 0) = false := by simpa using hc
    have hw : wideB t = match explored t with | none => false | some l => decide (150 < (l.length : Int)) := by unfold wideB; rw [if_pos hc]
    have HW := Lib.hid hw
    have OK := Lib.hid hok
    obtain ⟨d0, d1, d2, d3⟩ := HB2.out
    have hbx := HB2.out.lt
    clear hc hok hw
    generalize taskFault t = f at hc2 ⊢
    have hfld := fun w => fault_field0 w (.int .i64 f.1) (.int .i64 f.2)
    go_wp2_with fail
    refine (reached_any _ _ _ _ t HT2.out OK.out).mono ?_; rintro e w4 ⟨hk, hr⟩
    have K4 := Lib.hid (K2.out.trans hk)
    clear d0 d1 d2 d3 hk hbx
    rcases hr with ⟨hn, rfl⟩ | ⟨l, hn, v, vw, vs, rfl, hr⟩
    · have HP := Lib.hid (show wideB t = false by rw [HW.out]; unfold explored; rw [hn])
      clear hn
      go_wp2_with fail
      go_ret
      exact ⟨congrArg (fun b => Ending.returned (Value.bool b)) HP.out.symm, K4.out⟩
    · have HP := Lib.hid (show wideB t = decide (150 < (l.length : Int)) by rw [HW.out]; unfold explored; rw [hn])
      clear hn
      obtain ⟨av, cv, hav⟩ := ownsRow_form1 hr.out
      subst hav
      clear hr
      go_wp2_with fail
      go_ret
      exact ⟨congrArg (fun b => Ending.returned (Value.bool b)) HP.out.symm, K4.out⟩
  · have hc2 : ((taskFault t).1 != 0) = true := by simpa using hc
    have HP := Lib.hid (show wideB t = false by unfold wideB; rw [if_neg hc])
    clear hc
    generalize taskFault t = f at hc2 ⊢
    have hfld := fun w => fault_field0 w (.int .i64 f.1) (.int .i64 f.2)
    go_wp2_with fail
    go_ret
    exact ⟨congrArg (fun b => Ending.returned (Value.bool b)) HP.out.symm, K2.out⟩

end Go.Proofs.Ytcfcmmajlkkabaa
