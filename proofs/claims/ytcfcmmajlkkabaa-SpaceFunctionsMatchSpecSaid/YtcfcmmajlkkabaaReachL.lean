/- breadth: the law that Reach is the reference's. -/
import Derived.Test.YtcfcmmajlkkabaaPlanL
namespace Go.Proofs.Ytcfcmmajlkkabaa
open Go.RowKit

theorem facts_beq {n : Int} (hn : n ≤ 32) {x : Nat} (hx : Good n x) {s : List Int} (hs : isSetB s n = true) : (facts x == s) = (x == wd s) := by
  rw [Bool.eq_iff_iff, beq_iff_eq, beq_iff_eq]
  constructor
  · rintro rfl; exact hx.2.symm
  · rintro rfl; exact facts_wd (isSet_mono hs hn)

theorem place_mem {n : Int} (hn : n ≤ 32) {L : List Nat} (hg : ∀ x ∈ L, Good n x) {s : List Int} (hs : isSetB s n = true) :
    (∃ k : Nat, L[k]? = some (wd s) ∧ placeL (L.map facts) s = k) ∨ (wd s ∉ L ∧ placeL (L.map facts) s = -1) := by
  by_cases hm : wd s ∈ L
  · left
    unfold placeL
    cases hf : (L.map facts).findIdx? (fun l => l == s) with
    | none =>
      rw [List.findIdx?_eq_none_iff] at hf
      have := hf (facts (wd s)) (List.mem_map.2 ⟨_, hm, rfl⟩)
      simp [facts_wd (isSet_mono hs hn)] at this
    | some k =>
      obtain ⟨h1, h2, _⟩ := List.findIdx?_eq_some_iff_getElem.1 hf
      have h3 : k < L.length := by simpa using h1
      refine ⟨k, ?_, rfl⟩
      rw [List.getElem_map, facts_beq hn (hg _ (List.getElem_mem h3)) hs, beq_iff_eq] at h2
      rw [List.getElem?_eq_getElem h3, h2]
  · right
    refine ⟨hm, placeL_none fun l hl => ?_⟩
    obtain ⟨x, hx, rfl⟩ := List.mem_map.1 hl
    rw [facts_beq hn (hg x hx) hs, beq_eq_false_iff_ne]
    rintro rfl; exact hm hx

theorem only_set {L : List Nat} (hd : L.Nodup) {k y : Nat} (hk : L[k]? = some y) : (List.replicate L.length false).set k true = L.map fun x => x == y := by
  apply List.ext_getElem?
  intro j
  rw [List.getElem?_set, List.getElem?_map, List.length_replicate]
  have hkl := (List.getElem?_eq_some_iff.1 hk).1
  by_cases hj : k = j
  · subst hj
    rw [if_pos rfl, if_pos hkl, hk]; simp
  · rw [if_neg hj, List.getElem?_replicate]
    cases hx : L[j]? with
    | none => rw [if_neg (by have := List.getElem?_eq_none_iff.1 hx; omega)]; rfl
    | some x =>
      rw [if_pos (List.getElem?_eq_some_iff.1 hx).1]
      have : x ≠ y := by rintro rfl; exact hj (nodup_ix hd hk hx)
      simp [this]
theorem only_none {L : List Nat} {y : Nat} (h : y ∉ L) : List.replicate L.length false = L.map fun x => x == y := by
  rw [← List.map_const']
  apply List.map_congr_left
  intro x hx
  rw [eq_comm, beq_eq_false_iff_ne]
  rintro rfl; exact h hx

set_option maxRecDepth 100000 in
set_option maxHeartbeats 4000000 in
theorem reachLaw_any (w : World) (vi vg vo vs : Value) (t : Tsk) (s : List Int) (h : TaskAt w vi vg vo t) (hs : Ints w vs s) :
    Calls Try.prog 4 #[.agg #[.int .i64 t.n, vi, vg, vo], vs] w fun e w' => e = .returned (.bool true) ∧ Keeps (fun _ => False) w w' := by
  obtain ⟨i0, hi0, hz0, hz1, hz2⟩ := info_parts Try.info_bool
  obtain ⟨ai, ci, h1, _⟩ := h.init.form
  obtain ⟨ag, cg, h2, _⟩ := h.goal.form
  obtain ⟨ao, co, h3, hmo⟩ := h.ops.form
  obtain ⟨aa, cs, h4, _⟩ := hs.form
  subst h1 h2 h3 h4
  have HB := Lib.hid (Four.new w (.int .i64 t.n) (.slice ai t.init.length ci) (.slice ag t.goal.length cg) (.slice ao t.ops.length co) 25)
  have K1 := (Keeps.refl (fun _ => False) w).alloc (.cells #[.int .i64 t.n, .slice ai t.init.length ci, .slice ag t.goal.length cg, .slice ao t.ops.length co] 25)
  have HT := Lib.hid (h.keeps0 K1); have HK := Lib.hid K1; have HS := Lib.hid (show Ints _ (.slice aa s.length cs) s from hs.keeps0 K1)
  clear h K1 hs
  go_enter Try.func4, Try.ntmps4
  go_upto_region 1 with fail
  generalize (w.alloc (.cells #[.int .i64 t.n, .slice ai t.init.length ci, .slice ag t.goal.length cg, .slice ao t.ops.length co] 25)) = w1 at HB HT HK HS ⊢
  generalize w.heap.size = bt at HB ⊢
  go_wp2_with fail
  refine (breadthExample_any _).mono ?_; rintro e w2 ⟨rfl, hk⟩
  have HB2 := Lib.hid (HB.out.keeps0 hk); have HT2 := Lib.hid (HT.out.keeps0 hk); have K2 := Lib.hid (HK.out.trans hk); have HS2 := Lib.hid (show Ints w2 (.slice aa s.length cs) s from HS.out.keeps0 hk)
  have hbx := HB2.out.lt
  obtain ⟨d0, d1, d2, d3⟩ := HB2.out
  clear hk
  go_wp2_with fail
  refine (wide_any _ _ _ _ t HT2.out).mono ?_; rintro e w3 ⟨rfl, hk⟩
  have HB3 := Lib.hid (HB2.out.keeps0 hk); have HT3 := Lib.hid (HT2.out.keeps0 hk); have K3 := Lib.hid (K2.out.trans hk); have HS3 := Lib.hid (show Ints w3 (.slice aa s.length cs) s from HS2.out.keeps0 hk)
  clear d0 d1 d2 d3 hk hbx
  cases hw : wideB t with
  | true =>
    have HW := Lib.hid hw
    clear hw
    go_wp2_with fail
    go_ret
    exact ⟨rfl, K3.out⟩
  | false =>
    have HW := Lib.hid hw
    clear hw
    have hbx := HB3.out.lt
    obtain ⟨d0, d1, d2, d3⟩ := HB3.out
    go_wp2_with fail
    refine (reach_any _ _ _ _ _ t s HT3.out HS3.out).mono ?_; rintro e w4 ⟨hk, hr⟩
    have HB4 := Lib.hid (HB3.out.keeps0 hk); have HT4 := Lib.hid (HT3.out.keeps0 hk); have K4 := Lib.hid (K3.out.trans hk); have HS4 := Lib.hid (show Ints w4 (.slice aa s.length cs) s from HS3.out.keeps0 hk)
    clear d0 d1 d2 d3 hk hbx
    have hr2 : ∃ v c i bp lp, e = .returned (.tuple #[v, .bool bp, fltV c i]) ∧ Ints w4 v lp ∧ ((taskFault t = (c, i) ∧ c ≠ 0 ∧ bp = false ∧ lp = []) ∨ (t.Ok ∧ isSetB s t.n = false ∧ (c, i) = (5, -4) ∧ bp = false ∧ lp = []) ∨ (t.Ok ∧ isSetB s t.n = true ∧ expF t = (c, i) ∧ c ≠ 0 ∧ bp = false ∧ lp = []) ∨ (t.Ok ∧ isSetB s t.n = true ∧ expF t = (0, 0) ∧ ∃ l o, explored t = some l ∧ WayRes (wordsOf t.ops) (wd t.init) (fun x => x == wd s) c i bp lp o)) := by
      rcases hr with ⟨hc, rfl⟩ | ⟨hok, hset, hx, rfl⟩ | ⟨hok, hset, l, hx, hway⟩
      · by_cases h0 : (taskFault t).1 = 0
        · have hok := taskFault_zero.1 h0
          have hb1 : isSetB s t.n = false := by
            cases hb : isSetB s t.n with
            | false => rfl
            | true => exact absurd (stateFault_zero.2 ⟨hok, hb⟩) hc
          have hst : stateFault t s = (5, -4) := by unfold stateFault; rw [if_pos h0, if_neg (by simp [hb1])]
          exact ⟨_, _, _, _, [], rfl, Ints.nil _, .inr (.inl ⟨hok, hb1, hst, rfl, rfl⟩)⟩
        · have hst : stateFault t s = taskFault t := by unfold stateFault; rw [if_neg h0]
          rw [hst] at hc
          exact ⟨.slice none 0 0, (taskFault t).1, (taskFault t).2, false, [], by rw [hst], Ints.nil _, .inl ⟨rfl, hc, rfl, rfl⟩⟩
      · exact ⟨_, _, _, _, [], rfl, Ints.nil _, .inr (.inr (.inl ⟨hok, hset, by unfold expF; rw [if_pos (taskFault_zero.2 hok), hx], by decide, rfl, rfl⟩))⟩
      · obtain ⟨v, c, i, bp, lp, o, h1, h2, h3⟩ := way_res hway
        exact ⟨v, c, i, bp, lp, h1, h2, .inr (.inr (.inr ⟨hok, hset, by unfold expF; rw [if_pos (taskFault_zero.2 hok), hx], l, o, hx, h3⟩))⟩
    obtain ⟨v, c, i, bp, lp, rfl, hv, hr3⟩ := hr2
    obtain ⟨ap, cp, hvp, _⟩ := hv.form
    subst hvp
    have HP := Lib.hid hv; have HR := Lib.hid hr3
    clear hr hv hr3
    simp only [fltV]
    go_upto_region 6 with fail
    have KA := (Keeps.refl (fun _ => False) w4).alloc (.cells #[.int .i64 c, .int .i64 i] 29)
    have H5 := Lib.hid (heap_alloc_new w4 (.cells #[.int .i64 c, .int .i64 i] 29))
    have HB5 := Lib.hid (HB4.out.keeps0 KA); have HT5 := Lib.hid (HT4.out.keeps0 KA); have K5 := Lib.hid (K4.out.trans KA); have HP5 := Lib.hid (HP.out.keeps0 KA); have HS5 := Lib.hid (show Ints _ (.slice aa s.length cs) s from HS4.out.keeps0 KA)
    clear KA
    generalize w4.alloc (.cells #[.int .i64 c, .int .i64 i] 29) = w5 at H5 HB5 HT5 K5 HP5 HS5 ⊢
    generalize w4.heap.size = b5 at H5 ⊢
    have hbx := HB5.out.lt
    obtain ⟨d0, d1, d2, d3⟩ := HB5.out
    go_wp2_with fail
    refine (taskFault_any _ _ _ _ t HT5.out).mono ?_; rintro e w6 ⟨rfl, hk⟩
    generalize hex : taskFault t = f at HR ⊢
    have HEX := Lib.hid hex
    have KA := hk.alloc (.cells #[.int .i64 f.1, .int .i64 f.2] 29)
    have H6 := Lib.hid (heap_alloc_new w6 (.cells #[.int .i64 f.1, .int .i64 f.2] 29))
    have H56 := Lib.hid (KA.heap H5.out (fun h => h))
    have HB6 := Lib.hid (HB5.out.keeps0 KA); have HT6 := Lib.hid (HT5.out.keeps0 KA); have K6 := Lib.hid (K5.out.trans KA); have HP6 := Lib.hid (HP5.out.keeps0 KA); have HS6 := Lib.hid (show Ints _ (.slice aa s.length cs) s from HS5.out.keeps0 KA)
    have hlt56 : b5 < w6.heap.size := lt_of_heap (hk.heap H5.out (fun h => h))
    have hltT : bt < w6.heap.size := (HB5.out.keeps0 hk).lt
    have hlw6 : w.heap.size ≤ w6.heap.size := (K5.out.trans hk).size
    have HPL := Lib.hid (fun (h0 : 0 < lp.length) k hk6 => Ints.lt (HP5.out.keeps0 hk) h0 k hk6)
    have GT := Lib.hid (HT5.out.keeps0 hk); have GB := Lib.hid (HB5.out.keeps0 hk); have GP := Lib.hid (HP5.out.keeps0 hk); have G5 := Lib.hid (hk.heap H5.out (fun h => h)); have GK := Lib.hid (K5.out.trans hk)
    have GS := Lib.hid (show Ints w6 (.slice aa s.length cs) s from HS5.out.keeps0 hk)
    have K67 := Lib.hid ((Keeps.refl (fun _ => False) w6).alloc (.cells #[.int .i64 f.1, .int .i64 f.2] 29))
    clear KA hk hex d0 d1 d2 d3 hbx
    go_upto_region 7 with fail
    generalize w6.alloc (.cells #[.int .i64 f.1, .int .i64 f.2] 29) = w7 at H6 H56 HB6 HT6 K6 HP6 HS6 K67 ⊢
    obtain ⟨b6, hb6⟩ : ∃ b, w6.heap.size = b := ⟨_, rfl⟩
    rw [hb6] at H6 hlt56 hlw6 hltT HPL ⊢
    have HB6E := Lib.hid hb6
    have hs7 := lt_of_heap H6.out
    clear hb6
    obtain ⟨p0, p1, z0, z1, hl5⟩ := pair_cells H56.out
    obtain ⟨q0, q1, y0, y1, hl6⟩ := pair_cells H6.out
    rcases HR.out with ⟨rfl, hc, rfl, rfl⟩ | hr4
    · have hc2 : (c != 0) = true := by simpa using hc
      have hc3 : (c == 0) = false := by simpa using hc
      clear hc
      go_wp2_with fail
      go_ret
      exact ⟨rfl, K6.out⟩
    · have hok : t.Ok := by rcases hr4 with h | h | h <;> exact h.1
      have hft : f = (0, 0) := by rw [← HEX.out]; exact taskFault_ok hok
      subst hft
      have OK := Lib.hid hok
      have hbx := HB6.out.lt
      obtain ⟨d0, d1, d2, d3⟩ := HB6.out
      have HR4 := Lib.hid hr4
      clear hok hr4
      go_wp2_with fail
      refine (stateOk_any _ _ _ _ _ t s HT6.out HS6.out OK.out.n0 (by have := OK.out.n1; omega)).mono ?_; rintro e w8 ⟨rfl, hk⟩
      have H68 := Lib.hid (hk.heap H6.out (fun h => h)); have H58 := Lib.hid (hk.heap H56.out (fun h => h))
      have HB8 := Lib.hid (HB6.out.keeps0 hk); have HT8 := Lib.hid (HT6.out.keeps0 hk); have K8 := Lib.hid (K6.out.trans hk); have HP8 := Lib.hid (HP6.out.keeps0 hk); have HS8 := Lib.hid (show Ints _ (.slice aa s.length cs) s from HS6.out.keeps0 hk)
      have hs8 := hk.size
      have K78 := Lib.hid hk
      clear hk p0 p1 z0 z1 hl5 q0 q1 y0 y1 hl6 d0 d1 d2 d3 hbx
      obtain ⟨p0, p1, z0, z1, hl5⟩ := pair_cells H58.out
      obtain ⟨q0, q1, y0, y1, hl6⟩ := pair_cells H68.out
      rcases HR4.out with ⟨_, hset, hci, rfl, rfl⟩ | hr5
      · rw [hset]
        cases hci
        clear hset
        go_wp2_with fail
        refine (at_any _ _ _).mono ?_; rintro e w9 ⟨rfl, hk⟩
        have H69 := Lib.hid (hk.heap H68.out (fun h => h)); have H59 := Lib.hid (hk.heap H58.out (fun h => h)); have K9 := Lib.hid (K8.out.trans hk)
        have hs9 := hk.size
        clear hk p0 p1 z0 z1 hl5 q0 q1 y0 y1 hl6
        obtain ⟨q0, q1, y0, y1, hl6⟩ := pair_cells H69.out
        have kp := keeps_pair (w := w9) b6 (.int .i64 5) (.int .i64 (-4))
        have HX6 := Lib.hid (pair_set H69.out (.int .i64 5) (.int .i64 (-4)))
        have HX5 := Lib.hid (kp.heap H59.out (by omega))
        have KX := Lib.hid (K9.out.trans' kp (fun i hi => .inr (by omega)))
        clear kp
        go_upto_region 9 with fail
        generalize (w9.setCell ⟨b6, 0, none⟩ (.int .i64 5)).setCell ⟨b6, 1, none⟩ (.int .i64 (-4)) = wx at HX6 HX5 KX ⊢
        clear q0 q1 y0 y1 hl6
        obtain ⟨p0, p1, z0, z1, hl5⟩ := pair_cells HX5.out
        obtain ⟨q0, q1, y0, y1, hl6⟩ := pair_cells HX6.out
        go_wp2_with fail
        go_ret
        exact ⟨rfl, KX.out⟩
      · have hset : isSetB s t.n = true := by rcases hr5 with h | h <;> exact h.2.1
        have SET := Lib.hid hset
        rw [hset]
        have HR5 := Lib.hid hr5
        have hbx := HB8.out.lt
        obtain ⟨d0, d1, d2, d3⟩ := HB8.out
        clear hset hr5
        go_wp2_with fail
        refine (explored_any _ _ _ _ t HT8.out).mono ?_; rintro e w9 ⟨rfl, hk⟩
        have H69 := Lib.hid (hk.heap H68.out (fun h => h)); have H59 := Lib.hid (hk.heap H58.out (fun h => h)); have K9 := Lib.hid (K8.out.trans hk)
        have hs9 := hk.size
        have K69 := Lib.hid ((K67.out.trans K78.out).trans hk)
        clear hk p0 p1 z0 z1 hl5 q0 q1 y0 y1 hl6 d0 d1 d2 d3 hbx
        generalize hee : expF t = fe at HR5 ⊢
        clear hee
        obtain ⟨q0, q1, y0, y1, hl6⟩ := pair_cells H69.out
        have kp := keeps_pair (w := w9) b6 (.int .i64 fe.1) (.int .i64 fe.2)
        have HX6 := Lib.hid (pair_set H69.out (.int .i64 fe.1) (.int .i64 fe.2))
        have KX := Lib.hid (K69.out.trans' kp (fun i hi => .inr (by have := HB6E.out; omega)))
        clear kp
        go_upto_region 11 with fail
        generalize (w9.setCell ⟨b6, 0, none⟩ (.int .i64 fe.1)).setCell ⟨b6, 1, none⟩ (.int .i64 fe.2) = wx at HX6 KX ⊢
        have hsx := KX.out.size
        have hlx := lt_of_heap HX6.out
        clear q0 q1 y0 y1 hl6 H6 H56 HB6 HT6 K6 HP6 HS6 H68 H58 HB8 HT8 K8 HP8 HS8 H69 H59 K9
        obtain ⟨p0, p1, z0, z1, hl5⟩ := pair_cells (KX.out.heap G5.out (fun h => h))
        obtain ⟨q0, q1, y0, y1, hl6⟩ := pair_cells HX6.out
        rcases HR5.out with ⟨_, _, rfl, hc, rfl, rfl⟩ | ⟨_, _, rfl, l, o, hx, hres⟩
        · have hc2 : (c != 0) = true := by simpa using hc
          clear hc
          go_wp2_with fail
          go_ret
          exact ⟨rfl, GK.out.trans KX.out⟩
        · have HX := Lib.hid hx; have RES := Lib.hid hres
          have HTX := Lib.hid (GT.out.keeps0 KX.out)
          have HBX := Lib.hid (GB.out.keeps0 KX.out)
          have hbx := HBX.out.lt
          obtain ⟨d0, d1, d2, d3⟩ := HBX.out
          clear hx hres
          go_wp2_with fail
          refine (reached_any _ _ _ _ t HTX.out OK.out).mono ?_; rintro e w10 ⟨hk, hr⟩
          rcases hr with ⟨hn, rfl⟩ | ⟨l', hn, vl, vw, vs, rfl, hr⟩
          · have hx := HX.out
            unfold explored at hx
            rw [hx] at hn; cases hn
          obtain rfl : l' = l := by
            have hx := HX.out
            unfold explored at hx
            rw [hx] at hn; exact (Option.some.inj hn).symm
          have HLS := Lib.hid hr.lists
          have hfew := (reached_some hn).2.1
          have hnd := (reached_some hn).1
          have HND := Lib.hid hnd
          have HG := Lib.hid (good_explored OK.out HX.out)
          obtain ⟨al, cl, hvl⟩ := ownsRow_form1 hr.out
          subst hvl
          have K10 := Lib.hid (KX.out.trans hk); have HX10 := Lib.hid (hk.heap HX6.out (fun h => h))
          have hs10 := hk.size
          clear hk hr hn hnd p0 p1 z0 z1 hl5 q0 q1 y0 y1 hl6 d0 d1 d2 d3 hbx HTX HBX
          go_wp2_with (at_make; refine wpList_make_full _ rfl _ _ 40 rfl w10.heap.size 4 i0 (.bool false) 1 Try.underlying40 hi0 hz0 hz1 .i64 .i64 _ _ l'.length rfl rfl rfl rfl (by rw [hz2]; omega) (by unfold maxLen; omega) (Nat.le_refl _) ?_; intro w11 hown hgrow)
          have hk11 := (Keeps.refl (fun _ => False) w10).grown hgrow (fun k hk => by cases hk)
          have hown2 : w11.ownsRow w10.heap.size 4 1 (.slice (some ⟨w10.heap.size, 0, none⟩) l'.length l'.length) l'.length ((List.replicate l'.length false).map Value.bool) := by
            have e : (madeCells (Value.bool false).cells (l'.length * 1)).toList = (List.replicate l'.length false).map Value.bool := by
              rw [Nat.mul_one, List.map_replicate]
              exact toList_madeCells_one (.bool false) l'.length
            rw [e] at hown
            exact hown
          have HO11 := Lib.hid hown2; have K11 := Lib.hid hk11
          clear hown hgrow hown2 hk11
          have HS11 := Lib.hid (show Ints w11 (.slice aa s.length cs) s from GS.out.keeps0 (K10.out.trans K11.out))
          have HL11 := Lib.hid (HLS.out.keeps0 K11.out)
          go_wp2_with fail
          refine (place_any _ _ _ _ s HL11.out HS11.out).mono ?_; rintro e w12 ⟨rfl, hk⟩
          have K12 := Lib.hid (K11.out.trans hk)
          have HO12 := Lib.hid (hk.ownsRow HO11.out (fun _ _ h => h))
          clear hk
          have hbb : w10.heap.size < w12.heap.size := (World.ownsRow.lt HO12.out w10.heap.size rfl).2
          have hl0 : 0 < l'.length := by
            have := (reached_some (show reached (wordsOf t.ops) (wd t.init) = some l' from HX.out)).2.2.1
            exact (List.getElem?_eq_some_iff.1 this).1
          rcases place_mem (by have := OK.out.n1; omega) HG.out SET.out with ⟨k, hk, hpl⟩ | ⟨hno, hpl⟩
          case' inl =>
            rw [hpl]
            have hkl := (List.getElem?_eq_some_iff.1 hk).1
            have j0 : (0 : Int) ≤ (k : Int) := by omega
            have j1 : (k : Int) < (l'.length : Int) := by omega
            have hf12 := HO12.out.frozenAt k
            have hc12 := HO12.out.cellAt k (by omega)
            rw [List.getElem?_map, List.getElem?_replicate, if_pos hkl] at hc12
            simp only [Option.map_some] at hc12
            have hst := (HO12.out.stored k (.bool true)).1
            rw [← List.map_set, only_set HND.out hk] at hst
            have HO13 := Lib.hid hst
            have K13 := Lib.hid (K12.out.trans' ((Keeps.refl (fun b => b = w10.heap.size) w12).setCell (p := ⟨w10.heap.size, k, none⟩) (.inl rfl) (.bool true)) (fun b hb => .inr (by omega)))
            clear hk hpl hst
            go_upto_region 18 with fail
            generalize w12.setCell ⟨w10.heap.size, k, none⟩ (.bool true) = w13 at HO13 K13 ⊢
            clear hf12 hc12 j0 j1 hkl
          case' inr =>
            rw [hpl]
            have hst := HO12.out
            rw [only_none hno] at hst
            have HO13 := Lib.hid hst
            have K13 := Lib.hid K12.out
            clear hno hpl hst
            go_upto_region 18 with fail
            obtain ⟨w13, rfl⟩ : ∃ w13, w13 = w12 := ⟨_, rfl⟩
          all_goals
            clear K12 HO12 HO11 HL11 HS11 hbb
            have HOB := Lib.hid (show Bools w13 (.slice (some ⟨w10.heap.size, 0, none⟩) l'.length l'.length) (l'.map fun x => x == wd s) by unfold Bools; rw [List.length_map]; exact Sl.of_own HO13.out)
            generalize w10.heap.size = bb at HOB hs10 ⊢
            have KX13 := Lib.hid (K10.out.trans K13.out)
            have HT13 := Lib.hid (GT.out.keeps0 KX13.out); have HL13 := Lib.hid (HLS.out.keeps0 K13.out); have HB13 := Lib.hid (GB.out.keeps0 KX13.out)
            have HX13 := Lib.hid (K13.out.heap HX10.out (fun h => h))
            have hbx := HB13.out.lt
            obtain ⟨d0, d1, d2, d3⟩ := HB13.out
            clear HO13 K11
            go_wp2_with fail
            refine (arcs_any _ _ _ _ _ t l' HT13.out OK.out HL13.out HG.out hfew).mono ?_; rintro e w14 ⟨va, rfl, hoa, hk⟩
            obtain ⟨aq, cq, haq⟩ := ownsRow_formS hoa
            subst haq
            have HA14 := Lib.hid hoa.at; have HO14 := Lib.hid (HOB.out.keeps0 hk); have K14 := Lib.hid (KX13.out.trans hk); have HX14 := Lib.hid (hk.heap HX13.out (fun h => h))
            have hx14 := lt_of_heap HX14.out
            clear hoa hk d0 d1 d2 d3 hbx
            go_wp2_with fail
            refine (shortest_any _ _ _ (arcs (wordsOf t.ops) l') (l'.map fun x => x == wd s) 0 HA14.out HO14.out (by rw [List.length_map]; omega) (fun a ha => by rw [List.length_map]; exact ⟨(arcs_lt ha).1, (arcs_lt ha).2.1⟩) (by rw [List.length_map]; omega)).mono ?_; rintro e w15 hs
            obtain ⟨hk, o', v', hb, rfl, hi, hlow⟩ := short_best HX.out hs
            obtain rfl := hb.unique RES.out.best
            have HFA := Lib.hid RES.out.fault
            have HLQ := Lib.hid (show (o'.getD []).length = (intsP (o'.getD [])).length by unfold intsP; rw [List.length_map])
            obtain ⟨av, cv, hv', _⟩ := hi.form
            subst hv'
            have HI := Lib.hid hi; have HLOW := Lib.hid hlow
            have HGD := Lib.hid RES.out.good; have HBAD := Lib.hid RES.out.bad
            have K15 := Lib.hid (K14.out.trans hk); have HX15 := Lib.hid (hk.heap HX14.out (fun h => h))
            clear RES hs hk hb hi hlow
            generalize intsP (o'.getD []) = lq at HI HLQ HGD HLOW ⊢
            have HW2 := Lib.hid (show wayF lq.length (0, 0) = (c, i) by rw [← HLQ.out]; exact HFA.out)
            obtain ⟨q0, q1, y0, y1, hl6⟩ := pair_cells HX15.out
            go_wp2_with fail
            refine (wayFault_any _ _ _ _ _ _).mono ?_; rintro e w16 ⟨rfl, hk⟩
            rw [HW2.out]
            have HX16 := Lib.hid (hk.heap HX15.out (fun h => h)); have K16 := Lib.hid (K15.out.trans hk); have HI16 := Lib.hid (HI.out.keeps0 hk)
            clear hk q0 q1 y0 y1 hl6
            obtain ⟨q0, q1, y0, y1, hl6⟩ := pair_cells HX16.out
            have kp := keeps_pair (w := w16) b6 (.int .i64 c) (.int .i64 i)
            have HX17 := Lib.hid (pair_set HX16.out (.int .i64 c) (.int .i64 i))
            have HI17 := Lib.hid (HI16.out.keepsS kp (fun h0 k hk e => by have h1 := HLOW.out k hk; omega))
            have K17 := Lib.hid (K16.out.trans' kp (fun i hi => .inr (by have := HB6E.out; omega)))
            clear kp
            go_upto_region 20 with fail
            generalize (w16.setCell ⟨b6, 0, none⟩ (.int .i64 c)).setCell ⟨b6, 1, none⟩ (.int .i64 i) = w17 at HX17 HI17 K17 ⊢
            clear q0 q1 y0 y1 hl6
            obtain ⟨p0, p1, z0, z1, hl5⟩ := pair_cells (K17.out.heap G5.out (fun h => h))
            obtain ⟨q0, q1, y0, y1, hl6⟩ := pair_cells HX17.out
            have HP17 := Lib.hid (GP.out.keeps0 K17.out)
            have KF := Lib.hid (GK.out.trans K17.out)
            by_cases hc : c = 0
            · have hc2 : (c != 0) = false := by simpa using hc
              have hc3 : (c == 0) = true := by simpa using hc
              obtain ⟨rfl, rfl⟩ := HGD.out hc
              clear hc
              go_wp2_with fail
              refine (ints_any _ _ _ _ _ HP17.out HI17.out).mono ?_; rintro e w18 ⟨rfl, hk⟩
              have K18 := Lib.hid (KF.out.trans hk)
              clear hk
              rw [show (lp == lp) = true from beq_self_eq_true lp]
              go_wp2_with fail
              go_ret
              exact ⟨rfl, K18.out⟩
            · have hc2 : (c != 0) = true := by simpa using hc
              obtain ⟨rfl, rfl⟩ := HBAD.out hc
              clear hc
              go_wp2_with fail
              go_ret
              exact ⟨rfl, KF.out⟩

end Go.Proofs.Ytcfcmmajlkkabaa
