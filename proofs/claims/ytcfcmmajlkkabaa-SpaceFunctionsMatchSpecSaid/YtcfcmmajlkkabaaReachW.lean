/- breadth.Reach. -/
import Derived.Test.YtcfcmmajlkkabaaStateW
namespace Go.Proofs.Ytcfcmmajlkkabaa
open Go.RowKit

theorem stateFault_zero {t : Tsk} {s : List Int} : (stateFault t s).1 = 0 ↔ t.Ok ∧ isSetB s t.n = true := by
  unfold stateFault
  by_cases h : (taskFault t).1 = 0
  · rw [if_pos h]
    have := taskFault_zero.1 h
    cases hb : isSetB s t.n <;> simp [this]
  · rw [if_neg h]
    simp only [h, false_iff, not_and]
    intro h1; exact absurd (taskFault_zero.2 h1) h
theorem stateFault_ok {t : Tsk} {s : List Int} (h : (stateFault t s).1 = 0) : stateFault t s = (0, 0) := by
  obtain ⟨h1, h2⟩ := stateFault_zero.1 h
  unfold stateFault
  rw [if_pos (taskFault_zero.2 h1), if_pos h2]

def ReachPost (t : Tsk) (s : List Int) (w : World) (e : Ending) (w' : World) : Prop := Keeps (fun _ => False) w w' ∧
  (((stateFault t s).1 ≠ 0 ∧ e = .returned (.tuple #[.slice none 0 0, .bool false, fltV (stateFault t s).1 (stateFault t s).2])) ∨
   (t.Ok ∧ isSetB s t.n = true ∧ explored t = none ∧ e = .returned (.tuple #[.slice none 0 0, .bool false, fltV 10 (-7)])) ∨
   (t.Ok ∧ isSetB s t.n = true ∧ ∃ l, explored t = some l ∧ WayPost (wordsOf t.ops) (wd t.init) (fun x => x == wd s) w e w'))

set_option maxHeartbeats 2000000 in
theorem reach_any (w : World) (vi vg vo vs : Value) (t : Tsk) (s : List Int) (h : TaskAt w vi vg vo t) (hs : Ints w vs s) :
    Calls Try.prog 25 #[.agg #[.int .i64 t.n, vi, vg, vo], vs] w (ReachPost t s w) := by
  obtain ⟨ai, ci, h1, _⟩ := h.init.form
  obtain ⟨ag, cg, h2, _⟩ := h.goal.form
  obtain ⟨ao, co, h3, hmo⟩ := h.ops.form
  obtain ⟨aa, cs, h4, _⟩ := hs.form
  subst h1 h2 h3 h4
  have K1 := (Keeps.refl (fun _ => False) w).alloc (.cells #[.int .i64 t.n, .slice ai t.init.length ci, .slice ag t.goal.length cg, .slice ao t.ops.length co] 25)
  have HT := h.keeps0 (K1.alloc (.cells #[.int .i64 0, .int .i64 0] 29))
  have HSS : Ints _ _ s := hs.keeps0 (K1.alloc (.cells #[.int .i64 0, .int .i64 0] 29))
  have HB := (Four.new w (.int .i64 t.n) (.slice ai t.init.length ci) (.slice ag t.goal.length cg) (.slice ao t.ops.length co) 25).keeps0 ((Keeps.refl _ _).alloc (.cells #[.int .i64 0, .int .i64 0] 29))
  have HF : Flt w ((w.alloc (.cells #[.int .i64 t.n, .slice ai t.init.length ci, .slice ag t.goal.length cg, .slice ao t.ops.length co] 25)).alloc (.cells #[.int .i64 0, .int .i64 0] 29)) (w.heap.size + 1) 29 :=
    ⟨by have := heap_alloc_new (w.alloc (.cells #[.int .i64 t.n, .slice ai t.init.length ci, .slice ag t.goal.length cg, .slice ao t.ops.length co] 25)) (.cells #[.int .i64 0, .int .i64 0] 29); rwa [World.size_alloc] at this, by omega, K1.alloc _⟩
  replace HT := Lib.hid HT; replace HB := Lib.hid HB; replace HF := Lib.hid HF; replace HSS := Lib.hid HSS
  clear h hs K1
  go_enter Try.func25, Try.ntmps25
  go_upto_region 1 with fail
  generalize ((w.alloc (.cells #[.int .i64 t.n, .slice ai t.init.length ci, .slice ag t.goal.length cg, .slice ao t.ops.length co] 25)).alloc (.cells #[.int .i64 0, .int .i64 0] 29)) = w1 at HT HB HF HSS ⊢
  have hbx := HB.out.lt
  obtain ⟨d0, d1, d2, d3⟩ := HB.out
  go_wp2_with fail
  refine (stateFault_any _ _ _ _ _ t s HT.out HSS.out).mono ?_; rintro e w2 ⟨rfl, hk⟩
  have HF2 := Lib.hid (HF.out.keeps0 hk)
  have HB2 := Lib.hid (HB.out.keeps0 hk)
  have HT2 := Lib.hid (HT.out.keeps0 hk)
  have HS2 := Lib.hid (show Ints w2 (.slice aa s.length cs) s from HSS.out.keeps0 hk)
  clear d0 d1 d2 d3 hk
  by_cases hc : (stateFault t s).1 = 0
  · obtain ⟨hok, hset⟩ := stateFault_zero.1 hc
    have hft := stateFault_ok hc
    rw [hft]
    have OK := Lib.hid hok; have SET := Lib.hid hset
    clear hc hft hok hset
    have KA := (Keeps.refl (fun _ => False) w2).alloc (.cells #[.int .i64 0, .int .i64 0] 29)
    have HF3 := Lib.hid (HF2.out.keeps0 KA); have HB3 := Lib.hid (HB2.out.keeps0 KA); have HT3 := Lib.hid (HT2.out.keeps0 KA); have HS3 := Lib.hid (show Ints _ (.slice aa s.length cs) s from HS2.out.keeps0 KA)
    obtain ⟨d0, d1, d2, d3⟩ := HB3.out
    have hbx2 := HB3.out.lt
    have hbx3 := HB2.out.lt
    clear KA
    go_wp2_with fail
    refine (checked_any _ _ _ _ t HT3.out).mono ?_; rintro e w3 ⟨hk, hr⟩
    have HF4 := Lib.hid (HF3.out.keeps0 hk)
    have HS4 := Lib.hid (show Ints w3 (.slice aa s.length cs) s from HS3.out.keeps0 hk)
    clear d0 d1 d2 d3 hk
    rcases hr with ⟨hc, rfl⟩ | ⟨_, hx, rfl⟩ | ⟨_, l, hx, b, v, vl, ws, rfl, hw, _, _, _⟩
    · exact absurd (taskFault_zero.2 OK.out) hc
    · have HX := Lib.hid hx
      clear hx
      have HF5 := Lib.hid (HF4.out.keeps0 ((Keeps.refl _ _).alloc (.cells #[.int .i64 10, .int .i64 (-7)] 29)))
      obtain ⟨e0, e1, z0, z1, hF⟩ := HF5.out.cells
      go_wp2_with fail
      go_region
      all_goals
        go_wp2
        refine bodyPost_ret (results_tmp2_cell _ _ (w.heap.size + 1) 29 #[.int .i64 10, .int .i64 (-7)] (0, 0) _ rfl rfl (((Keeps.refl (fun _ => False) _).drew).heap (HF5.out.set (.int .i64 10) (.int .i64 (-7))).1 (fun h => h)) Try.underlying29 rfl (by kernel_rfl)) rfl ?_
        exact ⟨((HF5.out.set (.int .i64 10) (.int .i64 (-7))).2).drew, .inr (.inl ⟨OK.out, SET.out, HX.out, rfl⟩)⟩
    · have HX := Lib.hid hx
      have KA := (Keeps.refl (fun _ => False) w3).alloc (.cells #[.int .i64 0, .int .i64 0] 29)
      have HW := Lib.hid (hw.keeps0 KA)
      have HF5 := Lib.hid (HF4.out.keeps0 KA)
      have HS5 := Lib.hid (show Ints _ (.slice aa s.length cs) s from HS4.out.keeps0 KA)
      have hsl : ∀ x ∈ s, 0 ≤ x ∧ x < 32 := fun x hx => by
        have := (isSet_iff.1 SET.out).1 x hx; have := OK.out.n1; omega
      have HSL := Lib.hid hsl
      clear hx hw KA hsl
      go_wp2_with fail
      generalize w3.alloc (.cells #[.int .i64 0, .int .i64 0] 29) = w4 at HW HF5 HS5 ⊢
      refine (word_any _ _ s HS5.out HSL.out).mono ?_; rintro e w5 ⟨rfl, rfl⟩
      have KB := (Keeps.refl (fun _ => False) w4).alloc (.cells #[.int .u32 (wd s : Nat)] 90)
      have HW6 := Lib.hid (HW.out.keeps0 KB)
      have HF6 := Lib.hid (HF5.out.keeps0 KB)
      have HBX := Lib.hid (Boxed.new w4 90 (.int .u32 (wd s : Nat)))
      clear KB
      have hs32 : wd t.init < 4294967296 := wd_lt32 (by have := OK.out.n1; omega : t.n ≤ 32) OK.out.init
      go_wp2_with fail
      generalize w4.alloc (.cells #[.int .u32 (wd s : Nat)] 90) = w6 at HW6 HF6 HBX ⊢
      refine (first_any w6 b (wd t.init) (wd t.goal) _ v (wordsOf t.ops) HW6.out (wops_ok OK.out) (by unfold wordsOf; rw [List.length_map]; exact OK.out.few) hs32 l HX.out _ _ _ (fun x => x == wd s) (asked_want w6 _ (wd s) _ HBX.out)).mono ?_
      rintro e w7 ⟨hk4, hr⟩
      have HF7 := Lib.hid (HF6.out.keeps0 hk4)
      have hlow := HF6.out.keep.size
      clear hk4
      rcases hr with ⟨hbest, rfl⟩ | ⟨p, hbest, v', rfl, hown⟩
      · have HBE := Lib.hid hbest
        clear hbest
        go_wp2_with fail
        refine (limited_any _ none 0 0 false).mono ?_; rintro e w8 ⟨rfl, hk5⟩
        have HF8 := Lib.hid (HF7.out.keeps0 hk5)
        obtain ⟨e0, e1, z0, z1, hF⟩ := HF8.out.cells
        clear hk5
        simp only [limV, Nat.zero_le, if_true]
        go_wp2_with fail
        refine bodyPost_ret (results_tmp2_cell _ _ (w.heap.size + 1) 29 #[.int .i64 0, .int .i64 0] (0, 0) _ rfl rfl (HF8.out.set (.int .i64 0) (.int .i64 0)).1 Try.underlying29 rfl (by kernel_rfl)) rfl ?_
        exact ⟨(HF8.out.set _ _).2, .inr (.inr ⟨OK.out, SET.out, l, HX.out, .inl ⟨HBE.out, rfl⟩⟩)⟩
      · have HBE := Lib.hid hbest
        obtain ⟨av, cv, hav⟩ := ownsRow_form1 hown
        subst hav
        have HO := Lib.hid hown
        clear hbest hown
        go_wp2_with fail
        refine (limited_any _ av p.length cv true).mono ?_; rintro e w8 ⟨rfl, hk5⟩
        have HF8 := Lib.hid (HF7.out.keeps0 hk5)
        have HO8 := Lib.hid (hk5.ownsRow HO.out (fun _ _ h => h))
        obtain ⟨e0, e1, z0, z1, hF⟩ := HF8.out.cells
        clear hk5
        by_cases hp : p.length ≤ 60
        · simp only [limV, hp, if_true]
          go_wp2_with fail
          refine bodyPost_ret (results_tmp2_cell _ _ (w.heap.size + 1) 29 #[.int .i64 0, .int .i64 0] (0, 0) _ rfl rfl (HF8.out.set (.int .i64 0) (.int .i64 0)).1 Try.underlying29 rfl (by kernel_rfl)) rfl ?_
          have kS := keeps_pair (w := w8) (w.heap.size + 1) (.int .i64 0) (.int .i64 0)
          refine ⟨(HF8.out.set _ _).2, .inr (.inr ⟨OK.out, SET.out, l, HX.out, .inr ⟨p, HBE.out, .inr ⟨hp, _, rfl, ?_⟩⟩⟩)⟩
          refine ownsRow_mono (kS.ownsRow HO8.out (fun k hk e => ?_)) hlow
          have h1 := (World.ownsRow.lt HO8.out k hk).1
          have h2 := lt_of_heap HF6.out.blk
          omega
        · simp only [limV, hp, if_false]
          go_wp2_with fail
          refine bodyPost_ret (results_tmp2_cell _ _ (w.heap.size + 1) 29 #[.int .i64 10, .int .i64 (-9)] (0, 0) _ rfl rfl (HF8.out.set (.int .i64 10) (.int .i64 (-9))).1 Try.underlying29 rfl (by kernel_rfl)) rfl ?_
          exact ⟨(HF8.out.set _ _).2, .inr (.inr ⟨OK.out, SET.out, l, HX.out, .inr ⟨p, HBE.out, .inl ⟨by omega, rfl⟩⟩⟩)⟩
  · have hc2 : ((stateFault t s).1 == 0) = false := by simpa using hc
    have HC := Lib.hid hc
    clear hc
    generalize hfe : stateFault t s = f at hc2 HC ⊢
    have HFE := Lib.hid hfe
    clear hfe
    have HF3 := Lib.hid (HF2.out.keeps0 ((Keeps.refl _ _).alloc (.cells #[.int .i64 f.1, .int .i64 f.2] 29)))
    obtain ⟨e0, e1, z0, z1, hF⟩ := HF3.out.cells
    go_wp2_with fail
    go_region
    all_goals
      go_wp2
      refine bodyPost_ret (results_tmp2_cell _ _ (w.heap.size + 1) 29 #[.int .i64 f.1, .int .i64 f.2] (0, 0) _ rfl rfl (((Keeps.refl (fun _ => False) _).drew).heap (HF3.out.set (.int .i64 f.1) (.int .i64 f.2)).1 (fun h => h)) Try.underlying29 rfl (by kernel_rfl)) rfl ?_
      refine ⟨((HF3.out.set (.int .i64 f.1) (.int .i64 f.2)).2).drew, .inl ?_⟩
      rw [HFE.out]
      exact ⟨HC.out, rfl⟩

end Go.Proofs.Ytcfcmmajlkkabaa
