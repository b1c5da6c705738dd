/- Slices of slices, slices of arcs; the reference's Place, Goals, StateOk, Reached, Explored. -/
import Derived.Test.YtcfcmmajlkkabaaRFrom
import Derived.Test.YtcfcmmajlkkabaaGo
namespace Go.Proofs.Ytcfcmmajlkkabaa
open Go.RowKit

/-- A slice of slices of ints. -/
def Lists (w : World) (v : Value) (ls : List (List Int)) : Prop :=
  ∃ ao cap, v = .slice ao ls.length cap ∧ ls.length ≤ maxLen ∧ (0 < ls.length → ∃ b off, ao = some ⟨b, off, none⟩ ∧ ∀ i l, ls[i]? = some l → ∃ u, w.cell? ⟨b, off + i, none⟩ = some u ∧ Ints w u l)

theorem Lists.keeps0 {w w' : World} {v : Value} {ls : List (List Int)} (h : Lists w v ls) (hk : Keeps (fun _ => False) w w') : Lists w' v ls := by
  obtain ⟨ao, cap, hv, hm, hc⟩ := h
  refine ⟨ao, cap, hv, hm, fun h0 => ?_⟩
  obtain ⟨b, off, ha, hx⟩ := hc h0
  refine ⟨b, off, ha, fun i l hl => ?_⟩
  obtain ⟨u, h1, h2⟩ := hx i l hl
  exact ⟨u, hk.cell h1 (fun h => h), h2.keeps0 hk⟩

theorem Lists.form {w : World} {v : Value} {ls : List (List Int)} (h : Lists w v ls) : ∃ ao cap, v = .slice ao ls.length cap ∧ ls.length ≤ 9223372036854775807 := by
  obtain ⟨ao, cap, hv, hm, _⟩ := h
  unfold maxLen at hm
  exact ⟨ao, cap, hv, by omega⟩

theorem Lists.cell {w : World} {v : Value} {ls : List (List Int)} (h : Lists w v ls) {ao : Option Addr} {n cap : Nat} (hv : v = .slice ao n cap) (hn : 0 < ls.length) :
    ∃ b off, ao = some ⟨b, off, none⟩ ∧ ∀ i l, ls[i]? = some l → ∃ u, w.cell? ⟨b, off + i, none⟩ = some u ∧ Ints w u l := by
  obtain ⟨ao', cap', hv', hm, hc⟩ := h
  rw [hv'] at hv
  simp only [Value.slice.injEq] at hv
  obtain ⟨rfl, _, rfl⟩ := hv
  exact hc hn

theorem Rows.lists {W : World} {base : Nat} {v vw : Value} {L : List Nat} {vs : List Value} (h : Rows W base v vw L vs) : Lists W v (L.map facts) := by
  obtain ⟨ao, cap, hv, hm, hc⟩ := Sl.of_own h.out
  refine ⟨ao, cap, by rw [List.length_map]; exact hv, by rw [List.length_map]; exact hm, fun h0 => ?_⟩
  rw [List.length_map] at h0
  obtain ⟨b, off, ha, hx⟩ := hc h0
  refine ⟨b, off, ha, fun i l hl => ?_⟩
  rw [List.getElem?_map] at hl
  cases hy : L[i]? with
  | none => rw [hy] at hl; cases hl
  | some y =>
    rw [hy] at hl; cases hl
    obtain ⟨u, h1, h2, _⟩ := h.st i y hy
    exact ⟨u, hx i u h1, h2⟩

theorem ownsRow_formS {w : World} {base : Nat} {e : TypeId} {size : Nat} {v : Value} {n : Nat} {xs : List Value} (h : w.ownsRow base e size v n xs) : ∃ ao cap, v = .slice ao n cap := by
  rcases h.2 with ⟨hv, h0⟩ | ⟨g, cap, cur, hv, _⟩
  · exact ⟨none, 0, by rw [hv, h0]⟩
  · exact ⟨_, cap, hv⟩

/-! ### Place -/
def placeL (ls : List (List Int)) (s : List Int) : Int := match ls.findIdx? (fun l => l == s) with
  | some k => (k : Int)
  | none => -1

theorem placeL_none {ls : List (List Int)} {s : List Int} (h : ∀ l ∈ ls, (l == s) = false) : placeL ls s = -1 := by
  unfold placeL
  rw [List.findIdx?_eq_none_iff.2 h]
theorem placeL_some {ls : List (List Int)} {s : List Int} {k : Nat} {l : List Int} (hk : ls[k]? = some l) (hl : (l == s) = true) (h : ∀ j l', j < k → ls[j]? = some l' → (l' == s) = false) : placeL ls s = k := by
  unfold placeL
  have : ls.findIdx? (fun l => l == s) = some k := by
    rw [List.findIdx?_eq_some_iff_getElem]
    obtain ⟨h1, h2⟩ := List.getElem?_eq_some_iff.1 hk
    refine ⟨h1, by rw [h2]; exact hl, fun j hj => ?_⟩
    have := h j _ hj (List.getElem?_eq_getElem (by omega))
    simpa using this
  rw [this]

set_option maxHeartbeats 1000000 in
theorem place_any (w : World) (vl vs : Value) (ls : List (List Int)) (s : List Int) (h : Lists w vl ls) (hs : Ints w vs s) :
    Calls Try.prog 29 #[vl, vs] w fun e w' => e = .returned (.int .i64 (placeL ls s)) ∧ Keeps (fun _ => False) w w' := by
  obtain ⟨ao, ca, hv, ma⟩ := h.form
  obtain ⟨bo, cb, hv2, mb⟩ := hs.form
  have CA := Lib.hid (h.cell hv)
  have HS := Lib.hid hs
  subst hv hv2
  clear h hs
  go_enter Try.func29, Try.ntmps29
  go_wp2_with fail
  go_loopw [5] (fun i wr => ∃ k : Nat, k ≤ ls.length ∧ i = .int .i64 (k : Int) ∧ (∀ j l', j < k → ls[j]? = some l' → (l' == s) = false) ∧ Keeps (fun _ => False) w wr) (fun i _ => ls.length - (intOf i).toNat)
  case atStart => exact ⟨0, Nat.zero_le _, rfl, fun j l' hj => by omega, Keeps.refl _ _⟩
  case round =>
    obtain ⟨k, hk, rfl, hb, hkw⟩ := hrel
    have HB := Lib.hid hb; have KW := Lib.hid hkw
    clear hb hkw
    by_cases hlt : k < ls.length
    · obtain ⟨ba, oa, rfl, ha'⟩ := CA.out (by omega)
      obtain ⟨l, hl⟩ : ∃ x, ls[k]? = some x := ⟨_, List.getElem?_eq_getElem hlt⟩
      obtain ⟨u, hu, hiu⟩ := ha' k l hl
      have ha1 := KW.out.cell hu (fun h => h)
      have HIU := Lib.hid (hiu.keeps0 KW.out); have HS2 := Lib.hid (HS.out.keeps0 KW.out); have HL := Lib.hid hl
      obtain ⟨au, cu, hfu, _⟩ := hiu.form
      subst hfu
      clear ha' hl hu hiu
      go_wp2_with fail
      refine (ints_any _ _ _ _ _ HIU.out HS2.out).mono ?_; rintro e w1 ⟨rfl, hk1⟩
      have K1 := Lib.hid (KW.out.trans hk1)
      clear hk1
      cases hq : (l == s) with
      | true =>
        have HP := Lib.hid (placeL_some HL.out hq HB.out)
        clear hq
        go_wp2_with fail
        go_ret
        exact ⟨congrArg (fun u : Int => Ending.returned (Value.int .i64 u)) HP.out.symm, K1.out⟩
      | false =>
        have HQ := Lib.hid hq
        clear hq
        go_wp2_with fail
        go_roundw
        case rel => exact ⟨k + 1, by omega, by go_num, fun j l' hj hl' => by
          by_cases hjk : j = k
          · subst hjk; rw [HL.out] at hl'; cases hl'; exact HQ.out
          · exact HB.out j l' (by omega) hl', K1.out⟩
        case measure => simp [intOf]; omega
    · have HP := Lib.hid (placeL_none (ls := ls) (s := s) (fun l hl => by
        obtain ⟨j, hj⟩ := List.mem_iff_getElem?.1 hl
        exact HB.out j l (by have := (List.getElem?_eq_some_iff.1 hj).1; omega) hj))
      go_wp2_with fail
      go_ret
      exact ⟨congrArg (fun u : Int => Ending.returned (Value.int .i64 u)) HP.out.symm, KW.out⟩

/-! ### StateOk -/
theorem stateOk_any (w : World) (vi vg vo vs : Value) (t : Tsk) (s : List Int) (h : TaskAt w vi vg vo t) (hs : Ints w vs s) (hn0 : 0 ≤ t.n) (hn1 : t.n ≤ 1000) :
    Calls Try.prog 27 #[.agg #[.int .i64 t.n, vi, vg, vo], vs] w fun e w' => e = .returned (.bool (isSetB s t.n)) ∧ Keeps (fun _ => False) w w' := by
  obtain ⟨ai, ci, h1, _⟩ := h.init.form
  obtain ⟨ag, cg, h2, _⟩ := h.goal.form
  obtain ⟨ao, co, h3, hmo⟩ := h.ops.form
  obtain ⟨aa, cs, h4, _⟩ := hs.form
  subst h1 h2 h3 h4
  have K1 := (Keeps.refl (fun _ => False) w).alloc (.cells #[.int .i64 t.n, .slice ai t.init.length ci, .slice ag t.goal.length cg, .slice ao t.ops.length co] 25)
  have HSS := Lib.hid (show Ints _ (.slice aa s.length cs) s from hs.keeps0 K1)
  have HB := (Four.new w (.int .i64 t.n) (.slice ai t.init.length ci) (.slice ag t.goal.length cg) (.slice ao t.ops.length co) 25)
  have HK := Lib.hid K1
  clear h hs K1
  go_enter Try.func27, Try.ntmps27
  go_upto_region 1 with fail
  generalize (w.alloc (.cells #[.int .i64 t.n, .slice ai t.init.length ci, .slice ag t.goal.length cg, .slice ao t.ops.length co] 25)) = w1 at HB HSS HK ⊢
  have hbx := HB.lt
  obtain ⟨d0, d1, d2, d3⟩ := HB
  go_wp2_with fail
  refine (rIsSet_b _ HSS.out rfl hn0 hn1).mono ?_; rintro e w2 ⟨rfl, hk⟩
  have K2 := Lib.hid (HK.out.trans hk)
  clear hk
  go_wp2_with fail
  go_ret
  exact ⟨rfl, K2.out⟩

/-! ### Reached -/
theorem reached_any (w : World) (vi vg vo : Value) (t : Tsk) (h : TaskAt w vi vg vo t) (ok : t.Ok) :
    Calls Try.prog 19 #[.agg #[.int .i64 t.n, vi, vg, vo]] w (FromPost (wordsOf t.ops) (wd t.init) w) := by
  obtain ⟨ai, ci, h1, _⟩ := h.init.form
  obtain ⟨ag, cg, h2, _⟩ := h.goal.form
  obtain ⟨ao, co, h3, hmo⟩ := h.ops.form
  subst h1 h2 h3
  have K1 := (Keeps.refl (fun _ => False) w).alloc (.cells #[.int .i64 t.n, .slice ai t.init.length ci, .slice ag t.goal.length cg, .slice ao t.ops.length co] 25)
  have HT := Lib.hid (h.keeps0 K1)
  have HB := (Four.new w (.int .i64 t.n) (.slice ai t.init.length ci) (.slice ag t.goal.length cg) (.slice ao t.ops.length co) 25)
  have HK := Lib.hid K1; have OK := Lib.hid ok
  clear h K1 ok
  go_enter Try.func19, Try.ntmps19
  go_upto_region 1 with fail
  generalize (w.alloc (.cells #[.int .i64 t.n, .slice ai t.init.length ci, .slice ag t.goal.length cg, .slice ao t.ops.length co] 25)) = w1 at HB HT HK ⊢
  have hbx := HB.lt
  obtain ⟨d0, d1, d2, d3⟩ := HB
  go_wp2_with fail
  refine (reachedFrom_any _ _ _ _ _ t t.init HT.out OK.out HT.out.init OK.out.init).mono ?_; rintro e w2 ⟨hk, hr⟩
  have K2 := Lib.hid (HK.out.trans hk)
  have hs1 := HK.out.size
  clear hk
  rcases hr with ⟨hn, rfl⟩ | ⟨l, hn, v, vw, vs, rfl, hr⟩
  · have HN := Lib.hid hn
    clear hn
    go_wp2_with fail
    go_ret2
    exact ⟨K2.out, .inl ⟨HN.out, rfl⟩⟩
  · have HN := Lib.hid hn; have HR := Lib.hid hr
    obtain ⟨av, cv, hav⟩ := ownsRow_form1 hr.out
    subst hav
    clear hn hr
    go_wp2_with fail
    go_ret2
    exact ⟨K2.out, .inr ⟨l, HN.out, _, vw, vs, rfl, ownsRow_mono HR.out.out hs1, ownsRow_mono HR.out.words hs1, HR.out.st⟩⟩

end Go.Proofs.Ytcfcmmajlkkabaa
