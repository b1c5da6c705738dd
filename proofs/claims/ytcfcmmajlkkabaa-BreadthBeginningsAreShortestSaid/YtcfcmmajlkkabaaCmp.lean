/- cmp.Compare at int, slices.Compare at []int, the comparison of two words. -/
import Derived.Test.YtcfcmmajlkkabaaWord
namespace Go.Proofs.Ytcfcmmajlkkabaa
open Go.RowKit

def cmpI (a b : Int) : Int := if a < b then -1 else if b < a then 1 else 0

def cmpL : List Int → List Int → Int
  | [], [] => 0
  | [], _ :: _ => -1
  | _ :: _, [] => 1
  | a :: r, b :: s => if a < b then -1 else if b < a then 1 else cmpL r s

theorem nan_any (w : World) (x : Int) : Calls Try.prog 126 #[.int .i64 x] w fun e w' => e = .returned (.bool false) ∧ w = w' := by
  go_enter Try.func126, Try.ntmps126
  go_wp2_with fail
  go_ret
  exact ⟨rfl, rfl⟩

set_option maxHeartbeats 1000000 in
theorem compare_any (w : World) (x y : Int) : Calls Try.prog 109 #[.int .i64 x, .int .i64 y] w fun e w' => e = .returned (.int .i64 (cmpI x y)) ∧ w = w' := by
  by_cases h1 : x < y
  · have hf : Hid (cmpI x y = -1) := by unfold Hid cmpI; rw [if_pos h1]
    go_enter Try.func109, Try.ntmps109
    go_wp2_with (go_at_call 126; refine (nan_any _ _).mono ?_; rintro e w' ⟨rfl, rfl⟩)
    go_ret
    exact ⟨by rw [hf.out]; rfl, rfl⟩
  · by_cases h2 : y < x
    · have hf : Hid (cmpI x y = 1) := by unfold Hid cmpI; rw [if_neg h1, if_pos h2]
      go_enter Try.func109, Try.ntmps109
      go_wp2_with (go_at_call 126; refine (nan_any _ _).mono ?_; rintro e w' ⟨rfl, rfl⟩)
      go_ret
      exact ⟨by rw [hf.out]; rfl, rfl⟩
    · have hf : Hid (cmpI x y = 0) := by unfold Hid cmpI; rw [if_neg h1, if_neg h2]
      go_enter Try.func109, Try.ntmps109
      go_wp2_with (go_at_call 126; refine (nan_any _ _).mono ?_; rintro e w' ⟨rfl, rfl⟩)
      go_ret
      exact ⟨by rw [hf.out]; rfl, rfl⟩

theorem cmpL_step {a b : List Int} {k : Nat} {x y : Int} (hx : a[k]? = some x) (hy : b[k]? = some y) : cmpL (a.drop k) (b.drop k) = if x < y then -1 else if y < x then 1 else cmpL (a.drop (k + 1)) (b.drop (k + 1)) := by
  obtain ⟨h1, h2⟩ := List.getElem?_eq_some_iff.1 hx
  obtain ⟨h3, h4⟩ := List.getElem?_eq_some_iff.1 hy
  rw [List.drop_eq_getElem_cons h1, List.drop_eq_getElem_cons h3, h2, h4, cmpL]

theorem cmpL_long {a b : List Int} {k : Nat} (h1 : k < a.length) (h2 : b.length ≤ k) : cmpL (a.drop k) (b.drop k) = 1 := by
  rw [List.drop_eq_getElem_cons h1, List.drop_eq_nil_of_le h2, cmpL]
theorem cmpL_short {a b : List Int} {k : Nat} (h1 : a.length ≤ k) (h2 : k < b.length) : cmpL (a.drop k) (b.drop k) = -1 := by
  rw [List.drop_eq_getElem_cons h2, List.drop_eq_nil_of_le h1, cmpL]
theorem cmpL_end {a b : List Int} {k : Nat} (h1 : a.length ≤ k) (h2 : b.length ≤ k) : cmpL (a.drop k) (b.drop k) = 0 := by
  rw [List.drop_eq_nil_of_le h1, List.drop_eq_nil_of_le h2, cmpL]

set_option maxHeartbeats 1000000 in
theorem sliceCompare_any (w : World) (va vb : Value) (a b : List Int) (ha : Ints w va a) (hb : Ints w vb b) :
    Calls Try.prog 91 #[va, vb] w fun e w' => e = .returned (.int .i64 (cmpL a b)) ∧ w = w' := by
  obtain ⟨ao, ca, hva, ma⟩ := ha.form
  obtain ⟨bo, cb, hvb, mb⟩ := hb.form
  have CA := Lib.hid (ha.cell hva)
  have CB := Lib.hid (hb.cell hvb)
  subst hva hvb
  clear ha hb
  go_enter Try.func91, Try.ntmps91
  go_wp2_with fail
  go_loop [11] (fun i => ∃ k : Nat, k ≤ a.length ∧ k ≤ b.length ∧ i = .int .i64 (k : Int) ∧ cmpL a b = cmpL (a.drop k) (b.drop k)) (fun i => a.length - (intOf i).toNat)
  case atStart => exact ⟨0, Nat.zero_le _, Nat.zero_le _, rfl, rfl⟩
  case round =>
    obtain ⟨k, hk, hk2, rfl, ht⟩ := hrel
    have HT := Lib.hid ht; clear ht
    by_cases hlt : k < a.length
    · obtain ⟨ba, oa, rfl, ha'⟩ := CA.out (by omega)
      obtain ⟨x, hx⟩ : ∃ x, a[k]? = some x := ⟨_, List.getElem?_eq_getElem hlt⟩
      have ha1 := ha' k _ hx
      by_cases hlt2 : k < b.length
      · obtain ⟨bb, ob, rfl, hb'⟩ := CB.out (by omega)
        obtain ⟨y, hy⟩ : ∃ y, b[k]? = some y := ⟨_, List.getElem?_eq_getElem hlt2⟩
        have hb1 := hb' k _ hy
        have HS := Lib.hid (cmpL_step hx hy)
        clear ha' hb' hx hy
        by_cases hz : cmpI x y = 0
        · have hne : (cmpI x y != 0) = false := by simpa using hz
          have HN : Hid (cmpL a b = cmpL (a.drop (k + 1)) (b.drop (k + 1))) := by
            unfold Hid
            rw [HT.out, HS.out]
            unfold cmpI at hz
            by_cases h1 : x < y
            · rw [if_pos h1] at hz; cases hz
            · rw [if_neg h1] at hz ⊢
              by_cases h2 : y < x
              · rw [if_pos h2] at hz; cases hz
              · rw [if_neg h2]
          clear hz
          go_wp2_with fail
          refine (compare_any _ _ _).mono ?_; rintro e w1 ⟨rfl, rfl⟩
          generalize cmpI x y = c at hne ⊢
          go_wp2_with fail
          go_round
          case rel => exact ⟨k + 1, by omega, by omega, by go_num, HN.out⟩
          case measure => simp [intOf]; omega
        · have hne : (cmpI x y != 0) = true := by simpa using hz
          have HN : Hid (cmpL a b = cmpI x y) := by
            unfold Hid
            rw [HT.out, HS.out]
            unfold cmpI at hz ⊢
            by_cases h1 : x < y
            · rw [if_pos h1, if_pos h1]
            · rw [if_neg h1] at hz ⊢
              by_cases h2 : y < x
              · rw [if_pos h2, if_neg h1, if_pos h2]
              · rw [if_neg h2] at hz; exact absurd rfl hz
          clear hz
          go_wp2_with fail
          refine (compare_any _ _ _).mono ?_; rintro e w1 ⟨rfl, rfl⟩
          generalize cmpI x y = c at hne HN ⊢
          go_wp2_with fail
          go_ret
          exact ⟨congrArg (fun u : Int => Ending.returned (Value.int .i64 u)) HN.out.symm, rfl⟩
      · have HN : Hid (cmpL a b = 1) := by unfold Hid; rw [HT.out]; exact cmpL_long hlt (by omega)
        clear ha' hx
        go_wp2_with fail
        go_ret
        exact ⟨congrArg (fun u : Int => Ending.returned (Value.int .i64 u)) HN.out.symm, rfl⟩
    · by_cases hlt2 : k < b.length
      · have HN : Hid (cmpL a b = -1) := by unfold Hid; rw [HT.out]; exact cmpL_short (by omega) hlt2
        have hl : a.length < b.length := by omega
        go_wp2_with fail
        go_ret
        exact ⟨congrArg (fun u : Int => Ending.returned (Value.int .i64 u)) HN.out.symm, rfl⟩
      · have HN : Hid (cmpL a b = 0) := by unfold Hid; rw [HT.out]; exact cmpL_end (by omega) (by omega)
        have hl : b.length ≤ a.length := by omega
        go_wp2_with fail
        go_ret
        exact ⟨congrArg (fun u : Int => Ending.returned (Value.int .i64 u)) HN.out.symm, rfl⟩

/-- How two words compare. -/
def cmpW (x y : Nat) : Int := cmpL (facts x) (facts y)

set_option maxHeartbeats 1000000 in
theorem checked1_any (w : World) (x y : Nat) :
    Calls Try.prog 90 #[.int .u32 (x : Int), .int .u32 (y : Int)] w fun e w' => e = .returned (.int .i64 (cmpW x y)) ∧ Keeps (fun _ => False) w w' ∧ w.drawn ≤ w'.drawn := by
  go_enter Try.func90, Try.ntmps90
  go_wp2_with fail
  refine (facts_any _ _).mono ?_; rintro e w1 ⟨va, rfl, ho, hk, hd1⟩
  have OA := Lib.hid (Ints.of_own ho)
  have K1 := Lib.hid hk
  clear ho hk
  go_wp2_with fail
  refine (facts_any _ _).mono ?_; rintro e w2 ⟨vb, rfl, ho, hk, hd2⟩
  have OB := Lib.hid (Ints.of_own ho)
  have K2 := Lib.hid hk
  clear ho hk
  go_wp2_with fail
  refine (sliceCompare_any _ _ _ _ _ (OA.out.keeps0 K2.out) OB.out).mono ?_; rintro e w3 ⟨rfl, rfl⟩
  go_wp2_with fail
  go_ret
  exact ⟨rfl, K1.out.trans K2.out, Nat.le_trans hd1 hd2⟩

end Go.Proofs.Ytcfcmmajlkkabaa
