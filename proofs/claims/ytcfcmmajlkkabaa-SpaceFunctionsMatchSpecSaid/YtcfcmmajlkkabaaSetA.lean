/- IsSet (of the reference, of strips), Disjoint. -/
import Derived.Test.YtcfcmmajlkkabaaLs
import Derived.Test.YtcfcmmajlkkabaaTaskA
import Derived.IntWalk
namespace Go.Proofs.Ytcfcmmajlkkabaa
open Go.RowKit

theorem in_val {x lo hi : Int} {b : Bool} (w : World) (h : inB x lo hi = b) : Calls Try.prog 30 #[.int .i64 x, .int .i64 lo, .int .i64 hi] w fun e w' => e = .returned (.bool b) ∧ w' = w :=
  (in_any w x lo hi).mono fun _ _ ⟨he, hw⟩ => ⟨by rw [he, h], hw.symm⟩

theorem inB_false' {k lo hi : Int} (h : ¬ (lo ≤ k ∧ k ≤ hi)) : inB k lo hi = false := by
  unfold inB
  by_cases h1 : lo ≤ k
  · have h2 : ¬ k ≤ hi := fun h2 => h ⟨h1, h2⟩
    simp [h2]
  · simp [h1]
theorem inB_true' {k lo hi : Int} (h1 : lo ≤ k) (h2 : k ≤ hi) : inB k lo hi = true := by unfold inB; simp [h1, h2]

theorem take_getS {α : Type} {l : List α} {n : Nat} {k : α} (h : l[n]? = some k) : l.take (n + 1) = l.take n ++ [k] := by
  obtain ⟨h1, h2⟩ := List.getElem?_eq_some_iff.1 h
  rw [List.take_succ_eq_append_getElem h1, h2]

/-- What is left of the test of a set at place i. -/
def setLo (l : List Int) (i : Nat) : Int := match i with
  | 0 => 0
  | j + 1 => (l[j]?.getD 0) + 1
def setAt (n : Int) (l : List Int) (i : Nat) : Bool := setFrom n (setLo l i) (l.drop i)

theorem setAt_zero (n : Int) (l : List Int) : setAt n l 0 = isSetB l n := rfl
theorem setAt_step {n : Int} {l : List Int} {i : Nat} {x : Int} (h : l[i]? = some x) : setAt n l i = (decide (setLo l i ≤ x) && decide (x < n) && setAt n l (i + 1)) := by
  obtain ⟨h1, h2⟩ := List.getElem?_eq_some_iff.1 h
  unfold setAt
  rw [List.drop_eq_getElem_cons h1, h2, setFrom]
  have : setLo l (i + 1) = x + 1 := by show (l[i]?.getD 0) + 1 = x + 1; rw [h]; rfl
  rw [this]
theorem setAt_end {n : Int} {l : List Int} {i : Nat} (h : l.length ≤ i) : setAt n l i = true := by
  unfold setAt
  rw [List.drop_eq_nil_of_le h]; rfl
theorem setLo_succ {l : List Int} {i : Nat} {x : Int} (h : l[i]? = some x) : setLo l (i + 1) = x + 1 := by show (l[i]?.getD 0) + 1 = x + 1; rw [h]; rfl

set_option maxHeartbeats 1000000 in
theorem sIsSet_any (w : World) (v : Value) (l : List Int) (n : Int) (h : Ints w v l) :
    Calls Try.prog 75 #[v, .int .i64 n] w fun e w' => e = .returned (.bool (isSetB l n)) ∧ w = w' := by
  obtain ⟨ao, ca, hv, ma⟩ := h.form
  have CA := Lib.hid (h.cell hv)
  subst hv
  clear h
  go_enter Try.func75, Try.ntmps75
  go_wp2_with fail
  go_loop [9] (fun i => ∃ k : Nat, k ≤ l.length ∧ i = .int .i64 (k : Int) ∧ setAt n l k = isSetB l n ∧ ∀ j x, j < k → l[j]? = some x → 0 ≤ x) (fun i => l.length - (intOf i).toNat)
  case atStart => exact ⟨0, Nat.zero_le _, rfl, rfl, fun j x hj => by omega⟩
  case round =>
    obtain ⟨k, hk, rfl, ht, hp⟩ := hrel
    have HT := Lib.hid ht; clear ht
    have HP := Lib.hid hp; clear hp
    by_cases hlt : k < l.length
    · obtain ⟨ba, oa, rfl, ha'⟩ := CA.out (by omega)
      obtain ⟨x, hx⟩ : ∃ x, l[k]? = some x := ⟨_, List.getElem?_eq_getElem hlt⟩
      have ha1 := ha' k _ hx
      have HX := Lib.hid hx
      have HS := Lib.hid (setAt_step (n := n) hx)
      by_cases h0 : x < 0
      · have hf : Hid (isSetB l n = false) := by
          unfold Hid
          rw [← HT.out, HS.out]
          have : ¬ setLo l k ≤ x := by
            cases k with
            | zero => show ¬ (0 : Int) ≤ x; omega
            | succ j =>
              obtain ⟨y, hy⟩ : ∃ y, l[j]? = some y := ⟨_, List.getElem?_eq_getElem (by omega)⟩
              have := HP.out j y (by omega) hy
              rw [setLo_succ hy]; omega
          simp [this]
        clear ha' hx
        go_wp2_with fail
        go_ret
        exact ⟨congrArg (fun b => Ending.returned (Value.bool b)) hf.out.symm, rfl⟩
      · have h0' : 0 ≤ x := by omega
        clear h0
        by_cases h1 : n ≤ x
        · have hf : Hid (isSetB l n = false) := by
            unfold Hid
            rw [← HT.out, HS.out]
            have : ¬ x < n := by omega
            simp [this]
          clear ha' hx
          go_wp2_with fail
          go_ret
          exact ⟨congrArg (fun b => Ending.returned (Value.bool b)) hf.out.symm, rfl⟩
        · have h1' : x < n := by omega
          clear h1
          cases k with
          | zero =>
            have HN : Hid (setAt n l (0 + 1) = isSetB l n) := by
              unfold Hid
              rw [← HT.out, HS.out]
              have : setLo l 0 ≤ x := h0'
              simp [this, h1']
            have HQ : Hid (∀ j y, j < 0 + 1 → l[j]? = some y → 0 ≤ y) := by
              unfold Hid
              intro j y hj hy
              obtain rfl : j = 0 := by omega
              rw [HX.out] at hy; cases hy; exact h0'
            rw [Nat.add_zero] at ha1
            clear ha' hx
            go_wp2_with fail
            go_round
            case rel => exact ⟨0 + 1, by omega, by go_num, HN.out, HQ.out⟩
            case measure => simp [intOf]; omega
          | succ j =>
            obtain ⟨y, hy⟩ : ∃ y, l[j]? = some y := ⟨_, List.getElem?_eq_getElem (by omega)⟩
            have ha2 := ha' j _ hy
            have e1 : (((j + 1 : Nat) : Int) - 1) = (j : Int) := by omega
            have hj0 : (0 : Int) < ((j + 1 : Nat) : Int) := by omega
            have HY := Lib.hid hy
            have HQ : Hid (∀ i z, i < j + 1 + 1 → l[i]? = some z → 0 ≤ z) := by
              unfold Hid
              intro i z hi hz
              by_cases e : i = j + 1
              · subst e; rw [HX.out] at hz; cases hz; exact h0'
              · exact HP.out i z (by omega) hz
            clear ha' hx hy
            by_cases hle : x ≤ y
            · have hf : Hid (isSetB l n = false) := by
                unfold Hid
                rw [← HT.out, HS.out]
                have : ¬ setLo l (j + 1) ≤ x := by rw [setLo_succ HY.out]; omega
                simp [this]
              go_wp2_with fail
              go_ret
              exact ⟨congrArg (fun b => Ending.returned (Value.bool b)) hf.out.symm, rfl⟩
            · have hgt : y < x := by omega
              clear hle
              have HN : Hid (setAt n l (j + 1 + 1) = isSetB l n) := by
                unfold Hid
                rw [← HT.out, HS.out]
                have : setLo l (j + 1) ≤ x := by rw [setLo_succ HY.out]; omega
                simp [this, h1']
              go_wp2_with fail
              go_round
              case rel => exact ⟨j + 1 + 1, by omega, by go_num, HN.out, HQ.out⟩
              case measure => simp [intOf]; omega
    · have hf : Hid (isSetB l n = true) := by unfold Hid; rw [← HT.out]; exact setAt_end (by omega)
      go_wp2_with fail
      go_ret
      exact ⟨congrArg (fun b => Ending.returned (Value.bool b)) hf.out.symm, rfl⟩

end Go.Proofs.Ytcfcmmajlkkabaa

/- IsSet of the reference; Disjoint. -/
namespace Go.Proofs.Ytcfcmmajlkkabaa
open Go.RowKit

theorem rIsSet_val (w : World) (v : Value) (l : List Int) (n : Int) (h : Ints w v l) (hn0 : 0 ≤ n) (hn1 : n ≤ 1000) :
    Calls Try.prog 67 #[v, .int .i64 n] w fun e w' => e = .returned (.bool (isSetB l n)) ∧ Keeps (fun _ => False) w w' := by
  obtain ⟨ao, ca, hv, ma⟩ := h.form
  have CA := Lib.hid (h.cell hv)
  subst hv
  clear h
  go_enter Try.func67, Try.ntmps67
  go_wp2_with fail
  go_loopw [5] (fun i wr => ∃ k : Nat, k ≤ l.length ∧ i = .int .i64 (k : Int) ∧ setAt n l k = isSetB l n ∧ (∀ j x, j < k → l[j]? = some x → 0 ≤ x) ∧ Keeps (fun _ => False) w wr) (fun i _ => l.length - (intOf i).toNat)
  case atStart => exact ⟨0, Nat.zero_le _, rfl, rfl, fun j x hj => by omega, Keeps.refl _ _⟩
  case round =>
    obtain ⟨k, hk, rfl, ht, hp, hkw⟩ := hrel
    have HT := Lib.hid ht; clear ht
    have HP := Lib.hid hp; clear hp
    have KW := Lib.hid hkw; clear hkw
    by_cases hlt : k < l.length
    · obtain ⟨ba, oa, rfl, ha'⟩ := CA.out (by omega)
      obtain ⟨x, hx⟩ : ∃ x, l[k]? = some x := ⟨_, List.getElem?_eq_getElem hlt⟩
      have ha1 := KW.out.cell (ha' k _ hx) (fun h => h)
      have HX := Lib.hid hx
      have HS := Lib.hid (setAt_step (n := n) hx)
      by_cases h0 : ¬ (0 ≤ x ∧ x ≤ n - 1)
      · have hf : Hid (isSetB l n = false) := by
          unfold Hid
          rw [← HT.out, HS.out]
          by_cases h1 : x < n
          · have : ¬ setLo l k ≤ x := by
              cases k with
              | zero => show ¬ (0 : Int) ≤ x; omega
              | succ j =>
                obtain ⟨y, hy⟩ : ∃ y, l[j]? = some y := ⟨_, List.getElem?_eq_getElem (by omega)⟩
                have := HP.out j y (by omega) hy
                rw [setLo_succ hy]; omega
            simp [this]
          · simp [h1]
        have HIN := Lib.hid (inB_false' h0)
        clear ha' hx h0
        go_wp2_with fail
        go_quiet ((go_at_call 30; exact Calls.quiet_of_same (in_val _ HIN.out)))
        go_wp2_with fail
        go_ret
        exact ⟨congrArg (fun b => Ending.returned (Value.bool b)) hf.out.symm, KW.out.drewN _⟩
      · have h0' : 0 ≤ x := by omega
        have h1' : x < n := by omega
        have HIN := Lib.hid (inB_true' h0' (by omega : x ≤ n - 1))
        clear h0
        cases k with
        | zero =>
          have HN : Hid (setAt n l (0 + 1) = isSetB l n) := by
            unfold Hid
            rw [← HT.out, HS.out]
            have : setLo l 0 ≤ x := h0'
            simp [this, h1']
          have HQ : Hid (∀ j y, j < 0 + 1 → l[j]? = some y → 0 ≤ y) := by
            unfold Hid
            intro j y hj hy
            obtain rfl : j = 0 := by omega
            rw [HX.out] at hy; cases hy; exact h0'
          rw [Nat.add_zero] at ha1
          clear ha' hx
          go_wp2_with fail
          go_quiet ((go_at_call 30; exact Calls.quiet_of_same (in_val _ HIN.out)))
          go_wp2_with fail
          go_roundw
          case rel => exact ⟨0 + 1, by omega, by go_num, HN.out, HQ.out, KW.out.drewN _⟩
          case measure => simp [intOf]; omega
        | succ j =>
          obtain ⟨y, hy⟩ : ∃ y, l[j]? = some y := ⟨_, List.getElem?_eq_getElem (by omega)⟩
          have ha2 := KW.out.cell (ha' j _ hy) (fun h => h)
          have e1 : (((j + 1 : Nat) : Int) - 1) = (j : Int) := by omega
          have hj0 : (0 : Int) < ((j + 1 : Nat) : Int) := by omega
          have HY := Lib.hid hy
          have HQ : Hid (∀ i z, i < j + 1 + 1 → l[i]? = some z → 0 ≤ z) := by
            unfold Hid
            intro i z hi hz
            by_cases e : i = j + 1
            · subst e; rw [HX.out] at hz; cases hz; exact h0'
            · exact HP.out i z (by omega) hz
          clear ha' hx hy
          by_cases hle : x ≤ y
          · have hf : Hid (isSetB l n = false) := by
              unfold Hid
              rw [← HT.out, HS.out]
              have : ¬ setLo l (j + 1) ≤ x := by rw [setLo_succ HY.out]; omega
              simp [this]
            go_wp2_with fail
            go_quiet ((go_at_call 30; exact Calls.quiet_of_same (in_val _ HIN.out)))
            go_wp2_with fail
            go_ret
            exact ⟨congrArg (fun b => Ending.returned (Value.bool b)) hf.out.symm, KW.out.drewN _⟩
          · have hgt : y < x := by omega
            have hgt' : decide (x ≤ y) = false := by simpa using hle
            clear hle
            have HN : Hid (setAt n l (j + 1 + 1) = isSetB l n) := by
              unfold Hid
              rw [← HT.out, HS.out]
              have : setLo l (j + 1) ≤ x := by rw [setLo_succ HY.out]; omega
              simp [this, h1']
            go_wp2_with fail
            go_quiet ((go_at_call 30; exact Calls.quiet_of_same (in_val _ HIN.out)))
            go_wp2_with fail
            go_roundw
            case rel => exact ⟨j + 1 + 1, by omega, by go_num, HN.out, HQ.out, KW.out.drewN _⟩
            case measure => simp [intOf]; omega
    · have hf : Hid (isSetB l n = true) := by unfold Hid; rw [← HT.out]; exact setAt_end (by omega)
      go_wp2_with fail
      go_ret
      exact ⟨congrArg (fun b => Ending.returned (Value.bool b)) hf.out.symm, KW.out⟩

set_option maxHeartbeats 1000000 in
theorem disjoint_any (w : World) (va vb : Value) (a b : List Int) (ha : Ints w va a) (hb : Ints w vb b) :
    Calls Try.prog 68 #[va, vb] w fun e w' => e = .returned (.bool (disjB a b)) ∧ w = w' := by
  obtain ⟨ao, ca, hv, ma⟩ := ha.form
  have CA := Lib.hid (ha.cell hv)
  have HB := Lib.hid hb
  obtain ⟨bo, cb, hvb, mb⟩ := hb.form
  subst hv hvb
  clear ha hb
  go_enter Try.func68, Try.ntmps68
  go_wp2_with fail
  go_loop [5] (fun i => ∃ k : Nat, k ≤ a.length ∧ i = .int .i64 (k : Int) ∧ disjB (a.take k) b = true) (fun i => a.length - (intOf i).toNat)
  case atStart => exact ⟨0, Nat.zero_le _, rfl, rfl⟩
  case round =>
    obtain ⟨k, hk, rfl, ht⟩ := hrel
    have HT := Lib.hid ht; clear ht
    by_cases hlt : k < a.length
    · obtain ⟨ba, oa, rfl, ha'⟩ := CA.out (by omega)
      obtain ⟨x, hx⟩ : ∃ x, a[k]? = some x := ⟨_, List.getElem?_eq_getElem hlt⟩
      have ha1 := ha' k _ hx
      have HX := Lib.hid hx
      clear ha' hx
      have e2 := take_getS HX.out
      by_cases hm : x ∈ b
      · have hf : Hid (disjB a b = false) := by
          unfold Hid disjB
          rw [List.all_eq_false]
          exact ⟨x, List.mem_of_getElem? HX.out, by simp [hm]⟩
        have HD := Lib.hid (decide_eq_true hm)
        clear hm e2
        go_wp2_with fail
        refine (has_any _ _ _ _ HB.out).mono ?_; rintro e w1 ⟨rfl, rfl⟩
        rw [HD.out]
        go_wp2_with fail
        go_ret
        exact ⟨congrArg (fun b => Ending.returned (Value.bool b)) hf.out.symm, rfl⟩
      · have HN : Hid (disjB (a.take (k + 1)) b = true) := by
          unfold Hid
          rw [e2]
          have := HT.out
          unfold disjB at this ⊢
          rw [List.all_append, this]
          simp [hm]
        have HD := Lib.hid (decide_eq_false hm)
        clear hm e2
        go_wp2_with fail
        refine (has_any _ _ _ _ HB.out).mono ?_; rintro e w1 ⟨rfl, rfl⟩
        rw [HD.out]
        go_wp2_with fail
        go_round
        case rel => exact ⟨k + 1, by omega, by go_num, HN.out⟩
        case measure => simp [intOf]; omega
    · have hf : Hid (disjB a b = true) := by
        unfold Hid
        have := HT.out
        rwa [List.take_of_length_le (by omega)] at this
      go_wp2_with fail
      go_ret
      exact ⟨congrArg (fun b => Ending.returned (Value.bool b)) hf.out.symm, rfl⟩

end Go.Proofs.Ytcfcmmajlkkabaa
