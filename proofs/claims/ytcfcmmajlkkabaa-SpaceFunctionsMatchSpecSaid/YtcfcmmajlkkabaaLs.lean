/- Slices that read as lists; the reference's small functions on lists: In, At, Ints, Has. -/
import Derived.Test.YtcfcmmajlkkabaaKitA
import Derived.Test.YtcfcmmajlkkabaaProg
namespace Go.Proofs.Ytcfcmmajlkkabaa
open Go.RowKit

/-- A slice value v of n elements whose cells (of all elements, one behind the other) read as cs. -/
def Sl (w : World) (v : Value) (n : Nat) (cs : List Value) : Prop :=
  ∃ ao cap, v = .slice ao n cap ∧ n ≤ maxLen ∧ (0 < n → ∃ b off, ao = some ⟨b, off, none⟩ ∧ ∀ j x, cs[j]? = some x → w.cell? ⟨b, off + j, none⟩ = some x)

theorem Sl.keeps {S : Nat → Prop} {w w' : World} {v : Value} {n : Nat} {cs : List Value} (h : Sl w v n cs) (hk : Keeps S w w') (hs : ∀ b, S b → w.heap.size ≤ b) : Sl w' v n cs := by
  obtain ⟨ao, cap, hv, hm, h⟩ := h
  refine ⟨ao, cap, hv, hm, fun hn => ?_⟩
  obtain ⟨b, off, ha, hc⟩ := h hn
  exact ⟨b, off, ha, fun j x hj => hk.cell (hc j x hj) (fun hb => by
    have := World.block_lt_of_cell? w _ (hc j x hj); have := hs _ hb; simp at *; omega)⟩

theorem Sl.keeps0 {w w' : World} {v : Value} {n : Nat} {cs : List Value} (h : Sl w v n cs) (hk : Keeps (fun _ => False) w w') : Sl w' v n cs := h.keeps hk (fun _ h => h.elim)

theorem Sl.of_own {w : World} {base : Nat} {e : TypeId} {v : Value} {n : Nat} {xs : List Value} (h : w.ownsRow base e 1 v n xs) : Sl w v n xs := by
  rcases h.2 with ⟨hv, h0⟩ | ⟨g, cap, cur, hv, hb, hg, hn, hm, hs, ht⟩
  · exact ⟨none, 0, by rw [hv, h0], by omega, fun h => by omega⟩
  · refine ⟨_, cap, hv, by omega, fun _ => ⟨g, 0, rfl, fun j x hj => ?_⟩⟩
    rw [Nat.zero_add, cell_of_blk hg]
    rw [← ht, List.getElem?_take] at hj
    split at hj
    · simpa using hj
    · cases hj

/-- A slice of ints that reads as l. -/
def Ints (w : World) (v : Value) (l : List Int) : Prop := Sl w v l.length (l.map (Value.int .i64))

theorem Try.info3 : (Try.prog.info? 3).map (fun i => (i.zero, i.size, i.bytes)) = some (some (.int .i64 0), 1, 8) := by kernel_rfl

def inB (x lo hi : Int) : Bool := decide (lo ≤ x) && decide (x ≤ hi)

set_option maxHeartbeats 400000 in
theorem in_any (w : World) (x lo hi : Int) : Calls Try.prog 30 #[.int .i64 x, .int .i64 lo, .int .i64 hi] w fun e w' => e = .returned (.bool (inB x lo hi)) ∧ w = w' := by
  by_cases h1 : lo ≤ x
  · have hr : Hid (inB x lo hi = decide (x ≤ hi)) := by unfold Hid inB; simp [h1]
    go_enter Try.func30, Try.ntmps30
    go_wp2
    go_ret
    exact ⟨congrArg (fun b => Ending.returned (Value.bool b)) hr.out.symm, rfl⟩
  · have hr : Hid (inB x lo hi = false) := by unfold Hid inB; simp [h1]
    go_enter Try.func30, Try.ntmps30
    go_wp2
    go_ret
    exact ⟨congrArg (fun b => Ending.returned (Value.bool b)) hr.out.symm, rfl⟩

set_option maxHeartbeats 400000 in
theorem at_any (w : World) (c n : Int) : Calls Try.prog 28 #[.int .i64 c, .int .i64 n] w fun e w' => e = .returned (.agg #[.int .i64 c, .int .i64 n]) ∧ Keeps (fun _ => False) w w' := by
  go_enter Try.func28, Try.ntmps28
  go_wp2
  refine bodyPost_ret (results_cell_row rfl _ _ w.heap.size 29 _ (0, 0) _ rfl (heap_alloc_new w _) Try.underlying29 rfl (by kernel_rfl)) rfl ?_
  exact ⟨rfl, (Keeps.refl _ _).alloc _⟩

theorem Ints.cell {w : World} {v : Value} {l : List Int} (h : Ints w v l) {ao : Option Addr} {n cap : Nat} (hv : v = .slice ao n cap) (hn : 0 < l.length) :
    ∃ b off, ao = some ⟨b, off, none⟩ ∧ ∀ (j : Nat) (x : Int), l[j]? = some x → w.cell? ⟨b, off + j, none⟩ = some (.int .i64 x) := by
  obtain ⟨ao', cap', hv', hm, hc⟩ := h
  rw [hv'] at hv
  simp only [Value.slice.injEq] at hv
  obtain ⟨rfl, _, _⟩ := hv
  obtain ⟨b, off, ha, hx⟩ := hc hn
  exact ⟨b, off, ha, fun j x hj => hx j _ (by rw [List.getElem?_map, hj]; rfl)⟩

theorem Ints.form {w : World} {v : Value} {l : List Int} (h : Ints w v l) : ∃ ao cap, v = .slice ao l.length cap ∧ l.length ≤ 9223372036854775807 := by
  obtain ⟨ao, cap, hv, hm, _⟩ := h
  unfold maxLen at hm
  exact ⟨ao, cap, hv, by omega⟩

theorem Ints.keeps0 {w w' : World} {v : Value} {l : List Int} (h : Ints w v l) (hk : Keeps (fun _ => False) w w') : Ints w' v l := Sl.keeps0 h hk

theorem Ints.of_own {w : World} {base : Nat} {e : TypeId} {v : Value} {l : List Int} (h : w.ownsRow base e 1 v l.length (l.map (Value.int .i64))) : Ints w v l := Sl.of_own h

set_option maxHeartbeats 1000000 in
theorem ints_any (w : World) (va vb : Value) (a b : List Int) (ha : Ints w va a) (hb : Ints w vb b) :
    Calls Try.prog 24 #[va, vb] w fun e w' => e = .returned (.bool (a == b)) ∧ Keeps (fun _ => False) w w' := by
  obtain ⟨ao, ca, hva, ma⟩ := ha.form
  obtain ⟨bo, cb, hvb, mb⟩ := hb.form
  have CA := Lib.hid (ha.cell hva)
  have CB := Lib.hid (hb.cell hvb)
  subst hva hvb
  clear ha hb
  by_cases hl : a.length = b.length
  · have h1 : (((a.length : Int)) != (b.length : Int)) = false := by simp [hl]
    have HL := Lib.hid hl; clear hl
    go_enter Try.func24, Try.ntmps24
    go_wp2_with fail
    go_loopw [5] (fun i wr => ∃ k : Nat, k ≤ a.length ∧ i = .int .i64 (k : Int) ∧ a.take k = b.take k ∧ Keeps (fun _ => False) w wr) (fun i _ => a.length - (intOf i).toNat)
    case atStart => exact ⟨0, Nat.zero_le _, rfl, rfl, Keeps.refl _ _⟩
    case round =>
      obtain ⟨k, hk, rfl, ht, hB⟩ := hrel
      have HT := Lib.hid ht
      have HB := Lib.hid hB
      clear ht hB
      by_cases hlt : k < a.length
      · obtain ⟨ba, oa, rfl, ha'⟩ := CA.out (by omega)
        have hlt2 : k < b.length := by have := HL.out; omega
        obtain ⟨bb, ob, rfl, hb'⟩ := CB.out (by omega)
        obtain ⟨x, hx⟩ : ∃ x, a[k]? = some x := ⟨_, List.getElem?_eq_getElem hlt⟩
        obtain ⟨y, hy⟩ : ∃ y, b[k]? = some y := ⟨_, List.getElem?_eq_getElem hlt2⟩
        have ha1 := HB.out.cell (ha' k _ hx) (fun h => h)
        have hb1 := HB.out.cell (hb' k _ hy) (fun h => h)
        have HX := Lib.hid hx
        have HY := Lib.hid hy
        clear ha' hb' hx hy
        by_cases hxy : x = y
        · have h1 : (x != y) = false := by simp [hxy]
          have HXY := Lib.hid hxy; clear hxy
          go_wp2
          go_quiet (fail)
          go_wp2
          go_roundw
          case rel => exact ⟨k + 1, by omega, by go_num, by
            have e1 := List.take_succ_eq_append_getElem hlt
            have e2 := List.take_succ_eq_append_getElem hlt2
            rw [e1, e2, HT.out, (List.getElem?_eq_some_iff.1 HX.out).2, (List.getElem?_eq_some_iff.1 HY.out).2, HXY.out], HB.out.drewN _⟩
          case measure => simp [intOf]; omega
        · have h1 : (x != y) = true := by simp [hxy]
          have hne : Hid ((a == b) = false) := by
            unfold Hid; rw [beq_eq_false_iff_ne]; rintro rfl
            exact hxy (Option.some.inj (HX.out.symm.trans HY.out))
          clear hxy
          go_wp2
          go_quiet (fail)
          go_wp2
          go_ret
          exact ⟨congrArg (fun b => Ending.returned (Value.bool b)) hne.out.symm, HB.out.drewN _⟩
      · have hab : Hid ((a == b) = true) := by
          unfold Hid; rw [beq_iff_eq]
          have h1 := HT.out
          obtain rfl : k = a.length := by omega
          rw [List.take_length] at h1
          rw [h1]; apply List.take_of_length_le; have := HL.out; omega
        go_wp2_with fail
        go_ret
        exact ⟨congrArg (fun b => Ending.returned (Value.bool b)) hab.out.symm, HB.out⟩
  · have h1 : (((a.length : Int)) != (b.length : Int)) = true := by simp; omega
    have hne : Hid ((a == b) = false) := by unfold Hid; rw [beq_eq_false_iff_ne]; rintro rfl; exact hl rfl
    clear hl
    go_enter Try.func24, Try.ntmps24
    go_wp2
    go_ret
    exact ⟨congrArg (fun b => Ending.returned (Value.bool b)) hne.out.symm, Keeps.refl _ _⟩

set_option maxHeartbeats 1000000 in
theorem has_any (w : World) (v : Value) (l : List Int) (x : Int) (h : Ints w v l) :
    Calls Try.prog 69 #[v, .int .i64 x] w fun e w' => e = .returned (.bool (decide (x ∈ l))) ∧ w = w' := by
  obtain ⟨ao, ca, hv, ma⟩ := h.form
  have CA := Lib.hid (h.cell hv)
  subst hv
  clear h
  go_enter Try.func69, Try.ntmps69
  go_wp2_with fail
  go_loop [5] (fun i => ∃ k : Nat, k ≤ l.length ∧ i = .int .i64 (k : Int) ∧ ∀ y ∈ l.take k, y ≠ x) (fun i => l.length - (intOf i).toNat)
  case atStart => exact ⟨0, Nat.zero_le _, rfl, by simp⟩
  case round =>
    obtain ⟨k, hk, rfl, ht⟩ := hrel
    have HT := Lib.hid ht; clear ht
    by_cases hlt : k < l.length
    · obtain ⟨ba, oa, rfl, ha'⟩ := CA.out (by omega)
      obtain ⟨y, hy⟩ : ∃ x, l[k]? = some x := ⟨_, List.getElem?_eq_getElem hlt⟩
      have ha1 := ha' k _ hy
      have HY := Lib.hid hy
      clear ha' hy
      by_cases hxy : y = x
      · have h1 : (y == x) = true := by simp [hxy]
        have hr := hid_true (show x ∈ l by rw [← hxy]; exact List.mem_of_getElem? HY.out)
        clear hxy
        go_wp2_with fail
        go_ret
        exact ⟨congrArg (fun b => Ending.returned (Value.bool b)) hr.out.symm, rfl⟩
      · have h1 : (y == x) = false := by simp [hxy]
        have HXY := Lib.hid hxy; clear hxy
        go_wp2_with fail
        go_round
        case rel => exact ⟨k + 1, by omega, by go_num, by
          rw [List.take_succ_eq_append_getElem hlt, (List.getElem?_eq_some_iff.1 HY.out).2]
          intro z hz
          rcases List.mem_append.1 hz with hz | hz
          · exact HT.out z hz
          · simp at hz; subst hz; exact HXY.out⟩
        case measure => simp [intOf]; omega
    · have hr := hid_false (show ¬ x ∈ l by
        have := HT.out
        rw [List.take_of_length_le (by omega)] at this
        exact fun h => this x h rfl)
      go_wp2_with fail
      go_ret
      exact ⟨congrArg (fun b => Ending.returned (Value.bool b)) hr.out.symm, rfl⟩

end Go.Proofs.Ytcfcmmajlkkabaa
