/- strips.Meets: slices.ContainsFunc with a closure over slices.BinarySearch. -/
import Derived.Test.YtcfcmmajlkkabaaSetA
import Derived.Test.YtcfcmmajlkkabaaShelf
namespace Go.Proofs.Ytcfcmmajlkkabaa
open Go.RowKit

theorem bsearch_any (w : World) (v : Value) (l : List Int) (x : Int) (h : Ints w v l) (hs : l.Pairwise (· < ·)) (hlen : l.length < 4611686018427387904) :
    Calls Try.prog 129 #[v, .int .i64 x] w fun e w' => ∃ k : Int, e = .returned (.tuple #[.int .i64 k, .bool (decide (x ∈ l))]) ∧ ∃ q, w' = w.drewN q := by
  obtain ⟨ao, ca, hv, ma⟩ := h.form
  have CA := h.cell hv
  subst hv
  by_cases hl : 0 < l.length
  · obtain ⟨b, off, rfl, hc⟩ := CA hl
    refine (Try.slices_BinarySearch_int b off l.length ca l x w (Nat.le_refl _) hlen (fun j hj => ?_) (by rw [List.take_length]; exact hs.imp (fun h => by omega))).mono ?_
    · obtain ⟨y, hy⟩ : ∃ y, l[j]? = some y := ⟨_, List.getElem?_eq_getElem hj⟩
      rw [hc j y hy, List.getD_eq_getElem?_getD, hy]; rfl
    · rintro e w' ⟨rfl, hw⟩
      have : (l.take l.length).contains x = decide (x ∈ l) := by
        rw [List.take_length]
        cases hd : decide (x ∈ l) with
        | true => simpa using hd
        | false => simpa using hd
      rw [this]
      exact ⟨_, rfl, hw⟩
  · obtain rfl : l = [] := List.length_eq_zero_iff.1 (by omega)
    refine (Try.slices_BinarySearch_int_empty ao ca x w).mono ?_
    rintro e w' ⟨rfl, rfl⟩
    exact ⟨0, by simp, 0, rfl⟩

theorem meets1_any (w : World) (a : Nat) (v : Value) (l : List Int) (x : Int) (h : Ints w v l) (hs : l.Pairwise (· < ·)) (hlen : l.length < 4611686018427387904) (hb : w.cell? ⟨a, 0, none⟩ = some v) :
    Calls Try.prog 128 #[.int .i64 x, .pointer (some ⟨a, 0, none⟩)] w fun e w' => e = .returned (.bool (decide (x ∈ l))) ∧ ∃ q, w' = w.drewN q := by
  obtain ⟨ao, ca, hv, ma⟩ := h.form
  have HI := Lib.hid h
  have HS := Lib.hid hs
  subst hv
  clear h hs
  generalize hm : decide (x ∈ l) = r
  have HM := Lib.hid hm
  clear hm
  go_enter Try.func128, Try.ntmps128
  go_wp2_with fail
  refine (bsearch_any _ _ _ _ HI.out HS.out hlen).mono ?_; rintro e w1 ⟨k, rfl, q, rfl⟩
  rw [HM.out]
  go_wp2_with fail
  go_ret
  exact ⟨rfl, q, rfl⟩

/-- The place of the first element of a in b, or -1. -/
theorem indexFunc_any (w : World) (va vb : Value) (a b : List Int) (bx : Nat) (ha : Ints w va a) (hb : Ints w vb b) (hs : b.Pairwise (· < ·)) (hlen : b.length < 4611686018427387904) (hbx : w.cell? ⟨bx, 0, none⟩ = some vb) :
    Calls Try.prog 138 #[va, .func (.func 128) #[] #[.pointer (some ⟨bx, 0, none⟩)]] w fun e w' => ∃ k : Int, e = .returned (.int .i64 k) ∧ (decide (0 ≤ k) = !disjB a b) ∧ Keeps (fun _ => False) w w' := by
  obtain ⟨ao, ca, hv, ma⟩ := ha.form
  have CA := Lib.hid (ha.cell hv)
  have HB := Lib.hid hb; have HS := Lib.hid hs; have HX := Lib.hid hbx
  subst hv
  clear ha hb hs hbx
  go_enter Try.func138, Try.ntmps138
  go_wp2_with fail
  go_loopw [8] (fun i wr => ∃ k : Nat, k ≤ a.length ∧ i = .int .i64 (k : Int) ∧ disjB (a.take k) b = true ∧ Keeps (fun _ => False) w wr) (fun i _ => a.length - (intOf i).toNat)
  case atStart => exact ⟨0, Nat.zero_le _, rfl, rfl, Keeps.refl _ _⟩
  case round =>
    obtain ⟨k, hk, rfl, ht, hkw⟩ := hrel
    have HT := Lib.hid ht; clear ht
    have KW := Lib.hid hkw; clear hkw
    by_cases hlt : k < a.length
    · obtain ⟨ba, oa, rfl, ha'⟩ := CA.out (by omega)
      obtain ⟨x, hx⟩ : ∃ x, a[k]? = some x := ⟨_, List.getElem?_eq_getElem hlt⟩
      have ha1 := KW.out.cell (ha' k _ hx) (fun h => h)
      have HXX := Lib.hid hx
      have e2 := take_getS hx
      clear ha' hx
      by_cases hm : x ∈ b
      · have hf : Hid (disjB a b = false) := by
          unfold Hid disjB
          rw [List.all_eq_false]
          exact ⟨x, List.mem_of_getElem? HXX.out, by simp [hm]⟩
        have HD := Lib.hid (decide_eq_true hm)
        clear hm e2
        go_wp2_with fail
        refine (meets1_any _ bx _ _ _ (HB.out.keeps0 KW.out) HS.out hlen (KW.out.cell HX.out (fun h => h))).mono ?_; rintro e w1 ⟨rfl, q, rfl⟩
        rw [HD.out]
        go_wp2_with fail
        go_ret
        exact ⟨_, rfl, by rw [hf.out]; simp, KW.out.drewN q⟩
      · have HN : Hid (disjB (a.take (k + 1)) b = true) := by
          unfold Hid
          rw [e2]
          have := HT.out
          unfold disjB at this ⊢
          rw [List.all_append, this]
          simp [hm]
        have HD := Lib.hid (decide_eq_false hm)
        clear hm e2
        go_wp2_with fail
        refine (meets1_any _ bx _ _ _ (HB.out.keeps0 KW.out) HS.out hlen (KW.out.cell HX.out (fun h => h))).mono ?_; rintro e w1 ⟨rfl, q, rfl⟩
        rw [HD.out]
        go_wp2_with fail
        go_roundw
        case rel => exact ⟨k + 1, by omega, by go_num, HN.out, KW.out.drewN q⟩
        case measure => simp [intOf]; omega
    · have hf : Hid (disjB a b = true) := by
        unfold Hid
        have := HT.out
        rwa [List.take_of_length_le (by omega)] at this
      go_wp2_with fail
      go_ret
      exact ⟨_, rfl, by rw [hf.out]; rfl, KW.out⟩

theorem containsFunc_any (w : World) (va vb : Value) (a b : List Int) (bx : Nat) (ha : Ints w va a) (hb : Ints w vb b) (hs : b.Pairwise (· < ·)) (hlen : b.length < 4611686018427387904) (hbx : w.cell? ⟨bx, 0, none⟩ = some vb) :
    Calls Try.prog 127 #[va, .func (.func 128) #[] #[.pointer (some ⟨bx, 0, none⟩)]] w fun e w' => e = .returned (.bool (!disjB a b)) ∧ Keeps (fun _ => False) w w' := by
  have H := Lib.hid (indexFunc_any w va vb a b bx ha hb hs hlen hbx)
  clear ha hb hs hbx
  generalize (!disjB a b) = r at H ⊢
  go_enter Try.func127, Try.ntmps127
  go_wp2_with fail
  refine H.out.mono ?_; rintro e w1 ⟨k, rfl, hk, hkw⟩
  have KW := Lib.hid hkw
  have HK := Lib.hid hk
  clear hkw hk
  go_wp2_with fail
  go_ret
  exact ⟨congrArg (fun b => Ending.returned (Value.bool b)) HK.out, KW.out⟩

theorem meets_any (w : World) (va vb : Value) (a b : List Int) (ha : Ints w va a) (hb : Ints w vb b) (hs : b.Pairwise (· < ·)) (hlen : b.length < 4611686018427387904) :
    Calls Try.prog 110 #[va, vb] w fun e w' => e = .returned (.bool (!disjB a b)) ∧ Keeps (fun _ => False) w w' := by
  have HA := Lib.hid ha; have HB := Lib.hid hb; have HS := Lib.hid hs
  obtain ⟨ao, ca, hva, ma⟩ := ha.form
  obtain ⟨bo, cb, hvb, mb⟩ := hb.form
  subst hva hvb
  clear ha hb hs
  generalize hr : (!disjB a b) = r
  have HR := Lib.hid hr
  clear hr
  go_enter Try.func110, Try.ntmps110
  go_wp2_with fail
  have K1 := (Keeps.refl (fun _ => False) w).alloc (.cells #[.slice bo b.length cb] 22)
  refine (containsFunc_any _ _ _ a b w.heap.size (HA.out.keeps0 K1) (HB.out.keeps0 K1) HS.out hlen ((cell_of_blk (heap_alloc_new w _)).trans rfl)).mono ?_; rintro e w1 ⟨rfl, hk⟩
  rw [HR.out]
  have KW := Lib.hid (K1.trans hk)
  clear hk K1
  go_wp2_with fail
  go_ret
  exact ⟨rfl, KW.out⟩

end Go.Proofs.Ytcfcmmajlkkabaa
