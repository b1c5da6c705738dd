/- The reference's queue: place, first, without, with. -/
import Derived.Test.YtlghadoejmnllaaRefA
import Derived.Deep.DeepCutAuto
import Derived.Deep.RegionLaw
namespace Go.Proofs.Ytlghadoejmnllaa
open Go.RowKit

/-- The first position of x in l, or -1. -/
def placeI : List Int → Int → Int
  | [], _ => -1
  | y :: r, x => if y = x then 0 else if placeI r x < 0 then -1 else placeI r x + 1

theorem placeI_hit {l : List Int} {k : Nat} {x : Int} (h : l[k]? = some x) (hn : ∀ y ∈ l.take k, y ≠ x) : placeI l x = k := by
  induction l generalizing k with
  | nil => simp at h
  | cons a r ih =>
    cases k with
    | zero => simp at h; subst h; simp [placeI]
    | succ k =>
      simp at h
      have h1 : a ≠ x := hn a (by simp)
      have := ih h (fun y hy => hn y (by simp [hy]))
      rw [placeI, if_neg h1, this, if_neg (by omega)]; omega

theorem placeI_miss {l : List Int} {x : Int} (hn : ∀ y ∈ l, y ≠ x) : placeI l x = -1 := by
  induction l with
  | nil => rfl
  | cons a r ih =>
    rw [placeI, if_neg (hn a (by simp)), ih (fun y hy => hn y (by simp [hy]))]; rfl

set_option maxHeartbeats 1000000 in
theorem place_any (w : World) (vI vK vT : Value) (t : Int) (l : List Int) (x : Int) (h : Ints w vI l) :
    Calls Try.prog 23 #[.agg #[vI, vK, vT, .int .i64 t], .int .i64 x] w fun e w' => e = .returned (.int .i64 (placeI l x)) ∧ Keeps (fun _ => False) w w' := by
  obtain ⟨ao, ca, hv, ma⟩ := h.form
  have CA := Lib.hid (h.cell hv)
  subst hv
  clear h
  go_enter Try.func23, Try.ntmps23
  have hA : ∀ o, Keeps (fun _ => False) w (w.alloc o) := fun o => (Keeps.refl _ _).alloc o
  have HA := Lib.hid hA
  clear hA
  go_wp2_with fail
  go_loop [5] (fun i => ∃ k : Nat, k ≤ l.length ∧ i = .int .i64 (k : Int) ∧ ∀ y ∈ l.take k, y ≠ x) (fun i => l.length - (intOf i).toNat)
  case atStart => exact ⟨0, Nat.zero_le _, rfl, by simp⟩
  case round =>
    obtain ⟨k, hk, rfl, ht⟩ := hrel
    have HT := Lib.hid ht; clear ht
    by_cases hlt : k < l.length
    · obtain ⟨ba, oa, rfl, ha'⟩ := CA.out (by omega)
      obtain ⟨y, hy⟩ : ∃ x, l[k]? = some x := ⟨_, List.getElem?_eq_getElem hlt⟩
      have ha1 := (HA.out (.cells #[.slice (some ⟨ba, oa, none⟩) l.length ca, vK, vT, .int .i64 t] 46)).cell (ha' k _ hy) (fun h => h)
      have HY := Lib.hid hy
      clear ha' hy
      by_cases hxy : y = x
      · have h1 : (y == x) = true := by simp [hxy]
        have hr := Lib.hid (placeI_hit (x := x) (by rw [← hxy]; exact HY.out) HT.out)
        clear hxy
        go_wp2_with fail
        go_ret
        exact ⟨ret_i64 hr.out.symm, HA.out _⟩
      · have h1 : (y == x) = false := by simp [hxy]
        have HXY := Lib.hid hxy; clear hxy
        go_wp2_with fail
        go_round
        case rel => exact ⟨k + 1, by omega, by go_num, by
          rw [List.take_succ_eq_append_getElem hlt, (List.getElem?_eq_some_iff.1 HY.out).2]
          intro z hz
          rcases List.mem_append.1 hz with hz | hz
          · exact HT.out z hz
          · simp at hz; subst hz; exact HXY.out⟩
        case measure => simp [intOf]; omega
    · have hr : Hid (placeI l x = -1) := by
        have := HT.out
        rw [List.take_of_length_le (by omega)] at this
        exact placeI_miss this
      go_wp2_with fail
      go_ret
      exact ⟨ret_i64 hr.out.symm, HA.out _⟩

/-- b is the first position of a least key among the first n. -/
def BestOf (K : List Int) (b n : Nat) : Prop := b < n ∧ ∀ x, K[b]? = some x → (∀ j y, j < n → K[j]? = some y → x ≤ y) ∧ ∀ j y, j < b → K[j]? = some y → x < y

theorem firstMin_best {A : List (Int × Int)} {b : Nat} (h : BestOf (A.map Prod.snd) b A.length) : firstMin A = A[b]? := by
  induction A generalizing b with
  | nil => have := h.1; simp at this
  | cons p r ih =>
    have hb := h.1
    cases b with
    | zero =>
      have h2 := h.2 p.2 (by simp)
      simp only [firstMin]
      cases hf : firstMin r with
      | none => simp
      | some q =>
        obtain ⟨j, hj⟩ := List.mem_iff_getElem?.1 (firstMin_mem hf)
        have hlt : j < r.length := (List.getElem?_eq_some_iff.1 hj).1
        have := h2.1 (j + 1) q.2 (by simp; omega) (by simp [hj])
        simp only
        rw [if_neg (by omega)]; simp
    | succ b =>
      simp at hb
      obtain ⟨q, hq⟩ : ∃ q, r[b]? = some q := ⟨_, List.getElem?_eq_getElem hb⟩
      have h2 := h.2 q.2 (by simp [hq])
      have hr : firstMin r = r[b]? := ih ⟨hb, fun x hx => by
        rw [List.getElem?_map, hq] at hx
        simp at hx; subst hx
        exact ⟨fun j y hj hy => h2.1 (j + 1) y (by simp; omega) (by simpa using hy), fun j y hj hy => h2.2 (j + 1) y (by omega) (by simpa using hy)⟩⟩
      have h3 := h2.2 0 p.2 (by omega) (by simp)
      simp only [firstMin, hr, hq]
      rw [if_pos h3]; simp [hq]

set_option maxHeartbeats 2000000 in
theorem first_any (w : World) (vI vK vT : Value) (t : Int) (I K T : List Int) (hI : Ints w vI I) (hK : Ints w vK K) (hT : Ints w vT T) (h1 : I.length = K.length) (h2 : T.length = K.length) (hp : 0 < K.length) (hs : T.Pairwise (· < ·)) :
    Calls Try.prog 21 #[.agg #[vI, vK, vT, .int .i64 t]] w fun e w' => ∃ b : Nat, e = .returned (.int .i64 (b : Int)) ∧ BestOf K b K.length ∧ Keeps (fun _ => False) w w' := by
  obtain ⟨aI, cI, hvI, mI⟩ := hI.form
  obtain ⟨aK, cK, hvK, mK⟩ := hK.form
  obtain ⟨aT, cT, hvT, mT⟩ := hT.form
  rw [h1] at hvI
  rw [h2] at hvT
  obtain ⟨bK, oK, rfl, cK'⟩ := hK.cell hvK hp
  obtain ⟨bT, oT, rfl, cT'⟩ := hT.cell hvT (by omega)
  have hA : ∀ o, Keeps (fun _ => False) w (w.alloc o) := fun o => (Keeps.refl _ _).alloc o
  have HA := Lib.hid hA
  have CK := Lib.hid cK'
  have CT := Lib.hid cT'
  have HS := Lib.hid hs
  have H2 := Lib.hid h2
  subst hvI hvK hvT
  clear hA cK' cT' hs hI hK hT h1 h2
  go_enter Try.func21, Try.ntmps21
  go_wp2_with fail
  go_loopw [3, 4] (fun bv iv wr => ∃ b i : Nat, bv = .int .i64 (b : Int) ∧ iv = .int .i64 (i : Int) ∧ 1 ≤ i ∧ i ≤ K.length ∧ BestOf K b i ∧ ∃ nd, wr = (w.alloc (.cells #[.slice aI K.length cI, .slice (some ⟨bK, oK, none⟩) K.length cK, .slice (some ⟨bT, oT, none⟩) K.length cT, .int .i64 t] 46)).drewN nd) (fun _ iv _ => K.length - (intOf iv).toNat)
  case atStart => exact ⟨0, 1, rfl, rfl, by omega, by omega, ⟨by omega, fun x hx => ⟨fun j y hj hy => (by obtain rfl : j = 0 := (by omega); rw [hx] at hy; simp at hy; omega), fun j y hj _ => (by omega)⟩⟩, 0, rfl⟩
  case round =>
    obtain ⟨b, i, rfl, rfl, hi1, hi2, hB, nd, rfl⟩ := hrel
    have HB := Lib.hid hB
    have hbi := hB.1
    clear hB
    by_cases hlt : i < K.length
    · obtain ⟨x, hx⟩ : ∃ x, K[i]? = some x := ⟨_, List.getElem?_eq_getElem hlt⟩
      obtain ⟨y, hy⟩ : ∃ y, K[b]? = some y := ⟨_, List.getElem?_eq_getElem (by omega)⟩
      have hTl : i < T.length := by rw [H2.out]; exact hlt
      obtain ⟨tx, htx⟩ : ∃ x, T[i]? = some x := ⟨_, List.getElem?_eq_getElem hTl⟩
      obtain ⟨ty, hty⟩ : ∃ y, T[b]? = some y := ⟨_, List.getElem?_eq_getElem (by omega)⟩
      have htlt : ty < tx := by
        have := List.pairwise_iff_getElem.1 HS.out b i (by omega) hTl hbi
        rw [(List.getElem?_eq_some_iff.1 htx).2, (List.getElem?_eq_some_iff.1 hty).2] at this
        exact this
      have c1 := (HA.out (.cells #[.slice aI K.length cI, .slice (some ⟨bK, oK, none⟩) K.length cK, .slice (some ⟨bT, oT, none⟩) K.length cT, .int .i64 t] 46)).cell (CK.out i x hx) (fun h => h)
      have c2 := (HA.out (.cells #[.slice aI K.length cI, .slice (some ⟨bK, oK, none⟩) K.length cK, .slice (some ⟨bT, oT, none⟩) K.length cT, .int .i64 t] 46)).cell (CK.out b y hy) (fun h => h)
      have c3 := (HA.out (.cells #[.slice aI K.length cI, .slice (some ⟨bK, oK, none⟩) K.length cK, .slice (some ⟨bT, oT, none⟩) K.length cT, .int .i64 t] 46)).cell (CT.out i tx htx) (fun h => h)
      have c4 := (HA.out (.cells #[.slice aI K.length cI, .slice (some ⟨bK, oK, none⟩) K.length cK, .slice (some ⟨bT, oT, none⟩) K.length cT, .int .i64 t] 46)).cell (CT.out b ty hty) (fun h => h)
      have i0 : (0 : Int) ≤ (i : Int) := by omega
      have i1 : (i : Int) < (K.length : Int) := by omega
      have b0 : (0 : Int) ≤ (b : Int) := by omega
      have b1 : (b : Int) < (K.length : Int) := by omega
      have HX := Lib.hid hx
      have HY := Lib.hid hy
      clear hx hy htx hty
      have hnext1 : y ≤ x → BestOf K b (i + 1) := fun hyx => ⟨by omega, fun z hz => by
        have e := HY.out.symm.trans hz; simp at e; subst e
        have h := HB.out.2 y HY.out
        refine ⟨fun j u hj hu => ?_, h.2⟩
        by_cases hji : j = i
        · subst hji; have e := HX.out.symm.trans hu; simp at e; omega
        · exact h.1 j u (by omega) hu⟩
      have hnext2 : x < y → BestOf K i (i + 1) := fun hyx => ⟨by omega, fun z hz => by
        have e := HX.out.symm.trans hz; simp at e; subst e
        have h := HB.out.2 y HY.out
        refine ⟨fun j u hj hu => ?_, fun j u hj hu => ?_⟩
        · by_cases hji : j = i
          · subst hji; have e := HX.out.symm.trans hu; simp at e; omega
          · have := h.1 j u (by omega) hu; omega
        · have := h.1 j u (by omega) hu; omega⟩
      have N1 := Lib.hid hnext1
      have N2 := Lib.hid hnext2
      clear hnext1 hnext2
      by_cases hxy : x < y
      · have d1 : decide (x < y) = true := by simpa using hxy
        go_wp2_with fail
        go_quiet (fail)
        go_step
        go_wp2_with fail
        go_roundw
        case rel => exact ⟨i, i + 1, rfl, by go_num, by omega, by omega, N2.out hxy, _, rfl⟩
        case measure => simp [intOf]; omega
      · have d1 : decide (x < y) = false := by simpa using hxy
        by_cases hex : x = y
        · have d2 : (x == y) = true := by simpa using hex
          have d3 : decide (tx < ty) = false := by simp; omega
          have hle : y ≤ x := by omega
          clear hex hxy
          go_wp2_with fail
          go_quiet (fail)
          go_step
          go_wp2_with fail
          go_roundw
          case rel => exact ⟨b, i + 1, rfl, by go_num, by omega, by omega, N1.out hle, _, rfl⟩
          case measure => simp [intOf]; omega
        · have d2 : (x == y) = false := by simpa using hex
          have hle : y ≤ x := by omega
          clear hex hxy
          go_wp2_with fail
          go_quiet (fail)
          go_step
          go_wp2_with fail
          go_roundw
          case rel => exact ⟨b, i + 1, rfl, by go_num, by omega, by omega, N1.out hle, _, rfl⟩
          case measure => simp [intOf]; omega
    · obtain rfl : i = K.length := by omega
      go_wp2_with fail
      go_ret
      exact ⟨b, rfl, HB.out, (HA.out _).drewN _⟩

end Go.Proofs.Ytlghadoejmnllaa
