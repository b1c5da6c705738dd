/- deepening's reference: a round over the arcs of a list of states, in plain Lean. helmsmanref5.round: a search with a bound over the arcs. helmsmanref5.Rounds: the bounds of the searches, and how many states they visit. deepening: plain facts for the laws. The five laws about deepening, walked. No condition beyond what each theorem says. -/
import Derived.Test.YtkjmgafnaddhkaaGreatJ5
import Derived.Test.YtkjmgafnaddhkaaGreatJ4
import Derived.Test.YtkjmgafnaddhkaaGreatJ13
import Derived.Test.YtkjmgafnaddhkaaGreatJ12
import Derived.Test.YtkjmgafnaddhkaaGreatJ11
import Derived.Test.YtkjmgafnaddhkaaGreatJ8
import Derived.Test.YtkjmgafnaddhkaaGreatJ9
import Derived.Test.YtkjmgafnaddhkaaGreatJ14
import Derived.BigQuiet

namespace Go.Proofs.YtkjmgafnaddhkaaGreat

/-- A way of the arcs on which every place behind the first is worth no more than the bound. -/
inductive WalkB (A : List Arc) (h : List Int) (b : Int) : Nat → Int → Prop
  | nil : WalkB A h b 0 0
  | snoc {a : Arc} {c v : Int} : WalkB A h b a.frm c → a ∈ A → h[a.to]? = some v → v < 1000000000 → c + a.cost + v ≤ b → WalkB A h b a.to (c + a.cost)

structure RdI (A : List Arc) (h : List Int) (b : Int) (W : Int) (n : Nat) (d : List Int) : Prop where
  len : d.length = n
  lo : ∀ x ∈ d, -1 ≤ x
  hi : ∀ x ∈ d, x ≤ (known d : Int) * W
  start : d[0]? = some 0
  real : ∀ (i : Nat) (x : Int), d[i]? = some x → 0 ≤ x → WalkB A h b i x
/-- Nothing is gained by an arc. -/
def stableB (h : List Int) (b : Int) (d : List Int) (a : Arc) : Prop := ∀ x v, d[a.frm]? = some x → 0 ≤ x → h[a.to]? = some v → v < 1000000000 → x + a.cost + v ≤ b → ∃ y, d[a.to]? = some y ∧ 0 ≤ y ∧ y ≤ x + a.cost

theorem RdI.step {A : List Arc} {h : List Int} {b W : Int} {n : Nat} {d : List Int} (hd : RdI A h b W n d) {a : Arc} (ha : a ∈ A) (hw0 : 0 ≤ a.cost) (hwW : a.cost ≤ W) {x y v : Int} (hx : d[a.frm]? = some x) (hy : d[a.to]? = some y) (hx0 : 0 ≤ x) (hv : h[a.to]? = some v) (hvI : v < 1000000000) (hb : x + a.cost + v ≤ b) (hxy : y < 0 ∨ x + a.cost < y) :
    RdI A h b W n (d.set a.to (x + a.cost)) ∧ weightP ((n : Int) * W) (d.set a.to (x + a.cost)) < weightP ((n : Int) * W) d ∧ x + a.cost ≤ (n : Int) * W := by
  have htl := (List.getElem?_eq_some_iff.1 hy).1
  have hz : (0 : Int) ≤ x + a.cost := by omega
  have hkn := known_set hy hz
  have hxk := hd.hi x (List.mem_of_getElem? hx)
  have hyk := hd.hi y (List.mem_of_getElem? hy)
  have hkl := known_le (d.set a.to (x + a.cost))
  rw [List.length_set, hd.len] at hkl
  have hW0 : 0 ≤ W := by omega
  have hmono : ∀ {p q : Nat}, p ≤ q → (p : Int) * W ≤ (q : Int) * W := fun hpq => Int.mul_le_mul_of_nonneg_right (by omega) hW0
  have hkk : known d ≤ known (d.set a.to (x + a.cost)) := by rw [hkn]; omega
  have hbnd : x + a.cost ≤ (known (d.set a.to (x + a.cost)) : Int) * W := by
    by_cases hy0 : 0 ≤ y
    · have := hmono hkk; omega
    · have e : known (d.set a.to (x + a.cost)) = known d + 1 := by rw [hkn, if_neg hy0]
      rw [e]
      have : ((known d + 1 : Nat) : Int) * W = (known d : Int) * W + W := by rw [Int.natCast_add, Int.add_mul]; simp
      omega
  have hnW := hmono hkl
  refine ⟨⟨by rw [List.length_set]; exact hd.len, fun z hz' => ?_, fun z hz' => ?_, ?_, fun i z hz' h0 => ?_⟩, weightP_set hy hz (by omega) hxy, by omega⟩
  · rcases List.mem_or_eq_of_mem_set hz' with hz' | rfl
    · exact hd.lo z hz'
    · omega
  · rcases List.mem_or_eq_of_mem_set hz' with hz' | rfl
    · have := hd.hi z hz'; have := hmono hkk; omega
    · exact hbnd
  · rw [getElem?_setS]
    by_cases hi : a.to = 0
    · have h0 := hd.start
      rw [← hi, hy] at h0
      simp only [Option.some.injEq] at h0
      omega
    · rw [if_neg (by simp [hi])]; exact hd.start
  · rw [getElem?_setS] at hz'
    by_cases hi : a.to = i
    · subst hi
      rw [if_pos ⟨rfl, htl⟩] at hz'
      simp only [Option.some.injEq] at hz'
      rw [← hz']
      exact .snoc (hd.real a.frm x hx hx0) ha hv hvI hb
    · rw [if_neg (by simp [hi])] at hz'
      exact hd.real i z hz' h0
theorem RdI.init (A : List Arc) (h : List Int) (b : Int) {W : Int} (hW : 0 ≤ W) {n : Nat} (hs : 0 < n) : RdI A h b W n ((List.replicate n (-1 : Int)).set 0 0) := by
  refine ⟨by simp, fun x hx => ?_, fun x hx => ?_, by rw [getElem?_setS, if_pos ⟨rfl, by simpa using hs⟩], fun i x hx h0 => ?_⟩
  · rcases List.mem_or_eq_of_mem_set hx with hx | rfl
    · rw [List.eq_of_mem_replicate hx]; omega
    · omega
  · rw [known_start n 0 hs]
    rcases List.mem_or_eq_of_mem_set hx with hx | rfl
    · rw [List.eq_of_mem_replicate hx]; omega
    · omega
  · rw [getElem?_setS] at hx
    by_cases hi : 0 = i
    · subst hi
      rw [if_pos ⟨rfl, by simpa using hs⟩] at hx
      simp only [Option.some.injEq] at hx
      rw [← hx]; exact .nil
    · rw [if_neg (by simp [hi]), List.getElem?_replicate] at hx
      split at hx
      · simp only [Option.some.injEq] at hx; omega
      · cases hx
structure RdOk (A : List Arc) (h : List Int) (b : Int) (n : Nat) (d : List Int) : Prop where
  len : d.length = n
  lo : ∀ x ∈ d, -1 ≤ x
  start : d[0]? = some 0
  real : ∀ (i : Nat) (x : Int), d[i]? = some x → 0 ≤ x → WalkB A h b i x
  relax : ∀ a ∈ A, stableB h b d a
theorem stableB_of {h : List Int} {b : Int} {d : List Int} {a : Arc} {x y v : Int} (hx : d[a.frm]? = some x) (hy : d[a.to]? = some y) (hv : h[a.to]? = some v) (hh : x < 0 ∨ 1000000000 ≤ v ∨ b < x + a.cost + v ∨ (0 ≤ y ∧ y ≤ x + a.cost)) : stableB h b d a := by
  intro z u hz h0 hu hlt hle
  rw [hx] at hz; cases hz
  rw [hv] at hu; cases hu
  rcases hh with hh | hh | hh | hh
  · omega
  · omega
  · omega
  · exact ⟨y, hy, hh⟩
theorem stableB_take {h : List Int} {b : Int} {d : List Int} {A : List Arc} {i : Nat} {a : Arc} (ha : A[i]? = some a) (hs : stableB h b d a) (hh : ∀ c ∈ A.take i, stableB h b d c) : ∀ c ∈ A.take (i + 1), stableB h b d c := by
  intro c hc
  rw [take_getS ha] at hc
  rcases List.mem_append.1 hc with hc | hc
  · exact hh c hc
  · simp at hc; subst hc; exact hs
theorem RdOk.bound {A : List Arc} {h : List Int} {b : Int} {n : Nat} {d : List Int} (hd : RdOk A h b n d) (h0 : ∀ v ∈ h, 0 ≤ v) {i : Nat} {x : Int} (hx : d[i]? = some x) (hn : 0 ≤ x) : x = 0 ∨ x ≤ b := by
  have hw := hd.real i x hx hn
  cases hw with
  | nil => exact .inl rfl
  | snoc _ _ hv _ hb => have := h0 _ (List.mem_of_getElem? hv); exact .inr (by omega)

/-! ### the places and the states -/
/-- What a row of costs says of a state. -/
def cOf (L : List Nat) (d : List Int) (x : Nat) : Option Int := match L.idxOf? x with
  | some i => (d[i]?).bind fun c => if 0 ≤ c then some c else none
  | none => none
theorem idxOf?_at {L : List Nat} (hn : L.Nodup) {i x : Nat} (h : L[i]? = some x) : L.idxOf? x = some i := by
  cases hi : L.idxOf? x with
  | none =>
    rw [List.idxOf?_eq_none_iff] at hi
    exact absurd (List.mem_of_getElem? h) hi
  | some j =>
    have hj : L[j]? = some x := by
      unfold List.idxOf? at hi
      rw [List.findIdx?_eq_some_iff_getElem] at hi
      obtain ⟨hl, he, _⟩ := hi
      rw [List.getElem?_eq_getElem hl]
      simpa using he
    rw [nodup_ix hn hj h]
theorem cOf_at {L : List Nat} (hn : L.Nodup) {d : List Int} {i x : Nat} {c : Int} (h : L[i]? = some x) (hd : d[i]? = some c) : cOf L d x = if 0 ≤ c then some c else none := by
  unfold cOf
  rw [idxOf?_at hn h]
  simp [hd]
theorem cOf_some {L : List Nat} {d : List Int} {x : Nat} {c : Int} (h : cOf L d x = some c) : ∃ i : Nat, L[i]? = some x ∧ d[i]? = some c ∧ 0 ≤ c := by
  unfold cOf at h
  cases hi : L.idxOf? x with
  | none => rw [hi] at h; cases h
  | some i =>
    rw [hi] at h
    simp only at h
    have hj : L[i]? = some x := by
      unfold List.idxOf? at hi
      rw [List.findIdx?_eq_some_iff_getElem] at hi
      obtain ⟨hl, he, _⟩ := hi
      rw [List.getElem?_eq_getElem hl]
      simpa using he
    cases hd : d[i]? with
    | none => rw [hd] at h; cases h
    | some c' =>
      rw [hd] at h
      simp only [Option.bind_some] at h
      split at h
      · cases h; exact ⟨i, hj, hd, by assumption⟩
      · cases h
section
variable {ops : List Wop} {L : List Nat} {st : Nat} {H : Nat → Int} {b : Int} {d : List Int}
theorem walkB_run (h0 : L[0]? = some st) {i : Nat} {c : Int} (h : WalkB (arcs ops L) (L.map H) b i c) : ∃ x q vs, L[i]? = some x ∧ BWay ops st H b x q vs ∧ costN ops q = c := by
  induction h with
  | nil => exact ⟨st, [], [st], h0, .nil, rfl⟩
  | @snoc a c v _ ha hv hlt hb ih =>
    obtain ⟨x, q, vs, h1, h2, h3⟩ := ih
    obtain ⟨x', o, g1, g2, g3, g4, g5⟩ := mem_arcs.1 ha
    rw [h1] at g1; cases g1
    rw [List.getElem?_map, g5] at hv
    simp only [Option.map_some, Option.some.injEq] at hv
    exact ⟨_, _, _, g5, .snoc h2 g2 g3 (by omega) (by omega), by rw [costN_snocB g2]; omega⟩
theorem run_walkB (hsh : Shut ops L) (h0 : L[0]? = some st) {x : Nat} {q vs : List Nat} (h : BWay ops st H b x q vs) : ∃ i, L[i]? = some x ∧ WalkB (arcs ops L) (L.map H) b i (costN ops q) := by
  induction h with
  | nil => exact ⟨0, h0, .nil⟩
  | @snoc x q vs a o _ ho hc hH hb ih =>
    obtain ⟨i, hi, hw⟩ := ih
    have hm := hsh.2 x (List.mem_of_getElem? hi) o (List.mem_of_getElem? ho) hc
    obtain ⟨j, hj⟩ := List.mem_iff_getElem?.1 hm
    have := WalkB.snoc (a := ⟨i, j, a, o.cost⟩) (v := H (o.next x)) hw (mem_arcs.2 ⟨x, o, hi, ho, hc, rfl, hj⟩) (by rw [List.getElem?_map, hj]; rfl) hH hb
    exact ⟨j, hj, by rw [costN_snocB ho]; exact this⟩
theorem RdOk.all {A : List Arc} {h : List Int} {n : Nat} (hd : RdOk A h b n d) {i : Nat} {c : Int} (hw : WalkB A h b i c) : ∃ x, d[i]? = some x ∧ 0 ≤ x ∧ x ≤ c := by
  induction hw with
  | nil => exact ⟨0, hd.start, Int.le_refl _, Int.le_refl _⟩
  | @snoc a c v _ ha hv hlt hb ih =>
    obtain ⟨x, h1, h2, h3⟩ := ih
    obtain ⟨y, h4, h5, h6⟩ := hd.relax a ha x v h1 h2 hv hlt (by omega)
    exact ⟨y, h4, h5, by omega⟩
theorem RdOk.rnd (hsh : Shut ops L) (h0 : L[0]? = some st) (hd : RdOk (arcs ops L) (L.map H) b L.length d) : RndOk ops st L H b (cOf L d) := by
  refine ⟨fun x c hc => ?_, fun x c hc => ?_, fun x q vs hw => ?_⟩
  · obtain ⟨i, h1, _⟩ := cOf_some hc
    exact List.mem_of_getElem? h1
  · obtain ⟨i, h1, h2, h3⟩ := cOf_some hc
    obtain ⟨x', q, vs, g1, g2, g3⟩ := walkB_run h0 (hd.real i c h2 h3)
    rw [h1] at g1; cases g1
    exact ⟨q, vs, g2, g3⟩
  · obtain ⟨i, h1, h2⟩ := run_walkB hsh h0 hw
    obtain ⟨c, h3, h4, h5⟩ := hd.all h2
    exact ⟨c, by rw [cOf_at hsh.1 h1 h3, if_pos h4], h5⟩
/-- How many of the first places have a cost. -/
def visK (d : List Int) : Nat → Nat
  | 0 => 0
  | k + 1 => visK d k + (if 0 ≤ d[k]?.getD (-1) then 1 else 0)
def endK (d : List Int) (g : List Bool) : Nat → Bool
  | 0 => false
  | k + 1 => endK d g k || (decide (0 ≤ d[k]?.getD (-1)) && g[k]?.getD false)
/-- The least worth above the bound on the first arcs. -/
def nxtK (h d : List Int) (b : Int) (A : List Arc) : Nat → Int
  | 0 => 1000000000
  | k + 1 => match A[k]? with
    | some a => if 0 ≤ d[a.frm]?.getD (-1) ∧ h[a.to]?.getD 0 < 1000000000 ∧ b < d[a.frm]?.getD (-1) + a.cost + h[a.to]?.getD 0 ∧ d[a.frm]?.getD (-1) + a.cost + h[a.to]?.getD 0 < nxtK h d b A k then d[a.frm]?.getD (-1) + a.cost + h[a.to]?.getD 0 else nxtK h d b A k
    | none => nxtK h d b A k
theorem visK_le (d : List Int) : ∀ k, visK d k ≤ k
  | 0 => Nat.le_refl _
  | k + 1 => by have := visK_le d k; unfold visK; split <;> omega
theorem visK_is (hn : L.Nodup) (hl : d.length = L.length) : ∀ k, k ≤ L.length → visK d k = nVis (L.take k) (cOf L d)
  | 0, _ => by rw [visK, List.take_zero]; rfl
  | k + 1, hk => by
    have ih := visK_is hn hl k (by omega)
    obtain ⟨x, hx⟩ : ∃ x, L[k]? = some x := ⟨_, List.getElem?_eq_getElem (by omega)⟩
    obtain ⟨c, hc⟩ : ∃ c, d[k]? = some c := ⟨_, List.getElem?_eq_getElem (by omega)⟩
    have e := cOf_at hn hx hc
    unfold nVis at ih ⊢
    rw [visK, take_getS hx, List.filter_append, List.length_append, ih, hc]
    simp only [Option.getD_some]
    by_cases h0 : 0 ≤ c
    · rw [if_pos h0] at e ⊢; simp [e]
    · rw [if_neg h0] at e ⊢; simp [e]
theorem endK_is (hn : L.Nodup) (hl : d.length = L.length) (acc : Nat → Bool) : ∀ k, k ≤ L.length → endK d (L.map acc) k = endsB (L.take k) acc (cOf L d)
  | 0, _ => by rw [endK, List.take_zero]; rfl
  | k + 1, hk => by
    have ih := endK_is hn hl acc k (by omega)
    obtain ⟨x, hx⟩ : ∃ x, L[k]? = some x := ⟨_, List.getElem?_eq_getElem (by omega)⟩
    obtain ⟨c, hc⟩ : ∃ c, d[k]? = some c := ⟨_, List.getElem?_eq_getElem (by omega)⟩
    have e := cOf_at hn hx hc
    unfold endsB at ih ⊢
    rw [endK, take_getS hx, List.any_append, ih, hc, List.getElem?_map, hx]
    simp only [Option.getD_some, Option.map_some, List.any_cons, List.any_nil, Bool.or_false]
    by_cases h0 : 0 ≤ c
    · rw [if_pos h0] at e; simp [e, h0]
    · rw [if_neg h0] at e; simp [e, h0]
theorem nxtK_le (h d : List Int) (b : Int) (A : List Arc) : ∀ k, nxtK h d b A k ≤ 1000000000
  | 0 => Int.le_refl _
  | k + 1 => by
    have ih := nxtK_le h d b A k
    unfold nxtK
    split
    · split <;> omega
    · exact ih
theorem nxtK_is (hsh : Shut ops L) (hl : d.length = L.length) : NextOk ops H b (cOf L d) (nxtK (L.map H) d b (arcs ops L) (arcs ops L).length) := by
  have cand : ∀ a ∈ arcs ops L, 0 ≤ d[a.frm]?.getD (-1) → (L.map H)[a.to]?.getD 0 < 1000000000 → b < d[a.frm]?.getD (-1) + a.cost + (L.map H)[a.to]?.getD 0 → Cand ops H b (cOf L d) (d[a.frm]?.getD (-1) + a.cost + (L.map H)[a.to]?.getD 0) := by
    intro a ha h1 h2 h3
    obtain ⟨x, o, g1, g2, g3, g4, g5⟩ := mem_arcs.1 ha
    obtain ⟨c, hc⟩ : ∃ c, d[a.frm]? = some c := ⟨_, List.getElem?_eq_getElem (by rw [hl]; exact (List.getElem?_eq_some_iff.1 g1).1)⟩
    have e : (L.map H)[a.to]? = some (H (o.next x)) := by rw [List.getElem?_map, g5]; rfl
    rw [hc, e] at h3 ⊢
    rw [hc] at h1
    rw [e] at h2
    simp only [Option.getD_some] at h1 h2 h3 ⊢
    exact ⟨x, c, o, by rw [cOf_at hsh.1 g1 hc, if_pos h1], List.mem_of_getElem? g2, g3, h2, by rw [g4], h3⟩
  have key : ∀ k, k ≤ (arcs ops L).length → (nxtK (L.map H) d b (arcs ops L) k = 1000000000 ∨ Cand ops H b (cOf L d) (nxtK (L.map H) d b (arcs ops L) k)) ∧ ∀ a ∈ (arcs ops L).take k, 0 ≤ d[a.frm]?.getD (-1) → (L.map H)[a.to]?.getD 0 < 1000000000 → b < d[a.frm]?.getD (-1) + a.cost + (L.map H)[a.to]?.getD 0 → nxtK (L.map H) d b (arcs ops L) k ≤ d[a.frm]?.getD (-1) + a.cost + (L.map H)[a.to]?.getD 0 := by
    intro k
    induction k with
    | zero => intro _; exact ⟨.inl rfl, fun a ha => by simp at ha⟩
    | succ k ih =>
      intro hk
      obtain ⟨i1, i2⟩ := ih (by omega)
      obtain ⟨a, ha⟩ : ∃ a, (arcs ops L)[k]? = some a := ⟨_, List.getElem?_eq_getElem (by omega)⟩
      have ham := List.mem_of_getElem? ha
      rw [nxtK, ha]
      simp only
      refine ⟨?_, fun c hc h1 h2 h3 => ?_⟩
      · split
        · rename_i hh; exact .inr (cand a ham hh.1 hh.2.1 hh.2.2.1)
        · exact i1
      · rw [take_getS ha] at hc
        rcases List.mem_append.1 hc with hc | hc
        · have := i2 c hc h1 h2 h3
          split
          · rename_i hh; omega
          · exact this
        · rw [List.mem_singleton] at hc
          subst hc
          split
          · exact Int.le_refl _
          · rename_i hh
            exact Int.not_lt.1 (fun hlt => hh ⟨h1, h2, h3, hlt⟩)
  obtain ⟨k1, k2⟩ := key _ (Nat.le_refl _)
  refine ⟨nxtK_le _ _ _ _ _, k1, fun u hu => ?_⟩
  obtain ⟨x, c, o, hc, ho, hcan, hHo, rfl, hb⟩ := hu
  obtain ⟨i, hi, hd, hc0⟩ := cOf_some hc
  obtain ⟨j, hj⟩ := List.mem_iff_getElem?.1 (hsh.2 x (List.mem_of_getElem? hi) o ho hcan)
  obtain ⟨m, hm⟩ := List.mem_iff_getElem?.1 ho
  have ha : (⟨i, j, m, o.cost⟩ : Arc) ∈ arcs ops L := mem_arcs.2 ⟨x, o, hi, hm, hcan, rfl, hj⟩
  have e : (L.map H)[j]? = some (H (o.next x)) := by rw [List.getElem?_map, hj]; rfl
  have := k2 _ (by rw [List.take_length]; exact ha)
  simp only [hd, e, Option.getD_some] at this
  exact this hc0 hHo hb
end

end Go.Proofs.YtkjmgafnaddhkaaGreat

namespace Go.Proofs.YtkjmgafnaddhkaaGreat
open Go.RowKit Go.Shelf

def RdHead (w : World) (A : List Arc) (h : List Int) (b : Int) (n : Nat) (k : Nat) (v : Value) (wr : World) : Prop :=
  ∃ (d : List Int) (again : Bool), v = .bool again ∧ RdI A h b 100 n d ∧ DRow w n d wr ∧ (again = false → ∀ a ∈ A, stableB h b d a) ∧ k = 2 * weightP ((n : Int) * 100) d + (if again = true then 1 else 0)
def RdMid (w : World) (A : List Arc) (h : List Int) (b : Int) (n : Nat) (m : Nat) (i : Nat) (v : Value) (wr : World) : Prop :=
  ∃ (d : List Int) (again : Bool), v = .bool again ∧ RdI A h b 100 n d ∧ DRow w n d wr ∧ (again = false → ∀ a ∈ A.take i, stableB h b d a) ∧ weightP ((n : Int) * 100) d ≤ m ∧ (again = true → weightP ((n : Int) * 100) d < m)
def RoundPost (w : World) (A : List Arc) (h : List Int) (b : Int) (n : Nat) (gs : List Bool) (e : Ending) (w' : World) : Prop :=
  ∃ d, e = .returned (.tuple #[.slice (some ⟨w.heap.size, 0, none⟩) n n, .int .i64 (visK d n : Int), .bool (endK d gs n)]) ∧ RdOk A h b n d ∧ w'.ownsRow w.heap.size 3 1 (.slice (some ⟨w.heap.size, 0, none⟩) n n) n (d.map (Value.int .i64)) ∧ Keeps (fun _ => False) w w'
theorem visK_succ {d : List Int} {k : Nat} {c : Int} (h : d[k]? = some c) : visK d (k + 1) = visK d k + (if 0 ≤ c then 1 else 0) := by
  rw [visK, h]; rfl
theorem endK_succ {d : List Int} {gs : List Bool} {k : Nat} {c : Int} {g : Bool} (h : d[k]? = some c) (hg : gs[k]? = some g) : endK d gs (k + 1) = (endK d gs k || (decide (0 ≤ c) && g)) := by
  rw [endK, h, hg]; rfl

set_option maxRecDepth 100000 in
set_option maxHeartbeats 4000000 in
theorem round_any (w : World) (va vg vh : Value) (A : List Arc) (gs : List Bool) (hs : List Int) (bd : Int) (ha : ArcsAt w va A) (hg : Bools w vg gs) (hh : Ints w vh hs) (n : Nat) (hgn : gs.length = n) (hhn : hs.length = n) (hn0 : 0 < n) (hn : n ≤ 100000) (hA : ∀ a ∈ A, a.frm < n ∧ a.to < n ∧ 0 ≤ a.cost ∧ a.cost ≤ 100) (hH : ∀ v ∈ hs, 0 ≤ v ∧ v ≤ 1000000000) :
    Calls Tryz.prog 53 #[va, vg, vh, .int .i64 bd] w (RoundPost w A hs bd n gs) := by
  obtain ⟨i0, hi0, hz0, hz1, hz2⟩ := info_parts Tryz.info3
  obtain ⟨aa, ca, hva, ma⟩ := Sl.formN ha
  have CA := Lib.hid (ha.cell hva)
  obtain ⟨ag, cg, hvg, mg⟩ := Sl.formN hg
  obtain ⟨bg, og, hag, hcg⟩ := Sl.cellN hg hvg (by omega)
  obtain ⟨ah, ch, hvh, mh⟩ := hh.form
  obtain ⟨bh, oh, hah, hch⟩ := hh.cell hvh (by omega)
  have HCG := Lib.hid hcg; have HCH := Lib.hid hch
  have HLT := Lib.hid hA; have HHB := Lib.hid hH; have HGN := Lib.hid hgn; have HHN := Lib.hid hhn
  rw [hgn] at hvg mg
  rw [hhn] at hvh mh
  subst hva hvg hvh hag hah
  clear ha hg hh hcg hch hA hH hgn hhn
  go_enter Tryz.func53, Tryz.ntmps53
  go_wp2_with (at_make; refine wpList_make_full _ rfl _ _ 22 rfl w.heap.size 3 i0 (.int .i64 0) 1 Tryz.underlying22 hi0 hz0 hz1 .i64 .i64 _ _ n rfl rfl rfl rfl (by rw [hz2]; omega) (by unfold maxLen; omega) (Nat.le_refl _) ?_; intro w1 hown hgrow)
  obtain ⟨D0, hD0⟩ : ∃ D0, (List.replicate n (-1 : Int)).set 0 0 = D0 := ⟨_, rfl⟩
  have hD0l : D0.length = n := by rw [← hD0]; simp
  have hD00 : D0[0]? = some 0 := by rw [← hD0, getElem?_setS, if_pos ⟨rfl, by simpa using hn0⟩]
  have HD0S := Lib.hid (show ∀ i, 1 ≤ i → i < n → D0[i]? = some (-1) from fun i h1 h2 => by rw [← hD0, getElem?_setS, if_neg (by omega), List.getElem?_replicate, if_pos h2])
  have HIV := Lib.hid (show RdI A hs bd 100 n D0 by rw [← hD0]; exact RdI.init A hs bd (by omega) hn0)
  have HD0L := Lib.hid hD0l
  have hI : DRow w n (D0.take 1 ++ List.replicate (n - 1) 0) w1 := by
    refine ⟨?_, (Keeps.refl (fun _ => False) w).grown hgrow (fun k hk => by cases hk)⟩
    have e : (madeCells (Value.int .i64 0).cells (n * 1)).toList = (D0.take 1 ++ List.replicate (n - 1) 0).map (Value.int .i64) := by
      have e1 : D0.take 1 ++ List.replicate (n - 1) 0 = List.replicate n (0 : Int) := by
        obtain ⟨m, rfl⟩ : ∃ m, n = m + 1 := ⟨n - 1, by omega⟩
        cases D0 with
        | nil => simp at hD00
        | cons x r => simp at hD00; subst hD00; simp [List.replicate_succ]
      rw [e1, Nat.mul_one, List.map_replicate]
      exact toList_madeCells_one (.int .i64 0) n
    rw [e] at hown
    exact hown
  have HI := Lib.hid hI
  clear hI hown hgrow hD0 hD0l hD00
  go_loopw [12] (fun v6 wr => ∃ i : Nat, 1 ≤ i ∧ i ≤ n ∧ v6 = .int .i64 (i : Int) ∧ DRow w n (D0.take i ++ List.replicate (n - i) 0) wr) (fun v6 _ => n - (intOf v6).toNat)
  case atStart => exact ⟨1, by omega, by omega, rfl, HI.out⟩
  case round =>
    obtain ⟨i, hi1, hi, rfl, hR⟩ := hrel
    have HR := Lib.hid hR
    have hlw := hR.lt
    clear hR
    by_cases hlt : i < n
    · have HGS := Lib.hid (HD0S.out i hi1 hlt)
      have hD1 : (D0.take i ++ List.replicate (n - i) 0)[i]? = some 0 := by
        have ht : (D0.take i).length = i := by rw [List.length_take, HD0L.out]; omega
        rw [List.getElem?_append_right (by omega), ht, Nat.sub_self, List.getElem?_replicate, if_pos (by omega)]
      have q0 := HR.out.cell hD1
      have qf := HR.out.frozen i
      have HN := Lib.hid (show DRow w n (D0.take (i + 1) ++ List.replicate (n - (i + 1)) 0) (wr.setCell ⟨w.heap.size, i, none⟩ (.int .i64 (-1))) by
        rw [← fill_step HGS.out HD0L.out]; exact HR.out.set i (-1))
      clear hD1
      go_wp2_with fail
      go_roundw
      case rel => exact ⟨i + 1, by omega, by omega, by go_num, HN.out⟩
      case measure => simp [intOf]; omega
    · have HS := Lib.hid (show DRow w n D0 wr by
        have h := HR.out
        rw [List.take_of_length_le (by rw [HD0L.out]; omega), show n - i = 0 by omega, List.replicate_zero, List.append_nil] at h
        exact h)
      clear hi hi1
      go_wp2_with fail
      go_loopg [13] (2 * weightP ((n : Int) * 100) D0 + 1) (fun k' v7 wq => RdHead w A hs bd n k' v7 wq)
      case atStart => exact ⟨_, true, rfl, HIV.out, HS.out, (fun h => by cases h), by rw [if_pos rfl]⟩
      case round =>
        obtain ⟨d, again, rfl, hinv, hdr, hst, hgk⟩ := hrel
        have INV := Lib.hid hinv; have DR := Lib.hid hdr; have ST := Lib.hid hst; have HGK := Lib.hid hgk
        clear hinv hdr hst hgk
        cases again with
        | false =>
          have HDL := Lib.hid INV.out.len
          have OKD := Lib.hid (show RdOk A hs bd n d from ⟨INV.out.len, INV.out.lo, INV.out.start, INV.out.real, ST.out (by first | rfl | trivial)⟩)
          clear INV ST HGK HS HR
          go_wp2_with fail
          go_loopw [17, 18, 19] (fun v17 v18 v19 wq => ∃ j : Nat, j ≤ n ∧ v17 = .int .i64 (visK d j : Int) ∧ v18 = .bool (endK d gs j) ∧ v19 = .int .i64 (j : Int) ∧ DRow w n d wq) (fun _ _ v19 _ => n - (intOf v19).toNat)
          case atStart => exact ⟨0, Nat.zero_le _, rfl, rfl, rfl, DR.out⟩
          case round =>
            obtain ⟨j, hj, rfl, rfl, rfl, hdr⟩ := hrel
            have DR2 := Lib.hid hdr
            have hl2 := hdr.lt
            clear hdr
            by_cases hjl : j < n
            · obtain ⟨c, hc⟩ : ∃ c, d[j]? = some c := ⟨_, List.getElem?_eq_getElem (by rw [HDL.out]; exact hjl)⟩
              obtain ⟨gb, hgb⟩ : ∃ gb, gs[j]? = some gb := ⟨_, List.getElem?_eq_getElem (by rw [HGN.out]; exact hjl)⟩
              have cx := DR2.out.cell hc
              have cg0 := DR2.out.keeps.cell (HCG.out j (.bool gb) (by rw [List.getElem?_map, hgb]; rfl)) (fun h => h)
              have i0 : (0 : Int) ≤ (j : Int) := by omega
              have i1 : (j : Int) < (n : Int) := by omega
              have HV := Lib.hid (visK_succ hc)
              have HE := Lib.hid (endK_succ hc hgb)
              have hvb := visK_le d j
              generalize visK d j = vk at HV hvb ⊢
              generalize endK d gs j = ek at HE ⊢
              clear hc hgb
              by_cases hc0 : 0 ≤ c
              · have m1 : IntKind.i64.wrap ((vk : Int) + 1) = (vk : Int) + 1 := IntWalk.i64_in _ (by omega)
                cases ek with
                | true =>
                  go_wp2_with fail
                  go_roundw
                  case rel => exact ⟨j + 1, by omega, by rw [HV.out, if_pos hc0]; go_num, by rw [HE.out]; rfl, by go_num, DR2.out⟩
                  case measure => simp [intOf]; omega
                | false =>
                  go_wp2_with fail
                  go_roundw
                  case rel => exact ⟨j + 1, by omega, by rw [HV.out, if_pos hc0]; go_num, by rw [HE.out]; simp [hc0], by go_num, DR2.out⟩
                  case measure => simp [intOf]; omega
              · go_wp2_with fail
                go_roundw
                case rel => exact ⟨j + 1, by omega, by rw [HV.out, if_neg hc0]; go_num, by rw [HE.out]; simp [hc0], by go_num, DR2.out⟩
                case measure => simp [intOf]; omega
            · obtain rfl : j = n := by omega
              go_wp2_with fail
              refine bodyPost_ret (results_tmp3 rfl _ _ _) rfl ?_
              exact ⟨d, rfl, OKD.out, DR2.out.own, DR2.out.keeps⟩
        | true =>
          go_wp2_with fail
          go_loopw [13, 14] (fun v7 v8 wq => ∃ j : Nat, j ≤ A.length ∧ v8 = .int .i64 (j : Int) ∧ RdMid w A hs bd n (weightP ((n : Int) * 100) d) j v7 wq) (fun _ v8 _ => A.length - (intOf v8).toNat)
          case atStart => exact ⟨0, Nat.zero_le _, rfl, d, false, rfl, INV.out, DR.out, (fun _ a ha => by simp at ha), Nat.le_refl _, (fun h => by cases h)⟩
          case round =>
            obtain ⟨j, hj, rfl, d2, ag2, rfl, hinv2, hdr2, hst2, hle2, hlt2⟩ := hrel
            have INV2 := Lib.hid hinv2; have DR2 := Lib.hid hdr2; have ST2 := Lib.hid hst2; have LE2 := Lib.hid hle2; have LT2 := Lib.hid hlt2
            have hl2 := hdr2.lt
            clear hinv2 hdr2 hst2 hle2 hlt2
            by_cases hjl : j < A.length
            · obtain ⟨ba, oa, rfl, hcell⟩ := CA.out (by omega)
              obtain ⟨a, ha⟩ : ∃ a, A[j]? = some a := ⟨_, List.getElem?_eq_getElem hjl⟩
              obtain ⟨g0, g1, g2, g3⟩ := hcell j a ha
              have c0 := DR2.out.keeps.cell g0 (fun h => h)
              have c1 := DR2.out.keeps.cell g1 (fun h => h)
              have c2 := DR2.out.keeps.cell g2 (fun h => h)
              have c3 := DR2.out.keeps.cell g3 (fun h => h)
              have HA := Lib.hid ha
              obtain ⟨hf, ht, hc0, hc1⟩ := HLT.out a (List.mem_of_getElem? ha)
              have hdl := DR2.out.len
              obtain ⟨x, hx⟩ : ∃ x, d2[a.frm]? = some x := ⟨_, List.getElem?_eq_getElem (by omega)⟩
              obtain ⟨y, hy⟩ : ∃ y, d2[a.to]? = some y := ⟨_, List.getElem?_eq_getElem (by omega)⟩
              obtain ⟨hv, hhv⟩ : ∃ hv, hs[a.to]? = some hv := ⟨_, List.getElem?_eq_getElem (by rw [HHN.out]; omega)⟩
              obtain ⟨hv0, hv1⟩ := HHB.out hv (List.mem_of_getElem? hhv)
              have hxk : x ≤ 10000000 := by
                have h1 := INV2.out.hi x (List.mem_of_getElem? hx)
                have h2 := known_le d2
                omega
              have hxl := INV2.out.lo x (List.mem_of_getElem? hx)
              have HX := Lib.hid hx; have HY := Lib.hid hy; have HV := Lib.hid hhv
              have KA := Lib.hid ((Keeps.refl (fun _ => False) wr).alloc (.cells #[.int .i64 (a.frm : Int), .int .i64 (a.to : Int), .int .i64 (a.op : Int), .int .i64 a.cost] 92))
              have F4 := Lib.hid (Four.new wr (.int .i64 (a.frm : Int)) (.int .i64 (a.to : Int)) (.int .i64 (a.op : Int)) (.int .i64 a.cost) 92)
              have DR3 := Lib.hid (DR2.out.keeps0 KA.out)
              clear hcell g0 g1 g2 g3 ha hdl hx hy hhv DR2 DR HS
              go_upto_region 13 with fail
              obtain ⟨b9, hb9⟩ : ∃ b9, wr.heap.size = b9 := ⟨_, rfl⟩
              rw [hb9] at F4 hl2 ⊢
              clear c0 c1 c2 c3
              generalize (wr.alloc (.cells #[.int .i64 (a.frm : Int), .int .i64 (a.to : Int), .int .i64 (a.op : Int), .int .i64 a.cost] 92)) = w5 at DR3 F4 ⊢
              clear KA hb9
              have hl9 := F4.out.lt
              have hl5 := DR3.out.lt
              obtain ⟨f0, f1, f2, f3⟩ := F4.out
              have cx := DR3.out.cell HX.out
              have i0 : (0 : Int) ≤ (a.frm : Int) := by omega
              have i1 : (a.frm : Int) < (n : Int) := by omega
              have b0 : (0 : Int) ≤ (a.to : Int) := by omega
              have b1 : (a.to : Int) < (n : Int) := by omega
              have m2 : IntKind.i64.wrap (x + a.cost) = x + a.cost := IntWalk.i64_in _ (by omega)
              go_quiet (fail)
              clear m2
              have kd := (Keeps.refl (fun _ => False) w5).drewN nq
              have hl9' := Nat.lt_of_lt_of_le hl9 kd.size
              have hl5' := Nat.lt_of_lt_of_le hl5 kd.size
              have f0' := kd.cell f0 (fun h => h)
              have f1' := kd.cell f1 (fun h => h)
              have cx' := kd.cell cx (fun h => h)
              have DR6 := Lib.hid (DR3.out.keeps0 kd)
              clear kd hl9 hl5 f0 f1 f2 f3 cx DR3 F4
              generalize w5.drewN nq = w6 at hl9' hl5' f0' f1' cx' DR6 ⊢
              generalize hv16 : x + a.cost = v16
              have HNV := Lib.hid hv16.symm
              have m3 : IntKind.i64.wrap (v16 + hv) = v16 + hv := IntWalk.i64_in _ (by omega)
              clear hv16
              have cy := DR6.out.cell HY.out
              have fy := DR6.out.frozen a.to
              have ch0 := DR6.out.keeps.cell (HCH.out a.to hv HV.out) (fun h => h)
              have skip : stableB hs bd d2 a → ∃ j' : Nat, j' ≤ A.length ∧ Value.int .i64 ((j : Int) + 1) = .int .i64 (j' : Int) ∧ RdMid w A hs bd n (weightP ((n : Int) * 100) d) j' (.bool ag2) w6 := fun hst =>
                ⟨j + 1, by omega, by simp, d2, ag2, rfl, INV2.out, DR6.out, (fun h => stableB_take HA.out hst (ST2.out h)), LE2.out, LT2.out⟩
              have SKIP := Lib.hid skip
              clear skip
              by_cases hx0 : 0 ≤ x
              · by_cases hvI : hv < 1000000000
                · by_cases hbd : v16 + hv ≤ bd
                  · by_cases hup : y < 0 ∨ v16 < y
                    · have HN := Lib.hid (INV2.out.step (List.mem_of_getElem? HA.out) hc0 hc1 HX.out HY.out hx0 HV.out hvI (by rw [← HNV.out]; exact hbd) (by rw [← HNV.out]; exact hup))
                      have FIN := Lib.hid (show RdMid w A hs bd n (weightP ((n : Int) * 100) d) (j + 1) (.bool true) (w6.setCell ⟨w.heap.size, a.to, none⟩ (.int .i64 v16)) from by
                        obtain ⟨n1, n2, _⟩ := HN.out
                        have h1 := LE2.out
                        rw [HNV.out]
                        exact ⟨d2.set a.to (x + a.cost), true, rfl, n1, DR6.out.set a.to _, (fun h => by cases h), by omega, (fun _ => by omega)⟩)
                      by_cases hy0 : y < 0
                      case' pos => clear hup
                      case' neg =>
                        have hup2 : v16 < y := by omega
                        clear hup
                      all_goals
                        go_wp2_with fail
                        go_roundw
                        case rel => exact ⟨j + 1, by omega, by go_num, FIN.out⟩
                        case measure => simp [intOf]; omega
                    · have hy0 : ¬ y < 0 := fun h => hup (.inl h)
                      have hvy : ¬ v16 < y := fun h => hup (.inr h)
                      have HST := Lib.hid (SKIP.out (stableB_of HX.out HY.out HV.out (.inr (.inr (.inr ⟨by omega, by have := HNV.out; omega⟩)))))
                      clear hup
                      go_wp2_with fail
                      go_roundw
                      case rel => exact HST.out
                      case measure => simp [intOf]; omega
                  · have HST := Lib.hid (SKIP.out (stableB_of HX.out HY.out HV.out (.inr (.inr (.inl (by have := HNV.out; omega))))))
                    go_wp2_with fail
                    go_roundw
                    case rel => exact HST.out
                    case measure => simp [intOf]; omega
                · have HST := Lib.hid (SKIP.out (stableB_of HX.out HY.out HV.out (.inr (.inl (by omega)))))
                  go_wp2_with fail
                  go_roundw
                  case rel => exact HST.out
                  case measure => simp [intOf]; omega
              · have HST := Lib.hid (SKIP.out (stableB_of HX.out HY.out HV.out (.inl (by omega))))
                go_wp2_with fail
                go_roundw
                case rel => exact HST.out
                case measure => simp [intOf]; omega
            · have HTK : Hid (A.take j = A) := by unfold Hid; exact List.take_of_length_le (by omega)
              have HGD := Lib.hid (show RdHead w A hs bd n (2 * weightP ((n : Int) * 100) d2 + (if ag2 = true then 1 else 0)) (.bool ag2) wr from ⟨d2, ag2, rfl, INV2.out, DR2.out, (fun h => by have := ST2.out h; rwa [HTK.out] at this), rfl⟩)
              go_wp2_with fail
              go_roundg (2 * weightP ((n : Int) * 100) d2 + (if ag2 = true then 1 else 0))
              case rel => exact HGD.out
              case measure =>
                have h1 := HGK.out
                have h2 := LE2.out
                have h3 := LT2.out
                cases ag2
                · rw [if_neg (by simp)]; simp at h1; omega
                · rw [if_pos rfl]; have := h3 rfl; simp at h1; omega

end Go.Proofs.YtkjmgafnaddhkaaGreat

namespace Go.Proofs.YtkjmgafnaddhkaaGreat
open Go.RowKit Go.Shelf

theorem RunTo.len {ops : List Wop} {st : Nat} {L : List Nat} {acc : Nat → Bool} {H : Nat → Int} (h0 : 0 ≤ H st) {bs : List Int} {n b : Int} (h : RunTo ops st L acc H bs n b) : (bs.length : Int) ≤ b ∧ 0 ≤ n ∧ n ≤ (L.length : Int) * b := by
  induction h with
  | start => exact ⟨h0, Int.le_refl _, Int.mul_nonneg (by omega) h0⟩
  | @step bs n b v C _ hb _ _ hv ih =>
    have h1 := hv.gt hb
    have h2 := nVis_le L C
    have h3 : (L.length : Int) * (b + 1) ≤ (L.length : Int) * v := Int.mul_le_mul_of_nonneg_left (by omega) (by omega)
    rw [Int.mul_add, Int.mul_one] at h3
    rw [List.length_append, List.length_singleton]
    exact ⟨by omega, by omega, by omega⟩

theorem nxtK_succ {h d : List Int} {b : Int} {A : List Arc} {k : Nat} {a : Arc} {x v : Int} (ha : A[k]? = some a) (hx : d[a.frm]? = some x) (hv : h[a.to]? = some v) :
    nxtK h d b A (k + 1) = if 0 ≤ x ∧ v < 1000000000 ∧ b < x + a.cost + v ∧ x + a.cost + v < nxtK h d b A k then x + a.cost + v else nxtK h d b A k := by
  rw [nxtK, ha]
  simp only [hx, hv, Option.getD_some]

/-- Between two rounds. -/
def RdsI (ops : List Wop) (st : Nat) (L : List Nat) (acc : Nat → Bool) (H : Nat → Int) (w : World) (vo vn vb : Value) (wr : World) : Prop :=
  ∃ (bs : List Int) (n b : Int), vn = .int .i64 n ∧ vb = .int .i64 b ∧ RunTo ops st L acc H bs n b ∧ wr.ownsRow w.heap.size 3 1 vo bs.length (bs.map (Value.int .i64)) ∧ Keeps (fun _ => False) w wr

set_option maxRecDepth 100000 in
set_option maxHeartbeats 4000000 in
theorem refRounds_any (w : World) (vi vg vo vl vh : Value) (t : Tsk) (ws : List Nat) (H : Nat → Int) (h : TaskAt w vi vg vo t) (ok : t.Ok) (hl : Lists w vl (ws.map facts)) (hgood : ∀ x ∈ ws, Good t.n x) (hh : Ints w vh (ws.map H)) (hst : ws[0]? = some (wd t.init)) (hsh : Shut (wordsOf t.ops) ws) (hfew : ws.length ≤ 2000) (hcost : ∀ o ∈ wordsOf t.ops, 0 ≤ o.cost ∧ o.cost ≤ 100) (hH : ∀ x ∈ ws, 0 ≤ H x ∧ H x ≤ 1000000000) :
    Calls Tryz.prog 20 #[.agg #[.int .i64 t.n, vi, vg, vo], vl, vh] w fun e w' => Keeps (fun _ => False) w w' ∧ ∃ v bs n fnd b, e = .returned (.tuple #[v, .int .i64 n]) ∧ RunEnd (wordsOf t.ops) (wd t.init) ws (goalB (wd t.goal)) H bs n fnd b ∧ Ints w' v bs := by
  obtain ⟨i0, hi0, hz0, hz1, hz2⟩ := info_parts Tryz.info3
  obtain ⟨ai, ci, h1, _⟩ := h.init.form
  obtain ⟨ag, cg, h2, _⟩ := h.goal.form
  obtain ⟨ao, co, h3, hmo⟩ := h.ops.form
  have hn0 : 0 < ws.length := (List.getElem?_eq_some_iff.1 hst).1
  obtain ⟨ah, ch, hvh, mh⟩ := hh.form
  obtain ⟨bh, oh, hah, hch⟩ := hh.cell hvh (by rw [List.length_map]; exact hn0)
  subst h1 h2 h3
  have HHV := Lib.hid hh
  rw [List.length_map] at hvh mh
  subst hvh hah
  have HB := Lib.hid (Four.new w (.int .i64 t.n) (.slice ai t.init.length ci) (.slice ag t.goal.length cg) (.slice ao t.ops.length co) 25)
  have K1 := (Keeps.refl (fun _ => False) w).alloc (.cells #[.int .i64 t.n, .slice ai t.init.length ci, .slice ag t.goal.length cg, .slice ao t.ops.length co] 25)
  have HT := Lib.hid (h.keeps0 K1); have HK := Lib.hid K1; have HL := Lib.hid (hl.keeps0 K1); have OK := Lib.hid ok; have HG := Lib.hid hgood; have HST := Lib.hid hst; have HSH := Lib.hid hsh; have HCO := Lib.hid hcost; have HHB := Lib.hid hH
  have HCH := Lib.hid hch
  have hch0 := hch 0
  have HAM := Lib.hid (show ∀ a ∈ arcs (wordsOf t.ops) ws, a.frm < ws.length ∧ a.to < ws.length ∧ 0 ≤ a.cost ∧ a.cost ≤ 100 from fun a ha => by
    obtain ⟨x, o, g1, g2, g3, g4, g5⟩ := mem_arcs.1 ha
    have := hcost o (List.mem_of_getElem? g2)
    exact ⟨(List.getElem?_eq_some_iff.1 g1).1, (List.getElem?_eq_some_iff.1 g5).1, by omega, by omega⟩)
  have HGE := Lib.hid (goals_eq ok hgood)
  clear h K1 hl ok hgood hst hsh hcost hH hh hch
  go_enter Tryz.func20, Tryz.ntmps20
  go_upto_region 1 with fail
  generalize (w.alloc (.cells #[.int .i64 t.n, .slice ai t.init.length ci, .slice ag t.goal.length cg, .slice ao t.ops.length co] 25)) = w1 at HB HT HK HL ⊢
  have hbx := HB.out.lt
  obtain ⟨d0, d1, d2, d3⟩ := HB.out
  go_wp2_with fail
  refine (arcs_any _ _ _ _ _ t ws HT.out OK.out HL.out HG.out hfew).mono ?_; rintro e w2 ⟨va, rfl, hoa, hk⟩
  obtain ⟨aa, ca, haa⟩ := ownsRow_formS hoa
  subst haa
  have HB2 := Lib.hid (HB.out.keeps0 hk); have HT2 := Lib.hid (HT.out.keeps0 hk); have HK2 := Lib.hid (HK.out.trans hk); have HL2 := Lib.hid (HL.out.keeps0 hk)
  have HA2 := Lib.hid hoa.at
  clear hbx d0 d1 d2 d3 HB HT HK HL hk hoa
  have hbx := HB2.out.lt
  obtain ⟨d0, d1, d2, d3⟩ := HB2.out
  go_wp2_with fail
  refine (goals_any _ _ _ _ _ t ws HT2.out HL2.out hfew).mono ?_; rintro e w3 ⟨vb, rfl, hob, hk⟩
  obtain ⟨ab, cb, hab⟩ := ownsRow_form1 hob
  subst hab
  have HO3 := Lib.hid (show Bools w3 (.slice ab ws.length cb) (ws.map (goalB (wd t.goal))) by rw [← HGE.out]; unfold Bools; rw [List.length_map]; exact Sl.of_own hob)
  have HA3 := Lib.hid (HA2.out.keeps0 hk); have HK3 := Lib.hid (HK2.out.trans hk)
  have hc0 := HK3.out.cell (hch0 (H (wd t.init)) (by rw [List.getElem?_map, HST.out]; rfl)) (fun h => h)
  rw [Nat.add_zero] at hc0
  have hA2 : (arcs (wordsOf t.ops) ws).length ≤ 9223372036854775807 := (Sl.formN HA3.out).choose_spec.choose_spec.2
  have n0 : (0 : Int) < (ws.length : Int) := by omega
  have HNN := Lib.hid (show (ws.map H).length = ws.length from List.length_map _)
  have HGN := Lib.hid (show (ws.map (goalB (wd t.goal))).length = ws.length from List.length_map _)
  clear hk hob d0 d1 d2 d3 hbx HB2 HT2 HK2 HL2 HA2 HGE
  generalize hal : (arcs (wordsOf t.ops) ws) = AR at HA3 HAM hA2 ⊢
  have HAL := Lib.hid hal
  clear hal
  go_wp2_with fail
  have hI0 : RdsI (wordsOf t.ops) (wd t.init) ws (goalB (wd t.goal)) H w3 (.slice none 0 0) (.int .i64 0) (.int .i64 (H (wd t.init))) w3 := ⟨[], 0, _, rfl, rfl, .start, World.ownsRow_nil _ _ _ _, Keeps.refl _ _⟩
  have HI0 := Lib.hid hI0
  have h0 : 0 ≤ H (wd t.init) := (HHB.out _ (List.mem_of_getElem? HST.out)).1
  clear hI0 hc0 hch0
  go_loopw [10, 11, 12] (fun v10 v11 v12 wr => RdsI (wordsOf t.ops) (wd t.init) ws (goalB (wd t.goal)) H w3 v10 v11 v12 wr) (fun _ _ v12 _ => (1000000000 - intOf v12).toNat)
  case atStart => exact HI0.out
  case round =>
    obtain ⟨bs, n, b, rfl, rfl, hrun, hown, hkr⟩ := hrel
    obtain ⟨hl1, hl2, hl3⟩ := hrun.len h0
    have HRUN := Lib.hid hrun; have HOWN := Lib.hid hown; have HKR := Lib.hid hkr
    obtain ⟨ao3, cap3, hv3⟩ := ownsRow_form1 hown
    subst hv3
    clear hrun hown hkr HI0
    by_cases hb : b < 1000000000
    · have hln : (ws.length : Int) * b ≤ 2000 * 1000000000 := Int.le_trans (Int.mul_le_mul_of_nonneg_right (by omega) (by omega)) (Int.mul_le_mul_of_nonneg_left (by omega) (by omega))
      have hsz3 : w3.heap.size ≤ wr.heap.size := HKR.out.size
      have HBL := Lib.hid hb
      obtain ⟨m, hm⟩ : ∃ m, bs.length = m := ⟨_, rfl⟩
      have HM := Lib.hid hm
      rw [hm] at hl1 HOWN
      rw [show (.slice ao3 bs.length cap3 : Value) = .slice ao3 m cap3 by rw [hm]]
      clear hm
      go_wp2_with (at_builtin; refine wpList_append_lies _ rfl _ _ _ rfl w3.heap.size 3 i0 _ 1 8 Tryz.underlying22 hi0 hz0 hz1 hz2 rfl (by omega) _ m _ (by rfl) (HOWN.out.alloc _) ⟨wr.heap.size, 0, none⟩ 1 1 [.int .i64 b] (by rfl) (by rfl) ?hnews ?hone (by omega) (by unfold maxLen; omega) (by omega) (by simp; omega) (wr.heap.size + 1) (by simp) ?_)
      case hnews => exact World.news_of_block (cs := #[.int .i64 b]) (t := 3) (fr := (0, 0)) (heap_alloc_new _ _)
      case hone => simp [Value.oneCell']
      intro g2 cap2 w5 hown2 hgrow hat hlt3
      have k5 := ((Keeps.refl (fun q => (Value.slice ao3 m cap3).ownBlock = some q) wr).alloc (.cells #[.int .i64 b] 3)).grown hgrow (fun k hk => .inl hk)
      have hlow : ∀ j, (Value.slice ao3 m cap3).ownBlock = some j → w3.heap.size ≤ j := fun j hj => (World.ownsRow.lt HOWN.out j hj).1
      have HK5 := Lib.hid (HKR.out.trans' k5 (fun j hj => .inr (hlow j hj)))
      have HOW5 := Lib.hid (show w5.ownsRow w3.heap.size 3 1 (.slice (some ⟨g2, 0, none⟩) (m + 1) cap2) (bs ++ [b]).length ((bs ++ [b]).map (Value.int .i64)) from by
        rw [List.length_append, List.length_singleton, HM.out]; simpa using hown2)
      have HA5 := Lib.hid (HA3.out.keeps0 HK5.out); have HO5 := Lib.hid (HO3.out.keeps0 HK5.out); have HH5 := Lib.hid (HHV.out.keeps0 (HK3.out.trans HK5.out))
      clear hown2 hgrow hat k5 hlow hlt3
      go_wp2_with fail
      refine (round_any w5 _ _ _ AR _ _ b HA5.out HO5.out HH5.out ws.length HGN.out HNN.out (by omega) (by omega) HAM.out (fun v hv => by obtain ⟨x, hx, rfl⟩ := List.mem_map.1 hv; exact HHB.out x hx)).mono ?_
      rintro e w6 ⟨d, rfl, hd, hown6, hk6⟩
      have HSZ0 := Lib.hid (World.ownsRow.lt hown6 w5.heap.size rfl).2
      have HD := Lib.hid hd; have HDC := Lib.hid (Sl.cellN (Sl.of_own hown6) rfl (by omega)); have HK6 := Lib.hid (HK5.out.trans hk6)
      have HOW6 := Lib.hid (hk6.ownsRow HOW5.out (fun _ _ h => h))
      have HRD := Lib.hid (show RdOk (arcs (wordsOf t.ops) ws) (ws.map H) b ws.length d from by rw [HAL.out]; exact hd)
      have hvk := visK_le d ws.length
      have HVK := Lib.hid (visK_is HSH.out.1 hd.len ws.length (Nat.le_refl _))
      have HEK := Lib.hid (endK_is HSH.out.1 hd.len (goalB (wd t.goal)) ws.length (Nat.le_refl _))
      rw [List.take_of_length_le (Nat.le_refl _)] at HVK HEK
      have HRND := Lib.hid (HRD.out.rnd HSH.out HST.out)
      have hwn : IntKind.i64.wrap (n + (visK d ws.length : Int)) = n + (visK d ws.length : Int) := IntWalk.i64_in _ (by omega)
      generalize visK d ws.length = vk at hvk HVK hwn ⊢
      generalize endK d (ws.map (goalB (wd t.goal))) ws.length = ek at HEK ⊢
      clear hd hown6 hk6 HOWN HOW5 HA5 HO5 HH5
      cases ek with
      | true =>
        have HEND := Lib.hid (show RunEnd (wordsOf t.ops) (wd t.init) ws (goalB (wd t.goal)) H (bs ++ [b]) (n + (vk : Int)) true b from .inr ⟨rfl, HBL.out, bs, n, _, HRUN.out, HRND.out, HEK.out.symm, rfl, by rw [HVK.out]⟩)
        have HFI := Lib.hid (Ints.of_own HOW6.out)
        rw [show (.slice (some ⟨g2, 0, none⟩) (m + 1) cap2 : Value) = .slice (some ⟨g2, 0, none⟩) (m + 1) cap2 from rfl] at HFI
        go_wp2_with fail
        refine bodyPost_ret (results_tmp2 rfl _ _ _) rfl ?_
        exact ⟨HK3.out.trans HK6.out, _, _, _, true, b, rfl, HEND.out, HFI.out⟩
      | false =>
        have HENDS : Hid (endsB ws (goalB (wd t.goal)) (cOf ws d) = false) := Lib.hid HEK.out.symm
        obtain ⟨bd, od, hod, hdc⟩ := HDC.out
        simp only [Option.some.injEq, Addr.mk.injEq, and_true] at hod
        obtain ⟨rfl, rfl⟩ := hod
        have HDL := Lib.hid HRD.out.len
        have HDB := Lib.hid (show ∀ (i : Nat) (x : Int), d[i]? = some x → -1 ≤ x ∧ x ≤ 1000000000 from fun i x hx => by
          refine ⟨HRD.out.lo x (List.mem_of_getElem? hx), ?_⟩
          by_cases h0 : 0 ≤ x
          · rcases HRD.out.bound (fun v hv => by obtain ⟨y, hy, rfl⟩ := List.mem_map.1 hv; exact (HHB.out y hy).1) hx h0 with e | e <;> omega
          · omega)
        have HCD := Lib.hid (show ∀ (i : Nat) (x : Int), d[i]? = some x → w6.cell? ⟨w5.heap.size, i, none⟩ = some (.int .i64 x) from fun i x hx => by have h := hdc i (.int .i64 x) (by rw [List.getElem?_map, hx]; rfl); rwa [Nat.zero_add] at h)
        have HSZ := Lib.hid (show w5.heap.size < w6.heap.size from HSZ0.out)
        have CA := Lib.hid ((HA3.out.keeps0 HK6.out).cell rfl)
        have HCH6 := Lib.hid (show ∀ (j : Nat) (x : Int), (ws.map H)[j]? = some x → w6.cell? ⟨bh, oh + j, none⟩ = some (.int .i64 x) from fun j x hx => (HK3.out.trans HK6.out).cell (HCH.out j x hx) (fun h => h))
        clear HDC hdc HEK HD
        go_wp2_with fail
        go_loopw [16, 17] (fun v16 v17 wq => ∃ j : Nat, j ≤ AR.length ∧ v17 = .int .i64 (j : Int) ∧ v16 = .int .i64 (nxtK (ws.map H) d b AR j) ∧ Keeps (fun _ => False) w6 wq) (fun _ v17 _ => AR.length - (intOf v17).toNat)
        case atStart => exact ⟨0, Nat.zero_le _, rfl, rfl, Keeps.refl _ _⟩
        case round =>
          obtain ⟨j, hj, rfl, rfl, hkq⟩ := hrel
          have HKQ := Lib.hid hkq
          have hnb := nxtK_le (ws.map H) d b AR j
          clear hkq
          by_cases hjl : j < AR.length
          · obtain ⟨ba, oa, rfl, hcell⟩ := CA.out (by omega)
            obtain ⟨a, ha⟩ : ∃ a, AR[j]? = some a := ⟨_, List.getElem?_eq_getElem hjl⟩
            obtain ⟨g0, g1, g2', g3⟩ := hcell j a ha
            have c0 := HKQ.out.cell g0 (fun h => h)
            have c1 := HKQ.out.cell g1 (fun h => h)
            have c2 := HKQ.out.cell g2' (fun h => h)
            have c3 := HKQ.out.cell g3 (fun h => h)
            obtain ⟨hf, ht, hc0, hc1⟩ := HAM.out a (List.mem_of_getElem? ha)
            obtain ⟨x, hx⟩ : ∃ x, d[a.frm]? = some x := ⟨_, List.getElem?_eq_getElem (by rw [HDL.out]; exact hf)⟩
            obtain ⟨hv, hhv⟩ : ∃ hv, (ws.map H)[a.to]? = some hv := ⟨_, List.getElem?_eq_getElem (by rw [HNN.out]; exact ht)⟩
            obtain ⟨hx0, hx1⟩ := HDB.out _ _ hx
            obtain ⟨hv0, hv1⟩ : 0 ≤ hv ∧ hv ≤ 1000000000 := by
              obtain ⟨y, hy, rfl⟩ := List.mem_map.1 (List.mem_of_getElem? hhv)
              exact HHB.out y hy
            have HN := Lib.hid (nxtK_succ (b := b) ha hx hhv)
            have KA := (Keeps.refl (fun _ => False) wr).alloc (.cells #[.int .i64 (a.frm : Int), .int .i64 (a.to : Int), .int .i64 (a.op : Int), .int .i64 a.cost] 92)
            have F4 := Lib.hid (Four.new wr (.int .i64 (a.frm : Int)) (.int .i64 (a.to : Int)) (.int .i64 (a.op : Int)) (.int .i64 a.cost) 92)
            have HKA := Lib.hid (HKQ.out.trans KA)
            have HXC := Lib.hid (HKA.out.cell (HCD.out _ _ hx) (fun h => h))
            have HVC := Lib.hid (HKA.out.cell (HCH6.out _ _ hhv) (fun h => h))
            clear hcell g0 g1 g2' g3 ha hx hhv KA
            go_upto_region 16 with fail
            clear c0 c1 c2 c3
            generalize (wr.alloc (.cells #[.int .i64 (a.frm : Int), .int .i64 (a.to : Int), .int .i64 (a.op : Int), .int .i64 a.cost] 92)) = w7 at F4 HKA HXC HVC ⊢
            generalize wr.heap.size = b9 at F4 ⊢
            have hl9 := F4.out.lt
            obtain ⟨f0, f1, f2, f3⟩ := F4.out
            have cx := HXC.out
            have cv := HVC.out
            have i0 : (0 : Int) ≤ (a.frm : Int) := by omega
            have i1 : (a.frm : Int) < (ws.length : Int) := by omega
            have b0 : (0 : Int) ≤ (a.to : Int) := by omega
            have b1 : (a.to : Int) < (ws.length : Int) := by omega
            have m2 : IntKind.i64.wrap (x + a.cost) = x + a.cost := IntWalk.i64_in _ (by omega)
            have m3 : IntKind.i64.wrap (x + a.cost + hv) = x + a.cost + hv := IntWalk.i64_in _ (by omega)
            generalize nxtK (ws.map H) d b AR j = nx at hnb HN ⊢
            by_cases hxx : 0 ≤ x
            · by_cases hvI : hv < 1000000000
              · go_upto_region 17 with fail
                go_quiet (fail)
                clear m2 m3
                have HKB := Lib.hid (HKA.out.trans ((Keeps.refl (fun _ => False) w7).drewN nq))
                clear f0 f1 f2 f3 cx cv hl9 HXC HVC F4
                generalize w7.drewN nq = w8 at HKB ⊢
                generalize x + a.cost + hv = v19 at HN ⊢
                by_cases hvb : b < v19
                · by_cases hvn : v19 < nx
                  · rw [if_pos ⟨hxx, hvI, hvb, hvn⟩] at HN
                    go_wp2_with fail
                    go_roundw
                    case rel => exact ⟨j + 1, by omega, by go_num, by rw [HN.out], HKB.out⟩
                    case measure => simp [intOf]; omega
                  · rw [if_neg (fun h => hvn h.2.2.2)] at HN
                    go_wp2_with fail
                    go_roundw
                    case rel => exact ⟨j + 1, by omega, by go_num, by rw [HN.out], HKB.out⟩
                    case measure => simp [intOf]; omega
                · rw [if_neg (fun h => hvb h.2.2.1)] at HN
                  go_wp2_with fail
                  go_roundw
                  case rel => exact ⟨j + 1, by omega, by go_num, by rw [HN.out], HKB.out⟩
                  case measure => simp [intOf]; omega
              · rw [if_neg (fun h => hvI h.2.1)] at HN
                go_wp2_with fail
                go_roundw
                case rel => exact ⟨j + 1, by omega, by go_num, by rw [HN.out], HKA.out⟩
                case measure => simp [intOf]; omega
            · rw [if_neg (fun h => hxx h.1)] at HN
              go_wp2_with fail
              go_roundw
              case rel => exact ⟨j + 1, by omega, by go_num, by rw [HN.out], HKA.out⟩
              case measure => simp [intOf]; omega
          · obtain rfl : j = AR.length := by omega
            have HNX := Lib.hid (show NextOk (wordsOf t.ops) H b (cOf ws d) (nxtK (ws.map H) d b AR AR.length) from by
              have h := nxtK_is (b := b) (H := H) HSH.out HRD.out.len
              rw [HAL.out] at h; exact h)
            have hgt := HNX.out.gt HBL.out
            generalize nxtK (ws.map H) d b AR AR.length = nx at hnb HNX hgt ⊢
            have HFI := Lib.hid (show RdsI (wordsOf t.ops) (wd t.init) ws (goalB (wd t.goal)) H w3 (.slice (some ⟨g2, 0, none⟩) (m + 1) cap2) (.int .i64 (n + (vk : Int))) (.int .i64 nx) wr from
              ⟨bs ++ [b], n + (vk : Int), nx, rfl, rfl, by rw [HVK.out]; exact .step HRUN.out HBL.out HRND.out HENDS.out HNX.out, HKQ.out.ownsRow HOW6.out (fun _ _ h => h), HK6.out.trans HKQ.out⟩)
            go_wp2_with fail
            go_roundw
            case rel => exact HFI.out
            case measure => simp [intOf]; omega
    · have HEND := Lib.hid (show RunEnd (wordsOf t.ops) (wd t.init) ws (goalB (wd t.goal)) H bs n false b from .inl ⟨rfl, HRUN.out, by omega⟩)
      have HFI := Lib.hid (Ints.of_own HOWN.out)
      go_wp2_with fail
      refine bodyPost_ret (results_tmp2 rfl _ _ _) rfl ?_
      exact ⟨HK3.out.trans HKR.out, _, _, _, rfl, .inl ⟨b, HEND.out⟩, HFI.out⟩

end Go.Proofs.YtkjmgafnaddhkaaGreat

namespace Go.Proofs.YtkjmgafnaddhkaaGreat
open Go.RowKit

section
variable {ops : List Wop} {st : Nat} {L : List Nat} {acc : Nat → Bool} {H : Nat → Int} {bs : List Int} {n b : Int} {fnd : Bool}
end

theorem dplan_any (w : World) (vi vg vo : Value) (t : Tsk) (k : Int) (h : TaskAt w vi vg vo t) :
    Calls Tryz.prog 14 #[.agg #[.int .i64 t.n, vi, vg, vo], .int .i64 k] w (DPlanPost t k w) := callsIn_wide.1 (dplan_in w vi vg vo t k h)
/-- The reference's list of states. -/
theorem reached_facts {t : Tsk} (ok : t.Ok) {l : List Nat} (hx : explored t = some l) : l[0]? = some (wd t.init) ∧ (∀ x ∈ l, Good t.n x) ∧ ∀ p y, runOps (wordsOf t.ops) (wd t.init) p = some y → y ∈ l := by
  have hr := reached_some (ops := wordsOf t.ops) (s := wd t.init) (l := l) hx
  exact ⟨hr.2.2.1, good_explored ok hx, fun p y h => (hr.2.2.2 y).2 (reach_run p .refl h)⟩
theorem adm_kind {t : Tsk} (ok : t.Ok) {k : Int} (hk : admK k = true) {l : List Nat} (hx : explored t = some l) {ws : List Nat} (hp : ws.Perm l) : Adm (wordsOf t.ops) ws (goalB (wd t.goal)) (kindH t k) := (says_kind hk t l ok hx).2.perm hp

end Go.Proofs.YtkjmgafnaddhkaaGreat

namespace Go.Proofs.YtkjmgafnaddhkaaGreat
open Go.RowKit Go.Shelf

theorem dlaw_cases {t : Tsk} {k : Int} {fnd : Bool} {lp : List Int} {c n fc fi : Int} (h : DPF t k fnd lp c n fc fi) :
    ((kindF t (admK k)).1 ≠ 0 ∧ (fc, fi) = kindF t (admK k) ∧ fnd = false ∧ lp = [] ∧ c = 0 ∧ n = 0) ∨
    (kindF t (admK k) = (0, 0) ∧ t.Ok ∧ expF t = (0, 0) ∧ ∃ l b, explored t = some l ∧ BestT t b ∧ 60 < stepsB b ∧ fc = 10 ∧ fi = -9 ∧ fnd = false ∧ lp = [] ∧ c = 0 ∧ n = 0) ∨
    (kindF t (admK k) = (0, 0) ∧ t.Ok ∧ admK k = true ∧ fc = 0 ∧ fi = 0 ∧ ∃ l b n0, explored t = some l ∧ BestT t b ∧ stepsB b ≤ 60 ∧ BPlanG t l b fnd lp c n0 ∧ ∃ (ws : List Nat) (bs : List Int) (bb : Int), ws.Perm l ∧ RunEnd (wordsOf t.ops) (wd t.init) ws (goalB (wd t.goal)) (kindH t k) bs n fnd bb) := by
  rcases h with ⟨ha, h1, h2, h3⟩ | ⟨ha, n0, hx, hn, hr⟩
  · rw [ha, ← h2]; exact .inl ⟨h1, rfl, h3⟩
  · rw [ha, kindF_true]
    rcases hx with ⟨h1, h2, rfl, rfl, rfl, _⟩ | ⟨h1, ok, l, b, hl, hb, hh⟩
    · rw [h2]; exact .inl ⟨h1, rfl, rfl, rfl, rfl, hn h1⟩
    · rcases hh with ⟨hs, rfl, rfl, rfl, rfl, rfl, _⟩ | ⟨hs, rfl, rfl, hg⟩
      · exact .inr (.inl ⟨h1, ok, h1, l, b, hl, hb, hs, rfl, rfl, rfl, rfl, rfl, hn (by decide)⟩)
      · obtain ⟨l', ws, bs, bb, g1, g2, g3⟩ := hr rfl
        have e : l' = l := by have := g1.symm.trans hl; cases this; rfl
        subst e
        exact .inr (.inr ⟨h1, ok, rfl, rfl, rfl, l', b, n0, hl, hb, hs, hg, ws, bs, bb, g2, g3⟩)
theorem bestFl_is {t : Tsk} {c i b : Int} (h : BestFl t c i) (he : expF t = (0, 0)) (hb : BestT t b) : (60 < stepsB b → c = 10 ∧ i = -9) ∧ (stepsB b ≤ 60 → c = 0 ∧ i = 0) := by
  rcases h with ⟨h1, h2⟩ | ⟨_, _, l, b', _, h3, h4⟩
  · rw [he] at h2; cases h2; exact absurd rfl h1
  · obtain rfl := LeastOf.unique h3 hb
    rcases h4 with ⟨h5, h6⟩ | ⟨h5, h6⟩
    · exact ⟨fun _ => h6, fun h => by omega⟩
    · exact ⟨fun h => by omega, fun _ => h6⟩

set_option maxRecDepth 100000 in
set_option maxHeartbeats 4000000 in
theorem dplanLaw_any (w : World) (vi vg vo : Value) (t : Tsk) (k : Int) (h : TaskAt w vi vg vo t) :
    Calls Tryz.prog 3 #[.agg #[.int .i64 t.n, vi, vg, vo], .int .i64 k] w fun e w' => e = .returned (.bool true) ∧ Keeps (fun _ => False) w w' := by
  obtain ⟨ai, ci, h1, _⟩ := h.init.form
  obtain ⟨ag, cg, h2, _⟩ := h.goal.form
  obtain ⟨ao, co, h3, hmo⟩ := h.ops.form
  subst h1 h2 h3
  have HB := Lib.hid (Four.new w (.int .i64 t.n) (.slice ai t.init.length ci) (.slice ag t.goal.length cg) (.slice ao t.ops.length co) 25)
  have K1 := (Keeps.refl (fun _ => False) w).alloc (.cells #[.int .i64 t.n, .slice ai t.init.length ci, .slice ag t.goal.length cg, .slice ao t.ops.length co] 25)
  have HT := Lib.hid (h.keeps0 K1); have HK := Lib.hid K1
  clear h K1
  go_enter Tryz.func3, Tryz.ntmps3
  go_upto_region 1 with fail
  generalize (w.alloc (.cells #[.int .i64 t.n, .slice ai t.init.length ci, .slice ag t.goal.length cg, .slice ao t.ops.length co] 25)) = w1 at HB HT HK ⊢
  generalize w.heap.size = bt at HB ⊢
  go_wp2_with fail
  refine (deepExample_any _).mono ?_; rintro e w2 ⟨rfl, hk⟩
  have HB1 := Lib.hid (HB.out.keeps0 hk); have HT1 := Lib.hid (HT.out.keeps0 hk); have HK1 := Lib.hid (HK.out.trans hk)
  clear HB HT HK hk
  have hbxd := HB1.out.lt
  obtain ⟨d0, d1, d2, d3⟩ := HB1.out
  go_wp2_with fail
  refine (wide_any _ _ _ _ t HT1.out).mono ?_; rintro e w3 ⟨rfl, hk⟩
  have HB2 := Lib.hid (HB1.out.keeps0 hk); have HT2 := Lib.hid (HT1.out.keeps0 hk); have HK2 := Lib.hid (HK1.out.trans hk)
  clear hbxd d0 d1 d2 d3 HB1 HT1 HK1 hk
  cases hwd : wideB t with
  | true =>
    go_wp2_with fail
    go_ret
    exact ⟨rfl, HK2.out⟩
  | false =>
    clear hwd
    have hbxd := HB2.out.lt
    obtain ⟨d0, d1, d2, d3⟩ := HB2.out
    go_wp2_with fail
    refine (dplan_any _ _ _ _ t k HT2.out).mono ?_; rintro e w4 ⟨hk, fndx, vp, lpx, cx, nx, fcx, fix, rfl, hi, hr⟩
    obtain ⟨apx, cpx, hvp, _⟩ := hi.form
    subst hvp
    have HP := Lib.hid (dlaw_cases hr)
    clear hr hbxd d0 d1 d2 d3
    simp only [resV, fltV]
    have KA := (Keeps.refl (fun _ => False) w4).alloc (.cells #[.bool fndx, .slice apx lpx.length cpx, .int .i64 cx, .int .i64 nx] 29)
    have KB := (Keeps.refl (fun _ => False) (w4.alloc (.cells #[.bool fndx, .slice apx lpx.length cpx, .int .i64 cx, .int .i64 nx] 29))).alloc (.cells #[.int .i64 fcx, .int .i64 fix] 31)
    have KC := hk.trans (KA.trans KB)
    have HB3 := Lib.hid (HB2.out.keeps0 KC); have HT3 := Lib.hid (HT2.out.keeps0 KC); have HK3 := Lib.hid (HK2.out.trans KC)
    have HRx := Lib.hid (KB.heap (heap_alloc_new w4 (.cells #[.bool fndx, .slice apx lpx.length cpx, .int .i64 cx, .int .i64 nx] 29)) (fun h => h))
    have hf := heap_alloc_new (w4.alloc (.cells #[.bool fndx, .slice apx lpx.length cpx, .int .i64 cx, .int .i64 nx] 29)) (.cells #[.int .i64 fcx, .int .i64 fix] 31)
    rw [World.size_alloc] at hf
    have HFx := Lib.hid hf
    have HIx := Lib.hid (hi.keeps0 (KA.trans KB))
    clear HB2 HT2 HK2 hk KA KB KC hf hi
    go_upto_region 6 with fail
    generalize (w4.alloc (.cells #[.bool fndx, .slice apx lpx.length cpx, .int .i64 cx, .int .i64 nx] 29)).alloc (.cells #[.int .i64 fcx, .int .i64 fix] 31) = w5 at HB3 HT3 HK3 HRx HFx HIx  ⊢
    generalize w4.heap.size = bqx at HRx HFx ⊢
    obtain ⟨z5, hz5⟩ : ∃ z5, w5.heap.size = z5 := ⟨_, rfl⟩
    have HZ5 := Lib.hid hz5
    clear hz5
    obtain ⟨c', i', hci⟩ : ∃ c' i', kindF t (admK k) = (c', i') := ⟨_, _, rfl⟩
    have HCI := Lib.hid hci
    clear hci
    have KD : Keeps (fun _ => False) w5 w5.drew := (Keeps.refl (fun _ => False) w5).drew
    have KA : Keeps (fun _ => False) w5.drew (w5.alloc (.cells #[.int .i64 0, .int .i64 0] 31)).drew := by
      have h := (Keeps.refl (fun _ => False) w5.drew).alloc (.cells #[.int .i64 0, .int .i64 0] 31)
      exact h
    have HTD := Lib.hid (HT3.out.keeps0 KD); have HKD := Lib.hid KD; have HKA := Lib.hid KA
    have HZ8 := Lib.hid (show (w5.alloc (.cells #[.int .i64 0, .int .i64 0] 31)).drew.heap[w5.heap.size]? = some (.cells #[.int .i64 0, .int .i64 0] 31 (0, 0)) from heap_alloc_new w5 _)
    have HB1x := HB3.out.keeps0 KD
    have hbx := HB1x.lt
    have HBX := Lib.hid (show bt < w5.heap.size from HB3.out.lt)
    obtain ⟨d0, d1, d2, d3⟩ := HB1x
    obtain ⟨d0', d1', d2', d3'⟩ := (HB3.out.keeps0 KD).keeps0 KA
    clear KD KA
    go_region_held3 (fun w' => w'.cell? ⟨bt, 0, none⟩ = some (.int .i64 t.n) ∧ w'.cell? ⟨bt, 1, none⟩ = some (.slice ai t.init.length ci) ∧ w'.cell? ⟨bt, 2, none⟩ = some (.slice ag t.goal.length cg) ∧ w'.cell? ⟨bt, 3, none⟩ = some (.slice ao t.ops.length co))
      (first | go_keep | with_reducible exact ⟨(keeps_pair (w := w9) w5.heap.size (.int .i64 c') (.int .i64 i')).cell t0 (show ¬ bt = w5.heap.size by have := HBX.out; omega), (keeps_pair (w := w9) w5.heap.size (.int .i64 c') (.int .i64 i')).cell t1 (show ¬ bt = w5.heap.size by have := HBX.out; omega), (keeps_pair (w := w9) w5.heap.size (.int .i64 c') (.int .i64 i')).cell t2 (show ¬ bt = w5.heap.size by have := HBX.out; omega), (keeps_pair (w := w9) w5.heap.size (.int .i64 c') (.int .i64 i')).cell t3 (show ¬ bt = w5.heap.size by have := HBX.out; omega)⟩)
      (first
        | (go_at_call 16; refine (refAdm_any k _).mono ?_; rintro en wq ⟨rfl, rfl⟩)
        | (go_at_call 15; refine (kindFault_any _ _ _ _ t (admK k) HTD.out).mono ?_; rintro en w9 ⟨rfl, hk⟩; rw [HCI.out]; have HK9 := Lib.hid hk; have t0 := hk.cell d0 (fun h => h); have t1 := hk.cell d1 (fun h => h); have t2 := hk.cell d2 (fun h => h); have t3 := hk.cell d3 (fun h => h); clear hk)
        | (go_at_call 15; refine (kindFault_any _ _ _ _ t (admK k) (HTD.out.keeps0 HKA.out)).mono ?_; rintro en w9 ⟨rfl, hk⟩; rw [HCI.out]; have HK9 := Lib.hid hk; have HZ9 := Lib.hid (hk.heap HZ8.out (fun h => h)); obtain ⟨q0, q1, y0, y1, hl6⟩ := pair_cells HZ9.out; have t0 := hk.cell d0' (fun h => h); have t1 := hk.cell d1' (fun h => h); have t2 := hk.cell d2' (fun h => h); have t3 := hk.cell d3' (fun h => h); clear hk))
    all_goals
      first
        | (have HFZ := Lib.hid (pair_set HZ9.out (.int .i64 c') (.int .i64 i'))
           have HC := Lib.hid (show Keeps (fun _ => False) w5 ((w9.setCell ⟨w5.heap.size, 0, none⟩ (.int .i64 c')).setCell ⟨w5.heap.size, 1, none⟩ (.int .i64 i')) from ((HKD.out.trans HKA.out).trans HK9.out).trans' (keeps_pair (w := w9) w5.heap.size (.int .i64 c') (.int .i64 i')) (fun k hk => .inr (Nat.le_of_eq hk.symm)))
           clear t0 t1 t2 t3 q0 q1 y0 y1 HZ9 hl6 HK9
           generalize (w9.setCell ⟨w5.heap.size, 0, none⟩ (.int .i64 c')).setCell ⟨w5.heap.size, 1, none⟩ (.int .i64 i') = wz at HFZ HC ⊢
           have HBW := Lib.hid (show z5 ≤ w5.heap.size from Nat.le_of_eq HZ5.out.symm)
           generalize w5.heap.size = b8 at HFZ HBW ⊢)
        | (have HFZ := Lib.hid (heap_alloc_new w9 (.cells #[.int .i64 c', .int .i64 i'] 31))
           have HC := Lib.hid (show Keeps (fun _ => False) w5 (w9.alloc (.cells #[.int .i64 c', .int .i64 i'] 31)) from (HKD.out.trans HK9.out).trans ((Keeps.refl (fun _ => False) w9).alloc _))
           clear t0 t1 t2 t3
           generalize w9.alloc (.cells #[.int .i64 c', .int .i64 i'] 31) = wz at HFZ HC ⊢
           have HBW := Lib.hid (show z5 ≤ w9.heap.size from by rw [← HZ5.out]; exact (HKD.out.trans HK9.out).size)
           clear HK9
           generalize w9.heap.size = b8 at HFZ HBW ⊢)
    all_goals
      have HFx4 := Lib.hid (HC.out.heap HFx.out (fun h => h)); have HRx4 := Lib.hid (HC.out.heap HRx.out (fun h => h)); have HI4 := Lib.hid (HIx.out.keeps0 HC.out)
      have HB4 := Lib.hid (HB3.out.keeps0 HC.out); have HT4 := Lib.hid (HT3.out.keeps0 HC.out); have HK4 := Lib.hid (HK3.out.trans HC.out)
      obtain ⟨f0, f1, _, _, fl⟩ := pair_cells HFx4.out
      obtain ⟨g0, g1, z0, z1, gl⟩ := pair_cells HFZ.out
      obtain ⟨r0, r1, r2, r3, rl⟩ := quad_cells HRx4.out
      clear d0 d1 d2 d3 d0' d1' d2' d3' hbx
      have HNE := Lib.hid (show ¬ bqx + 1 = b8 ∧ ¬ bqx = b8 from by
        have h1 := lt_of_heap HFx.out; have h2 := HBW.out; rw [HZ5.out] at h1; omega)
      have HBZ := Lib.hid (show w.heap.size ≤ b8 from by
        have h1 := HK3.out.size; have h2 := HBW.out; rw [HZ5.out] at h1; omega)
      have HBW5 := Lib.hid (show w5.heap.size ≤ b8 from by rw [HZ5.out]; exact HBW.out)
      rcases HP.out with ⟨hz, he, rfl, rfl, rfl, rfl⟩ | ⟨hz, ok, hef, l, b, hx, hb, hs, rfl, rfl, rfl, rfl, rfl, rfl⟩ | ⟨hz, ok, hkk, rfl, rfl, l, b, n0, hx, hb, hs, hg, ws, bs, bb, hpm, hend⟩
      · have e2 : (fcx, fix) = (c', i') := he.trans HCI.out
        have hc : fcx ≠ 0 := by rw [← he] at hz; exact hz
        simp only [Prod.mk.injEq] at e2
        obtain ⟨rfl, rfl⟩ := e2
        have q1 : (fcx != 0) = true := by simpa using hc
        have q2 : (fcx == 0) = false := by simpa using hc
        clear hz he hc HP HCI z0 z1
        simp only [List.length_nil] at r1 HRx4 ⊢
        go_wp2_with fail
        refine (noResult_any _ false _ 0 _ 0 0 (by omega)).mono ?_; rintro e w6 ⟨rfl, hk⟩
        have HK5 := Lib.hid (HK4.out.trans hk)
        clear hk
        go_wp2_with fail
        go_ret
        exact ⟨rfl, HK5.out⟩
      · have e2 : (0, 0) = (c', i') := hz.symm.trans HCI.out
        simp only [Prod.mk.injEq] at e2
        obtain ⟨rfl, rfl⟩ := e2
        have HEF := Lib.hid hef; have HBT := Lib.hid hb; have HS := Lib.hid hs
        clear hz ok hef hx hb hs HP HCI
        have hbxd := HB4.out.lt
        obtain ⟨d0, d1, d2, d3⟩ := HB4.out
        simp only [List.length_nil] at r1 HRx4 ⊢
        go_wp2_with fail
        refine (bestFault_any _ _ _ _ t HT4.out).mono ?_; rintro e w6 ⟨c2, i2, rfl, hfl, hk⟩
        obtain ⟨rfl, rfl⟩ := (bestFl_is hfl HEF.out HBT.out).1 HS.out
        have HFZ6 := Lib.hid (hk.heap HFZ.out (fun h => h))
        have HST := Lib.hid (pair_set HFZ6.out (.int .i64 10) (.int .i64 (-9)))
        have KP := Lib.hid (keeps_pair (w := w6) b8 (.int .i64 10) (.int .i64 (-9)))
        have hb8 : w.heap.size ≤ b8 := HBZ.out
        have HKS := Lib.hid ((HK4.out.trans hk).trans' KP.out (fun q hq => .inr (by omega)))
        have HFx6 := Lib.hid (KP.out.heap (hk.heap HFx4.out (fun h => h)) HNE.out.1); have HRx6 := Lib.hid (KP.out.heap (hk.heap HRx4.out (fun h => h)) HNE.out.2)
        clear f0 f1 fl g0 g1 z0 z1 gl r0 r1 r2 r3 rl hbxd d0 d1 d2 d3 hk
        obtain ⟨g0, g1, z0, z1, gl⟩ := pair_cells HFZ6.out
        go_upto_region 9 with fail
        generalize (w6.setCell ⟨b8, 0, none⟩ (.int .i64 10)).setCell ⟨b8, 1, none⟩ (.int .i64 (-9)) = w7 at HST HKS HFx6 HRx6 ⊢
        clear g0 g1 z0 z1 gl
        obtain ⟨f0, f1, _, _, fl⟩ := pair_cells HFx6.out
        obtain ⟨g0, g1, _, _, gl⟩ := pair_cells HST.out
        obtain ⟨r0, r1, r2, r3, rl⟩ := quad_cells HRx6.out
        go_wp2_with fail
        refine (noResult_any _ false _ 0 _ 0 0 (by omega)).mono ?_; rintro e w8 ⟨rfl, hk⟩
        have HK5 := Lib.hid (HKS.out.trans hk)
        clear hk
        go_wp2_with fail
        go_ret
        exact ⟨rfl, HK5.out⟩
      · have e2 : (0, 0) = (c', i') := hz.symm.trans HCI.out
        simp only [Prod.mk.injEq] at e2
        obtain ⟨rfl, rfl⟩ := e2
        have OK := Lib.hid ok; have HX := Lib.hid hx; have HBT := Lib.hid hb; have HS := Lib.hid hs; have HKK := Lib.hid hkk; have HG := Lib.hid hg; have HPM := Lib.hid hpm; have HEND := Lib.hid hend
        have HRF := Lib.hid (reached_facts ok hx)
        have HND := Lib.hid (costs_need ok hx (List.Perm.refl l))
        have HAD := Lib.hid (adm_kind ok hkk hx (List.Perm.refl l))
        clear hz ok hx hb hs hkk hg hpm hend HP HCI
        have hbxd := HB4.out.lt
        obtain ⟨d0, d1, d2, d3⟩ := HB4.out
        go_wp2_with fail
        refine (bestFault_any _ _ _ _ t HT4.out).mono ?_; rintro e w6 ⟨c2, i2, rfl, hfl, hk⟩
        obtain ⟨rfl, rfl⟩ := (bestFl_is hfl (expF_ok OK.out HX.out) HBT.out).2 HS.out
        have HFZ6 := Lib.hid (hk.heap HFZ.out (fun h => h))
        have HST := Lib.hid (pair_set HFZ6.out (.int .i64 0) (.int .i64 0))
        have KP := Lib.hid (keeps_pair (w := w6) b8 (.int .i64 0) (.int .i64 0))
        have hb8 : w.heap.size ≤ b8 := HBZ.out
        have HKS := Lib.hid ((HK4.out.trans hk).trans' KP.out (fun q hq => .inr (by omega)))
        have HFx6 := Lib.hid (KP.out.heap (hk.heap HFx4.out (fun h => h)) HNE.out.1); have HRx6 := Lib.hid (KP.out.heap (hk.heap HRx4.out (fun h => h)) HNE.out.2)
        have KP5 := Lib.hid ((HC.out.trans hk).trans' KP.out (fun q hq => .inr (by rw [hq]; exact HBW5.out)))
        have HB6 := Lib.hid (HB3.out.keeps0 KP5.out); have HT6 := Lib.hid (HT3.out.keeps0 KP5.out); have HI6 := Lib.hid (HIx.out.keeps0 KP5.out)
        clear f0 f1 fl g0 g1 z0 z1 gl r0 r1 r2 r3 rl hbxd d0 d1 d2 d3 hk
        obtain ⟨g0, g1, z0, z1, gl⟩ := pair_cells HFZ6.out
        go_upto_region 9 with fail
        generalize (w6.setCell ⟨b8, 0, none⟩ (.int .i64 0)).setCell ⟨b8, 1, none⟩ (.int .i64 0) = w7 at HST HKS HFx6 HRx6 HB6 HT6 HI6 ⊢
        clear g0 g1 z0 z1 gl KP5
        obtain ⟨g0, g1, _, _, gl⟩ := pair_cells HST.out
        have hbxd := HB6.out.lt
        obtain ⟨d0, d1, d2, d3⟩ := HB6.out
        go_wp2_with fail
        refine (valuesH_any _ _ _ _ t k l HT6.out OK.out HX.out).mono ?_; rintro e w8 ⟨vl, vh, rfl, hl, hh, hk⟩
        rw [kindV_adm HKK.out] at hh
        have HB7 := Lib.hid (HB6.out.keeps0 hk); have HT7 := Lib.hid (HT6.out.keeps0 hk); have HK7 := Lib.hid (HKS.out.trans hk); have HI7 := Lib.hid (HI6.out.keeps0 hk); have HFx7 := Lib.hid (hk.heap HFx6.out (fun h => h)); have HRx7 := Lib.hid (hk.heap HRx6.out (fun h => h)); have HL := Lib.hid hl; have HH := Lib.hid hh
        clear g0 g1 gl hbxd d0 d1 d2 d3 hk hl hh HB6 HT6 HKS HI6 HFx6 HRx6
        have hbxd := HB7.out.lt
        obtain ⟨d0, d1, d2, d3⟩ := HB7.out
        go_wp2_with fail
        refine (refRounds_any _ _ _ _ _ _ t l (kindH t k) HT7.out OK.out HL.out HRF.out.2.1 HH.out HRF.out.1 HND.out.2.2.2.1 HND.out.2.2.2.2.1 (ops_cost OK.out) HAD.out.lo).mono ?_
        rintro e w9 ⟨hk, v2, bs', n', fnd', b', rfl, hend', hi'⟩
        obtain ⟨-, rfl, -, -⟩ := RunEnd.unique HPM.out HEND.out hend'
        have HB8 := Lib.hid (HB7.out.keeps0 hk); have HT8 := Lib.hid (HT7.out.keeps0 hk); have HK8 := Lib.hid (HK7.out.trans hk); have HI8 := Lib.hid (HI7.out.keeps0 hk); have HFx8 := Lib.hid (hk.heap HFx7.out (fun h => h)); have HRx8 := Lib.hid (hk.heap HRx7.out (fun h => h))
        clear hbxd d0 d1 d2 d3 hk hend' hi' HB7 HT7 HK7 HI7 HFx7 HRx7 HL HH
        obtain ⟨f0, f1, _, _, fl⟩ := pair_cells HFx8.out
        obtain ⟨r0, r1, r2, r3, rl⟩ := quad_cells HRx8.out
        have hbxd := HB8.out.lt
        obtain ⟨d0, d1, d2, d3⟩ := HB8.out
        go_wp2_with fail
        refine (isBest_any _ _ _ _ _ t l b fndx lpx cx nx HT8.out OK.out HX.out HBT.out HS.out HI8.out HG.out).mono ?_; rintro e w10 ⟨rfl, hk⟩
        have HK9 := Lib.hid (HK8.out.trans hk)
        have HRx9 := Lib.hid (hk.heap HRx8.out (fun h => h))
        clear f0 f1 fl r0 r1 r2 r3 rl hbxd d0 d1 d2 d3 hk
        obtain ⟨r0, r1, r2, r3, rl⟩ := quad_cells HRx9.out
        go_wp2_with fail
        go_ret
        exact ⟨rfl, HK9.out⟩

end Go.Proofs.YtkjmgafnaddhkaaGreat
