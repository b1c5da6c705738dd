/- Plain laws of playFrom: counting; lowering a key as drop and insert; inserting all and taking all. -/
import Derived.Test.YtlghadoejmnllaaLawSort
namespace Go.Proofs.Ytlghadoejmnllaa
open Go.RowKit

theorem form_zeroL {k i y : Int} (h : formC k i y = 0) : (1 ≤ k ∧ k ≤ 4) ∧ (0 ≤ i ∧ i ≤ 30) ∧ (0 ≤ y ∧ y ≤ 1000000) ∧ (k = 3 → i = 0) ∧ (2 < k → y = 0) := by
  unfold formC at h
  split at h
  · omega
  · split at h
    · omega
    · split at h
      · omega
      · refine ⟨by omega, by omega, by omega, fun e => ?_, fun e => ?_⟩ <;> omega

theorem stepR_okL {A : List (Int × Int)} {k i y : Int} (h : (stepR A k i y).1 = 0) : formC k i y = 0 ∧ ((k = 1 ∨ k = 2) → (stepR A k i y).2.2 = setA A i y) ∧ (k = 3 → ∃ p, firstMin A = some p ∧ (stepR A k i y).2 = (p.1, A.filter (fun q => q.1 != p.1))) ∧ (k = 4 → ∃ k0, lookA A i = some k0 ∧ (stepR A k i y).2.2 = A.filter (fun q => q.1 != i)) := by
  have hf : formC k i y = 0 := by
    by_cases hf : formC k i y = 0
    · exact hf
    · unfold stepR at h; rw [if_pos hf] at h; exact absurd h hf
  refine ⟨hf, fun hk => ?_, fun hk => ?_, fun hk => ?_⟩
  · rcases hk with rfl | rfl
    · unfold stepR at h ⊢
      rw [if_neg (by omega), if_pos rfl] at h ⊢
      cases hl : lookA A i with
      | none => rfl
      | some _ => rw [hl] at h; simp at h
    · unfold stepR at h ⊢
      rw [if_neg (by omega), if_neg (by decide), if_pos rfl] at h ⊢
      cases hl : lookA A i with
      | none => rw [hl] at h; simp at h
      | some k0 =>
        rw [hl] at h
        simp only at h ⊢
        split at h
        · simp at h
        · rename_i hky; rw [if_neg hky]
  · subst hk
    unfold stepR at h ⊢
    rw [if_neg (by omega), if_neg (by decide), if_neg (by decide), if_pos rfl] at h ⊢
    cases hl : firstMin A with
    | none => rw [hl] at h; simp at h
    | some p => exact ⟨p, rfl, rfl⟩
  · subst hk
    unfold stepR at h ⊢
    rw [if_neg (by omega), if_neg (by decide), if_neg (by decide), if_neg (by decide)] at h ⊢
    cases hl : lookA A i with
    | none => rw [hl] at h; simp at h
    | some k0 => exact ⟨k0, rfl, rfl⟩

/-- How many operations of the list insert x, less those that drop it. -/
def netQ (x : Int) : List QOp → Int
  | [] => 0
  | o :: r => (if o.k = 1 ∧ o.i = x then 1 else 0) - (if o.k = 4 ∧ o.i = x then 1 else 0) + netQ x r

def inA (A : List (Int × Int)) (x : Int) : Int := if x ∈ A.map Prod.fst then 1 else 0

theorem fst_filter (A : List (Int × Int)) (x : Int) : (A.filter (fun q => q.1 != x)).map Prod.fst = (A.map Prod.fst).filter (fun y => y != x) := by
  rw [List.filter_map]; rfl

theorem inA_filter (A : List (Int × Int)) (x y : Int) : inA (A.filter (fun q => q.1 != x)) y = if y = x then 0 else inA A y := by
  unfold inA
  have e : y ∈ (A.filter (fun q => q.1 != x)).map Prod.fst ↔ (y ∈ A.map Prod.fst ∧ y ≠ x) := by
    rw [fst_filter, List.mem_filter]; simp
  by_cases h : y = x
  · rw [if_pos h, if_neg (fun h' => (e.1 h').2 h)]
  · rw [if_neg h]
    by_cases hm : y ∈ A.map Prod.fst
    · rw [if_pos hm, if_pos (e.2 ⟨hm, h⟩)]
    · rw [if_neg hm, if_neg (fun h' => hm (e.1 h').1)]

theorem inA_set (A : List (Int × Int)) (x k y : Int) : inA (setA A x k) y = if y = x then 1 else inA A y := by
  unfold inA
  have e : y ∈ (setA A x k).map Prod.fst ↔ (y ∈ A.map Prod.fst ∨ y = x) := by
    unfold setA
    rw [List.map_append, List.mem_append, fst_filter, List.mem_filter]
    by_cases h : y = x <;> simp [h]
  by_cases h : y = x
  · rw [if_pos h, if_pos (e.2 (.inr h))]
  · rw [if_neg h]
    by_cases hm : y ∈ A.map Prod.fst
    · rw [if_pos hm, if_pos (e.2 (.inl hm))]
    · rw [if_neg hm, if_neg (fun h' => (e.1 h').elim hm h)]

theorem nodup_filter {A : List (Int × Int)} (h : (A.map Prod.fst).Nodup) (x : Int) : ((A.filter (fun q => q.1 != x)).map Prod.fst).Nodup := h.sublist ((List.filter_sublist).map _)

theorem nodup_set {A : List (Int × Int)} (h : (A.map Prod.fst).Nodup) (x k : Int) : ((setA A x k).map Prod.fst).Nodup := by
  unfold setA
  rw [List.map_append, List.nodup_append]
  refine ⟨nodup_filter h x, by simp, fun a ha b hb e => ?_⟩
  simp at hb; subst hb; subst e
  rw [fst_filter, List.mem_filter] at ha
  simp at ha

theorem look_inA {A : List (Int × Int)} {x : Int} : lookA A x = none ↔ inA A x = 0 := by
  unfold inA
  constructor
  · intro h
    rw [if_neg]
    intro hm
    obtain ⟨q, hq, e⟩ := List.mem_map.1 hm
    exact lookA_none h q hq e
  · intro h
    cases hl : lookA A x with
    | none => rfl
    | some k0 =>
      rw [if_pos (List.mem_map.2 ⟨_, lookA_some hl, rfl⟩)] at h
      cases h

/-- One step that goes through: the queue stays without doubles, and the account of x stays. -/
theorem step_account {A : List (Int × Int)} {k i y : Int} (hn : (A.map Prod.fst).Nodup) (h : (stepR A k i y).1 = 0) (x : Int) :
    ((stepR A k i y).2.2.map Prod.fst).Nodup ∧ inA (stepR A k i y).2.2 x + (if k = 3 ∧ (stepR A k i y).2.1 = x then 1 else 0) = inA A x + (if k = 1 ∧ i = x then 1 else 0) - (if k = 4 ∧ i = x then 1 else 0) := by
  obtain ⟨hf, e12, e3, e4⟩ := stepR_okL h
  obtain ⟨hk, _⟩ := form_zeroL hf
  by_cases h3 : k = 3
  · obtain ⟨p, hp, e⟩ := e3 h3
    rw [e]
    refine ⟨nodup_filter hn _, ?_⟩
    simp only
    rw [inA_filter, if_neg (by omega : ¬ (k = 1 ∧ i = x)), if_neg (by omega : ¬ (k = 4 ∧ i = x))]
    by_cases hx : x = p.1
    · rw [if_pos hx, if_pos ⟨h3, hx.symm⟩]
      have : inA A x = 1 := by unfold inA; rw [if_pos (by rw [hx]; exact List.mem_map_of_mem (firstMin_mem hp))]
      omega
    · rw [if_neg hx, if_neg (fun e => hx e.2.symm)]; omega
  · by_cases h4 : k = 4
    · obtain ⟨k0, hl, e⟩ := e4 h4
      rw [e]
      refine ⟨nodup_filter hn _, ?_⟩
      rw [inA_filter, if_neg (by omega : ¬ (k = 3 ∧ _)), if_neg (by omega : ¬ (k = 1 ∧ i = x))]
      by_cases hx : x = i
      · rw [if_pos hx, if_pos ⟨h4, hx.symm⟩]
        have : inA A x = 1 := by unfold inA; rw [if_pos (by rw [hx]; exact List.mem_map.2 ⟨_, lookA_some hl, rfl⟩)]
        omega
      · rw [if_neg hx, if_neg (fun e => hx e.2.symm)]; omega
    · have e := e12 (by omega)
      rw [e]
      refine ⟨nodup_set hn _ _, ?_⟩
      rw [inA_set, if_neg (by omega : ¬ (k = 3 ∧ _)), if_neg (by omega : ¬ (k = 4 ∧ i = x))]
      by_cases h1 : k = 1
      · subst h1
        by_cases hx : x = i
        · rw [if_pos hx, if_pos ⟨rfl, hx.symm⟩]
          have : inA A x = 0 := by
            rw [hx]
            refine look_inA.1 ?_
            cases hl : lookA A i with
            | none => rfl
            | some k0 =>
              unfold stepR at h
              rw [if_neg (by omega), if_pos rfl, hl] at h
              simp at h
          omega
        · rw [if_neg hx, if_neg (fun e => hx e.2.symm)]; omega
      · rw [if_neg (by omega : ¬ (k = 1 ∧ i = x))]
        by_cases hx : x = i
        · rw [if_pos hx]
          have : inA A x = 1 := by
            have hk2 : k = 2 := by omega
            subst hk2
            unfold inA
            rw [if_pos]
            cases hl : lookA A i with
            | none =>
              unfold stepR at h
              rw [if_neg (by omega), if_neg (by decide), if_pos rfl, hl] at h
              simp at h
            | some k0 => rw [hx]; exact List.mem_map.2 ⟨_, lookA_some hl, rfl⟩
          omega
        · rw [if_neg hx]; omega

theorem play_account (x : Int) : ∀ (ops : List QOp) (n : Int) (A : List (Int × Int)) (tk tk' : List Int) (A' : List (Int × Int)), (A.map Prod.fst).Nodup → playFrom ops n A tk = .ok (tk', A') →
    (A'.map Prod.fst).Nodup ∧ inA A' x + (tk'.count x : Int) = inA A x + (tk.count x : Int) + netQ x ops
  | [], n, A, tk, tk', A', hn, h => by
    rw [playFrom] at h; cases h
    exact ⟨hn, by rw [netQ]; omega⟩
  | o :: r, n, A, tk, tk', A', hn, h => by
    rw [playFrom] at h
    split at h
    · cases h
    · rename_i hc
      have hc' : (stepR A o.k o.i o.y).1 = 0 := by omega
      obtain ⟨a1, a2⟩ := step_account hn hc' x
      obtain ⟨b1, b2⟩ := play_account x r _ _ _ _ _ a1 h
      refine ⟨b1, ?_⟩
      rw [b2, netQ]
      by_cases h3 : o.k = 3
      · rw [if_pos h3, List.count_append]
        have : (List.count x [(stepR A o.k o.i o.y).2.1] : Int) = if o.k = 3 ∧ (stepR A o.k o.i o.y).2.1 = x then 1 else 0 := by
          rw [List.count_singleton]
          by_cases he : (stepR A o.k o.i o.y).2.1 = x
          · rw [if_pos (by simpa using he), if_pos ⟨h3, he⟩]; rfl
          · rw [if_neg (by simpa using he), if_neg (fun e => he e.2)]; rfl
        omega
      · rw [if_neg h3]
        rw [if_neg (fun e => h3 e.1)] at a2
        omega

/-- Lowering a key as drop and insert. -/
def expandQ : List QOp → List QOp
  | [] => []
  | o :: r => if o.k = 2 then ⟨4, o.i, 0⟩ :: ⟨1, o.i, o.y⟩ :: expandQ r else o :: expandQ r

theorem play_expand : ∀ (ops : List QOp) (n m : Int) (A : List (Int × Int)) (tk : List Int) (r : List Int × List (Int × Int)), playFrom ops n A tk = .ok r → playFrom (expandQ ops) m A tk = .ok r
  | [], n, m, A, tk, r, h => h
  | o :: s, n, m, A, tk, r, h => by
    rw [playFrom] at h
    split at h
    · cases h
    · rename_i hc
      have hc' : (stepR A o.k o.i o.y).1 = 0 := by omega
      rw [expandQ]
      by_cases h2 : o.k = 2
      · rw [if_pos h2]
        obtain ⟨hf, e12, _, _⟩ := stepR_okL hc'
        have e := e12 (.inr h2)
        obtain ⟨_, hi, hy, _, _⟩ := form_zeroL hf
        rw [e, if_neg (by omega)] at h
        obtain ⟨k0, hl⟩ : ∃ k0, lookA A o.i = some k0 := by
          cases hl : lookA A o.i with
          | none =>
            unfold stepR at hc'
            rw [if_neg (by omega), if_neg (by omega), if_pos h2, hl] at hc'
            simp at hc'
          | some k0 => exact ⟨k0, rfl⟩
        have f4 : formC 4 o.i 0 = 0 := by unfold formC; rw [if_neg (by omega), if_neg (by omega), if_neg (by omega)]
        have f1 : formC 1 o.i o.y = 0 := by unfold formC; rw [if_neg (by omega), if_neg (by omega), if_neg (by omega)]
        have s4 : stepR A 4 o.i 0 = (0, 0, A.filter (fun q => q.1 != o.i)) := by
          unfold stepR; rw [if_neg (by omega), if_neg (by decide), if_neg (by decide), if_neg (by decide), hl]
        have hl' : lookA (A.filter (fun q => q.1 != o.i)) o.i = none := look_inA.2 (by rw [inA_filter, if_pos rfl])
        have s1 : stepR (A.filter (fun q => q.1 != o.i)) 1 o.i o.y = (0, 0, setA A o.i o.y) := by
          unfold stepR
          rw [if_neg (by omega), if_pos rfl, hl']
          simp only
          unfold setA
          rw [List.filter_filter]
          simp
        rw [playFrom, s4]
        simp only
        rw [if_neg (by decide), if_neg (by decide), playFrom, s1]
        simp only
        rw [if_neg (by decide), if_neg (by decide)]
        exact play_expand s _ _ _ _ _ h
      · rw [if_neg h2, playFrom, if_neg (by omega)]
        exact play_expand s _ _ _ _ _ h

/-- Inserting all. -/
def insQ (keys : List Int) (i : Int) : List QOp := match keys with
  | [] => []
  | k :: r => ⟨1, i, k⟩ :: insQ r (i + 1)

theorem length_insQ (keys : List Int) : ∀ i, (insQ keys i).length = keys.length := by
  induction keys with
  | nil => intro i; rfl
  | cons k r ih => intro i; simp [insQ, ih]

theorem insQ_snoc (l : List Int) (k : Int) : ∀ i, insQ (l ++ [k]) i = insQ l i ++ [⟨1, i + l.length, k⟩] := by
  induction l with
  | nil => intro i; simp [insQ]
  | cons a r ih => intro i; simp [insQ, ih]; omega

theorem keysFrom_none {keys : List Int} : ∀ {n : Int}, keysFrom keys n = none → ∀ k ∈ keys, 0 ≤ k ∧ k ≤ 1000000 := by
  induction keys with
  | nil => intro n _ k hk; cases hk
  | cons a r ih =>
    intro n h k hk
    rw [keysFrom] at h
    split at h
    · cases h
    · rcases List.mem_cons.1 hk with rfl | hk
      · omega
      · exact ih h k hk

theorem play_ins (rest : List QOp) : ∀ (keys : List Int) (i n : Int) (A : List (Int × Int)) (tk : List Int), 0 ≤ i → i + keys.length ≤ 31 → (∀ k ∈ keys, 0 ≤ k ∧ k ≤ 1000000) → (∀ p ∈ A, p.1 < i) →
    playFrom (insQ keys i ++ rest) n A tk = playFrom rest (n + keys.length) (A ++ keysA keys i) tk
  | [], i, n, A, tk, _, _, _, _ => by simp [insQ, keysA]
  | k :: r, i, n, A, tk, h0, h1, h2, h3 => by
    have hk := h2 k (by simp)
    simp only [List.length_cons] at h1
    have hf : formC 1 i k = 0 := by unfold formC; rw [if_neg (by omega), if_neg (by omega), if_neg (by omega)]
    have hne : ∀ p ∈ A, p.1 ≠ i := fun p hp e => by have := h3 p hp; omega
    have hl : lookA A i = none := look_inA.2 (by
      unfold inA; rw [if_neg]
      intro hm
      obtain ⟨q, hq, e⟩ := List.mem_map.1 hm
      exact hne q hq e)
    have hs : stepR A 1 i k = (0, 0, A ++ [(i, k)]) := by
      unfold stepR; rw [if_neg (by omega), if_pos rfl, hl]; simp only; rw [setA_new hne]
    rw [insQ, List.cons_append, playFrom, hs]
    simp only
    rw [if_neg (by decide), if_neg (by decide), play_ins rest r (i + 1) (n + 1) _ tk (by omega) (by omega) (fun k hk => h2 k (by simp [hk])) (fun p hp => by
      rcases List.mem_append.1 hp with hp | hp
      · have := h3 p hp; omega
      · simp at hp; subst hp; simp only; omega), keysA]
    simp only [List.length_cons, List.append_assoc, List.singleton_append]
    congr 1
    omega

theorem play_take_all : ∀ (m : Nat) (n : Int) (A : List (Int × Int)) (tk : List Int), A.length = m → (A.map Prod.fst).Nodup → playFrom (List.replicate m ⟨3, 0, 0⟩) n A tk = .ok (tk ++ drainA m A, [])
  | 0, n, A, tk, h, _ => by
    obtain rfl := List.length_eq_zero_iff.1 h
    simp [playFrom, drainA]
  | m + 1, n, A, tk, h, hn => by
    cases hp : firstMin A with
    | none => rw [firstMin_none.1 hp] at h; simp at h
    | some p =>
      have hf : formC 3 0 0 = 0 := by decide
      have hs : stepR A 3 0 0 = (0, p.1, A.filter (fun q => q.1 != p.1)) := by
        unfold stepR; rw [if_neg (by omega), if_neg (by decide), if_neg (by decide), if_pos rfl, hp]
      have hl := filter_len hn (firstMin_mem hp)
      rw [List.replicate_succ, playFrom, hs]
      simp only
      rw [if_neg (by decide), if_pos trivial, play_take_all m _ _ _ (by omega) (nodup_filter hn _), drainA, hp]
      simp

theorem play_sort {keys : List Int} (hq : keysQ keys = none) (hl : keys.length ≤ 30) : playQ (insQ keys 0 ++ List.replicate keys.length ⟨3, 0, 0⟩) = .ok (drainA keys.length (keysA keys 0), []) := by
  have hk : ∀ k ∈ keys, 0 ≤ k ∧ k ≤ 1000000 := by
    unfold keysQ at hq
    rw [if_neg (by omega)] at hq
    exact keysFrom_none hq
  unfold playQ
  rw [if_neg (by simp [length_insQ]; omega), play_ins _ keys 0 0 [] [] (by omega) (by omega) hk (by simp), List.nil_append, play_take_all keys.length _ _ _ (length_keysA keys 0) (keysA_nodup keys)]
  simp

end Go.Proofs.Ytlghadoejmnllaa
