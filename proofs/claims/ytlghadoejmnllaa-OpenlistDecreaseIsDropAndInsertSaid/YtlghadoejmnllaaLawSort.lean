/- The plain law of Sort: what the drain of the keys' queue and the reference's Positions answer is one list. -/
import Derived.Test.YtlghadoejmnllaaRefF
namespace Go.Proofs.Ytlghadoejmnllaa
open Go.RowKit

theorem firstMin_split {A : List (Int × Int)} : ∀ {p : Int × Int}, firstMin A = some p → ∃ B C, A = B ++ p :: C ∧ (∀ b ∈ B, p.2 < b.2) ∧ ∀ c ∈ C, p.2 ≤ c.2 := by
  induction A with
  | nil => intro p h; cases h
  | cons a r ih =>
    intro p h
    unfold firstMin at h
    cases hr : firstMin r with
    | none =>
      rw [hr] at h; cases h
      rw [firstMin_none.1 hr]
      exact ⟨[], [], rfl, by simp, by simp⟩
    | some q =>
      rw [hr] at h
      obtain ⟨B, C, e, h1, h2⟩ := ih hr
      simp only at h
      split at h
      · rename_i hq; cases h
        refine ⟨a :: B, C, by rw [e]; rfl, fun b hb => ?_, h2⟩
        rcases List.mem_cons.1 hb with rfl | hb
        · exact hq
        · exact h1 b hb
      · rename_i hq; cases h
        refine ⟨[], r, rfl, by simp, fun c hc => ?_⟩
        rw [e] at hc
        rcases List.mem_append.1 hc with hc | hc
        · have := h1 c hc; omega
        · rcases List.mem_cons.1 hc with rfl | hc
          · omega
          · have := h2 c hc; omega

def before : List (Int × Int) → Int → Int → Nat
  | [], _, _ => 0
  | p :: r, x, k => if p.1 = x then r.countP (fun q => decide (q.2 < k)) else (if p.2 ≤ k then 1 else 0) + before r x k

theorem before_skip {B : List (Int × Int)} {R : List (Int × Int)} {x k : Int} (h : ∀ b ∈ B, b.1 ≠ x) : before (B ++ R) x k = B.countP (fun q => decide (q.2 ≤ k)) + before R x k := by
  induction B with
  | nil => simp
  | cons b B ih =>
    rw [List.cons_append, before, if_neg (h b (by simp)), ih (fun c hc => h c (by simp [hc])), List.countP_cons]
    simp only [decide_eq_true_eq]; omega

theorem before_in {B : List (Int × Int)} {R : List (Int × Int)} {x k : Int} (h : ∃ b ∈ B, b.1 = x) : before (B ++ R) x k = before B x k + R.countP (fun q => decide (q.2 < k)) := by
  induction B with
  | nil => simp at h
  | cons b B ih =>
    rw [List.cons_append, before, before]
    by_cases hb : b.1 = x
    · rw [if_pos hb, if_pos hb, List.countP_append]
    · rw [if_neg hb, if_neg hb, ih]
      · omega
      · obtain ⟨c, hc, e⟩ := h
        rcases List.mem_cons.1 hc with rfl | hc
        · exact absurd e hb
        · exact ⟨c, hc, e⟩

theorem filter_split {B C : List (Int × Int)} {p : Int × Int} (hn : ((B ++ p :: C).map Prod.fst).Nodup) : (B ++ p :: C).filter (fun q => q.1 != p.1) = B ++ C := by
  have h1 : ∀ b ∈ B, b.1 ≠ p.1 := fun b hb e => by
    rw [List.map_append, List.nodup_append] at hn
    exact hn.2.2 b.1 (List.mem_map_of_mem hb) p.1 (by simp) e
  have h2 : ∀ c ∈ C, c.1 ≠ p.1 := fun c hc e => by
    rw [List.map_append, List.nodup_append, List.map_cons, List.nodup_cons] at hn
    exact hn.2.1.1 (by rw [← e]; exact List.mem_map_of_mem hc)
  rw [List.filter_append, List.filter_cons]
  simp only [bne_self_eq_false, Bool.false_eq_true, if_false]
  rw [List.filter_eq_self.2 (fun b hb => by simpa using h1 b hb), List.filter_eq_self.2 (fun b hb => by simpa using h2 b hb)]

theorem nodup_split {B C : List (Int × Int)} {p : Int × Int} (hn : ((B ++ p :: C).map Prod.fst).Nodup) : (∀ b ∈ B, b.1 ≠ p.1) ∧ (∀ c ∈ C, c.1 ≠ p.1) ∧ ((B ++ C).map Prod.fst).Nodup ∧ ∀ b ∈ B, ∀ c ∈ C, b.1 ≠ c.1 := by
  rw [List.map_append, List.nodup_append, List.map_cons, List.nodup_cons] at hn
  obtain ⟨h1, ⟨h2, h3⟩, h4⟩ := hn
  refine ⟨fun b hb e => h4 b.1 (List.mem_map_of_mem hb) p.1 (by simp) e, fun c hc e => h2 (by rw [← e]; exact List.mem_map_of_mem hc), ?_, fun b hb c hc e => h4 b.1 (List.mem_map_of_mem hb) c.1 (by simp; exact .inr ⟨c.2, hc⟩) e⟩
  rw [List.map_append, List.nodup_append]
  exact ⟨h1, h3, fun a ha b hb => h4 a ha b (by simp at hb ⊢; exact .inr hb)⟩

theorem drain_rank : ∀ (n : Nat) {A : List (Int × Int)}, A.length = n → (A.map Prod.fst).Nodup → (drainA n A).Perm (A.map Prod.fst) ∧ ∀ x k, (x, k) ∈ A → (drainA n A)[before A x k]? = some x
  | 0, A, h, _ => by
    obtain rfl := List.length_eq_zero_iff.1 h
    exact ⟨by simp [drainA], by simp⟩
  | n + 1, A, h, hn => by
    cases hp : firstMin A with
    | none => rw [firstMin_none.1 hp] at h; simp at h
    | some p =>
      obtain ⟨B, C, rfl, h1, h2⟩ := firstMin_split hp
      obtain ⟨n1, n2, n3, n4⟩ := nodup_split hn
      have hl : (B ++ C).length = n := by simp at h ⊢; omega
      obtain ⟨i1, i2⟩ := drain_rank n hl n3
      rw [drainA, hp]
      simp only
      rw [filter_split hn]
      refine ⟨?_, fun x k hx => ?_⟩
      · rw [List.map_append, List.map_cons]
        refine (List.Perm.cons p.1 i1).trans ?_
        rw [List.map_append]
        exact List.perm_middle.symm
      · rcases List.mem_append.1 hx with hx | hx
        · have hk := h1 _ hx
          rw [before_in ⟨_, hx, rfl⟩, List.countP_cons, if_pos (by simpa using hk)]
          have := i2 x k (List.mem_append_left _ hx)
          rw [before_in ⟨_, hx, rfl⟩] at this
          rw [← Nat.add_assoc, List.getElem?_cons_succ]
          exact this
        · rcases List.mem_cons.1 hx with rfl | hx
          · rw [before_skip n1, before, if_pos rfl]
            have z1 : B.countP (fun q => decide (q.2 ≤ k)) = 0 := List.countP_eq_zero.2 (fun b hb => by have := h1 b hb; simp at this ⊢; omega)
            have z2 : C.countP (fun q => decide (q.2 < k)) = 0 := List.countP_eq_zero.2 (fun c hc => by have := h2 c hc; simp at this ⊢; omega)
            rw [z1, z2]; rfl
          · have hk := h2 _ hx
            have n5 : ∀ b ∈ B, b.1 ≠ x := fun b hb => n4 b hb _ hx
            rw [before_skip n5, before, if_neg (n2 _ hx).symm, if_pos hk]
            have := i2 x k (List.mem_append_right _ hx)
            rw [before_skip n5] at this
            rw [Nat.add_comm 1, ← Nat.add_assoc, List.getElem?_cons_succ]
            exact this

theorem keysA_count (r : List Int) (x : Int) : ∀ s : Int, (keysA r s).countP (fun q => decide (q.2 < x)) = r.countP (fun y => decide (y < x)) := by
  induction r with
  | nil => intro s; rfl
  | cons y r ih => intro s; rw [keysA, List.countP_cons, List.countP_cons, ih]

theorem zip_count (r : List Int) (x : Int) (i : Nat) : ∀ s : Nat, i ≤ s → (r.zipIdx s).countP (fun p => decide (p.1 < x) || (decide (p.1 = x) && decide (p.2 < i))) = r.countP (fun y => decide (y < x)) := by
  induction r with
  | nil => intro s _; rfl
  | cons y r ih =>
    intro s hs
    rw [List.zipIdx_cons, List.countP_cons, List.countP_cons, ih (s + 1) (by omega)]
    congr 1
    have : decide (s < i) = false := decide_eq_false (by omega)
    rw [this]; simp

theorem before_keysA : ∀ (l : List Int) (s j : Nat) (x : Int), l[j]? = some x → before (keysA l (s : Int)) ((s + j : Nat) : Int) x = (l.zipIdx s).countP (fun p => decide (p.1 < x) || (decide (p.1 = x) && decide (p.2 < s + j)))
  | [], s, j, x, h => by simp at h
  | y :: r, s, 0, x, h => by
    simp at h; subst h
    rw [keysA, before, if_pos (by simp), keysA_count, List.zipIdx_cons, List.countP_cons, zip_count r y _ (s + 1) (by omega)]
    simp
  | y :: r, s, j + 1, x, h => by
    have ih := before_keysA r (s + 1) j x (by simpa using h)
    have e : s + 1 + j = s + (j + 1) := by omega
    rw [e] at ih
    rw [keysA, before, if_neg (by simp only; omega), List.zipIdx_cons, List.countP_cons, ← ih]
    have e2 : ((s : Int) + 1) = ((s + 1 : Nat) : Int) := by omega
    rw [e2, Nat.add_comm]
    congr 1
    have : decide (s < s + (j + 1)) = true := decide_eq_true (by omega)
    simp only [this, Bool.and_true, Bool.or_eq_true, decide_eq_true_eq]
    by_cases hy : y ≤ x
    · rw [if_pos hy, if_pos (by omega)]
    · rw [if_neg hy, if_neg (by omega)]

theorem rank_before {keys : List Int} {i : Nat} {x : Int} (h : keys[i]? = some x) : before (keysA keys 0) (i : Int) x = rankR x i keys := by
  have := before_keysA keys 0 i x h
  rw [Nat.zero_add] at this
  exact this

theorem keysA_map (l : List Int) : ∀ s : Int, (keysA l s).map Prod.fst = (List.range l.length).map (fun i : Nat => s + (i : Int)) := by
  induction l with
  | nil => intro s; rfl
  | cons y r ih =>
    intro s
    rw [keysA, List.map_cons, ih, List.length_cons, List.range_succ_eq_map, List.map_cons, List.map_map]
    congr 1
    · simp
    · apply List.map_congr_left; intro a _; simp; omega

theorem keysA_get : ∀ (l : List Int) (s : Int) (i : Nat) (x : Int), l[i]? = some x → (s + (i : Int), x) ∈ keysA l s
  | [], _, _, _, h => by simp at h
  | y :: r, s, 0, x, h => by simp at h; subst h; simp [keysA]
  | y :: r, s, i + 1, x, h => by
    have := keysA_get r (s + 1) i x (by simpa using h)
    rw [keysA]
    refine List.mem_cons_of_mem _ ?_
    have e : s + ((i + 1 : Nat) : Int) = s + 1 + (i : Int) := by omega
    rw [e]; exact this

theorem keysA_nodup (l : List Int) : ((keysA l 0).map Prod.fst).Nodup := by
  rw [keysA_map]
  exact List.Pairwise.map _ (fun a b h => by omega) List.nodup_range

theorem fill_drain (keys : List Int) : fillR keys keys.length = drainA keys.length (keysA keys 0) := by
  obtain ⟨hp, hd⟩ := drain_rank keys.length (length_keysA keys 0) (keysA_nodup keys)
  have hD : ∀ i x, keys[i]? = some x → (drainA keys.length (keysA keys 0))[rankR x i keys]? = some (i : Int) := fun i x h => by
    rw [← rank_before h]
    exact hd _ _ (by have := keysA_get keys 0 i x h; rwa [Int.zero_add] at this)
  have hF : ∀ m, m ≤ keys.length → ∀ i x, i < m → keys[i]? = some x → (fillR keys m)[rankR x i keys]? = some (i : Int) := by
    intro m
    induction m with
    | zero => intro _ i x h; omega
    | succ m ih =>
      intro hm i x hi hx
      obtain ⟨y, hy⟩ : ∃ y, keys[m]? = some y := ⟨_, List.getElem?_eq_getElem (by omega)⟩
      have he : keys.getD m 0 = y := by rw [List.getD_eq_getElem?_getD, hy]; rfl
      rw [fillR, he]
      by_cases him : i = m
      · subst him
        have e := hx.symm.trans hy
        cases e
        rw [List.getElem?_set_self (by rw [length_fillR]; exact rankR_lt hx)]
      · have hne : rankR y m keys ≠ rankR x i keys := fun e => by
          have a := hD m y hy
          rw [e, hD i x hx] at a
          simp at a; omega
        rw [List.getElem?_set_ne hne]
        exact ih (by omega) i x (by omega) hx
  have hl : (drainA keys.length (keysA keys 0)).length = keys.length := by rw [hp.length_eq, List.length_map, length_keysA]
  apply List.ext_getElem?
  intro j
  by_cases hj : j < keys.length
  · obtain ⟨d, hd'⟩ : ∃ d, (drainA keys.length (keysA keys 0))[j]? = some d := ⟨_, List.getElem?_eq_getElem (by omega)⟩
    have hm : d ∈ (keysA keys 0).map Prod.fst := hp.mem_iff.1 (List.mem_of_getElem? hd')
    rw [keysA_map, List.mem_map] at hm
    obtain ⟨i, hi, rfl⟩ := hm
    rw [List.mem_range] at hi
    have hz : (0 : Int) + (i : Int) = (i : Int) := Int.zero_add _
    rw [hz] at hd'
    obtain ⟨x, hx⟩ : ∃ x, keys[i]? = some x := ⟨_, List.getElem?_eq_getElem hi⟩
    have a := hD i x hx
    have hnd : (drainA keys.length (keysA keys 0)).Nodup := hp.nodup_iff.2 (keysA_nodup keys)
    have hjr : j = rankR x i keys := by
      have b1 := List.getElem?_eq_some_iff.1 hd'
      have b2 := List.getElem?_eq_some_iff.1 a
      obtain ⟨c1, d1⟩ := b1
      obtain ⟨c2, d2⟩ := b2
      exact (List.getElem_inj hnd).1 (d1.trans d2.symm)
    rw [hd', hjr]
    exact hF keys.length (Nat.le_refl _) i x hi hx
  · rw [List.getElem?_eq_none (by rw [length_fillR]; omega), List.getElem?_eq_none (by omega)]

end Go.Proofs.Ytlghadoejmnllaa
