/- The reachable words of a task: by the reference's loop, and by a search with a stack. Nothing here speaks of one program. -/
import Derived.Test.YtcfcmmajlkkabaaTask
namespace Go.Proofs.Ytcfcmmajlkkabaa

/-- The words behind one step, in the order of the operators. -/
def nexts (ops : List Wop) (x : Nat) : List Nat := (ops.filter fun o => o.can x).map fun o => o.next x

inductive Reach (ops : List Wop) (s : Nat) : Nat → Prop
  | refl : Reach ops s s
  | step {x y : Nat} : Reach ops s x → y ∈ nexts ops x → Reach ops s y

/-- Those of xs that are not in seen, each once, in their order. -/
def freshs : List Nat → List Nat → List Nat
  | _, [] => []
  | seen, x :: r => if x ∈ seen then freshs seen r else x :: freshs (seen ++ [x]) r

theorem freshs_snoc (xs : List Nat) (x : Nat) : ∀ seen, freshs seen (xs ++ [x]) = freshs seen xs ++ (if x ∈ seen ++ freshs seen xs then [] else [x]) := by
  induction xs with
  | nil =>
    intro seen
    rw [List.nil_append, freshs]
    by_cases h : x ∈ seen <;> simp [h, freshs]
  | cons y r ih =>
    intro seen
    rw [List.cons_append, freshs, freshs]
    by_cases h : y ∈ seen
    · rw [if_pos h, if_pos h, ih]
    · rw [if_neg h, if_neg h, ih]
      simp only [List.append_assoc, List.cons_append, List.nil_append]

theorem mem_freshs {xs : List Nat} {y : Nat} : ∀ {seen}, y ∈ seen ++ freshs seen xs ↔ y ∈ seen ∨ y ∈ xs := by
  induction xs with
  | nil => intro seen; simp [freshs]
  | cons x r ih =>
    intro seen
    rw [freshs]
    by_cases h : x ∈ seen
    · rw [if_pos h, ih]
      constructor
      · rintro (h1 | h1)
        · exact .inl h1
        · exact .inr (by simp [h1])
      · rintro (h1 | h1)
        · exact .inl h1
        · rcases List.mem_cons.1 h1 with rfl | h1
          · exact .inl h
          · exact .inr h1
    · rw [if_neg h]
      have := ih (seen := seen ++ [x])
      rw [List.append_assoc, List.singleton_append] at this
      rw [this]
      simp [or_assoc]

theorem nodup_freshs {xs : List Nat} : ∀ {seen : List Nat}, seen.Nodup → (seen ++ freshs seen xs).Nodup := by
  induction xs with
  | nil => intro seen h; simpa [freshs] using h
  | cons x r ih =>
    intro seen h
    rw [freshs]
    by_cases hx : x ∈ seen
    · rw [if_pos hx]; exact ih h
    · rw [if_neg hx]
      have h1 : (seen ++ [x]).Nodup := by
        rw [List.nodup_append]
        refine ⟨h, by simp, fun a ha b hb => ?_⟩
        simp at hb; subst hb
        intro e; subst e; exact hx ha
      have := ih h1
      rwa [List.append_assoc, List.singleton_append] at this

theorem freshs_le {xs seen : List Nat} : (freshs seen xs).length ≤ xs.length := by
  induction xs generalizing seen with
  | nil => simp [freshs]
  | cons x r ih =>
    rw [freshs]
    split
    · have := ih (seen := seen); simp only [List.length_cons]; omega
    · have := ih (seen := seen ++ [x]); simp only [List.length_cons]; omega

/-! ### the reference's loop -/
/-- The list behind i rounds, or none where it would pass 2000. -/
def bfs (ops : List Wop) (s : Nat) : Nat → Option (List Nat)
  | 0 => some [s]
  | i + 1 => match bfs ops s i with
    | none => none
    | some l => match l[i]? with
      | none => some l
      | some x => if (l ++ freshs l (nexts ops x)).length ≤ 2000 then some (l ++ freshs l (nexts ops x)) else none

def reached (ops : List Wop) (s : Nat) : Option (List Nat) := bfs ops s 2001

theorem bfs_none {ops : List Wop} {s i : Nat} (h : bfs ops s i = none) : ∀ k, bfs ops s (i + k) = none := by
  intro k
  induction k with
  | zero => exact h
  | succ k ih => rw [← Nat.add_assoc, bfs, ih]

theorem bfs_end {ops : List Wop} {s i : Nat} {l : List Nat} (h : bfs ops s i = some l) (hi : l.length ≤ i) : ∀ k, bfs ops s (i + k) = some l := by
  intro k
  induction k with
  | zero => exact h
  | succ k ih =>
    rw [← Nat.add_assoc, bfs, ih]
    simp only
    rw [List.getElem?_eq_none (by omega)]

theorem bfs_step {ops : List Wop} {s i x : Nat} {l : List Nat} (h : bfs ops s i = some l) (hx : l[i]? = some x) :
    bfs ops s (i + 1) = if (l ++ freshs l (nexts ops x)).length ≤ 2000 then some (l ++ freshs l (nexts ops x)) else none := by
  rw [bfs, h]; simp only; rw [hx]

structure BfsOk (ops : List Wop) (s i : Nat) (l : List Nat) : Prop where
  nodup : l.Nodup
  head : l[0]? = some s
  few : l.length ≤ 2000
  reach : ∀ x ∈ l, Reach ops s x
  closed : ∀ j x, j < i → l[j]? = some x → ∀ y ∈ nexts ops x, y ∈ l

theorem bfs_ok {ops : List Wop} {s : Nat} : ∀ {i : Nat} {l : List Nat}, bfs ops s i = some l → BfsOk ops s i l
  | 0, l, h => by
    cases h
    exact ⟨by simp, rfl, by simp, fun x hx => by simp at hx; subst hx; exact .refl, fun j x hj => by omega⟩
  | i + 1, l, h => by
    rw [bfs] at h
    cases hb : bfs ops s i with
    | none => rw [hb] at h; cases h
    | some l0 =>
      rw [hb] at h; simp only at h
      have ok := bfs_ok hb
      cases hx : l0[i]? with
      | none =>
        rw [hx] at h; cases h
        refine ⟨ok.nodup, ok.head, ok.few, ok.reach, fun j x hj hl => ?_⟩
        have h1 := (List.getElem?_eq_some_iff.1 hl).1
        have h2 := List.getElem?_eq_none_iff.1 hx
        exact ok.closed j x (by omega) hl
      | some x =>
        rw [hx] at h; simp only at h
        split at h
        · rename_i hle
          cases h
          have hxm : x ∈ l0 := List.mem_of_getElem? hx
          refine ⟨nodup_freshs ok.nodup, ?_, hle, fun y hy => ?_, fun j y hj hl z hz => ?_⟩
          · rw [List.getElem?_append_left (by have := (List.getElem?_eq_some_iff.1 ok.head).1; omega)]; exact ok.head
          · rcases mem_freshs.1 hy with hy | hy
            · exact ok.reach y hy
            · exact .step (ok.reach x hxm) hy
          · have hil : i < l0.length := (List.getElem?_eq_some_iff.1 hx).1
            rw [List.getElem?_append_left (by omega)] at hl
            by_cases hji : j = i
            · subst hji
              rw [hx] at hl; cases hl
              exact mem_freshs.2 (.inr hz)
            · exact mem_freshs.2 (.inl (ok.closed j y (by omega) hl z hz))
        · cases h

theorem reached_some {ops : List Wop} {s : Nat} {l : List Nat} (h : reached ops s = some l) : l.Nodup ∧ l.length ≤ 2000 ∧ l[0]? = some s ∧ ∀ x, x ∈ l ↔ Reach ops s x := by
  have ok := bfs_ok h
  refine ⟨ok.nodup, ok.few, ok.head, fun x => ⟨ok.reach x, fun hr => ?_⟩⟩
  induction hr with
  | refl => exact List.mem_of_getElem? ok.head
  | step _ hy ih =>
    obtain ⟨j, hj⟩ := List.mem_iff_getElem?.1 ih
    have hlt := (List.getElem?_eq_some_iff.1 hj).1
    exact ok.closed j _ (by have := ok.few; omega) hj _ hy

theorem reached_of_end {ops : List Wop} {s i : Nat} {l : List Nat} (h : bfs ops s i = some l) (hi : i = l.length) : reached ops s = some l := by
  have hf := (bfs_ok h).few
  have := bfs_end h (by omega) (2001 - i)
  unfold reached
  rwa [show i + (2001 - i) = 2001 by omega] at this

theorem reached_of_none {ops : List Wop} {s i : Nat} (h : bfs ops s i = none) (hi : i ≤ 2001) : reached ops s = none := by
  have := bfs_none h (2001 - i)
  unfold reached
  rwa [show i + (2001 - i) = 2001 by omega] at this

theorem bfs_none_many {ops : List Wop} {s : Nat} : ∀ {i : Nat}, bfs ops s i = none → ∃ l : List Nat, l.Nodup ∧ 2000 < l.length ∧ ∀ x ∈ l, Reach ops s x
  | 0, h => by cases h
  | i + 1, h => by
    rw [bfs] at h
    cases hb : bfs ops s i with
    | none => exact bfs_none_many hb
    | some l0 =>
      rw [hb] at h; simp only at h
      have ok := bfs_ok hb
      cases hx : l0[i]? with
      | none => rw [hx] at h; cases h
      | some x =>
        rw [hx] at h; simp only at h
        split at h
        · cases h
        · rename_i hle
          refine ⟨_, nodup_freshs (xs := nexts ops x) ok.nodup, by omega, fun y hy => ?_⟩
          rcases mem_freshs.1 hy with hy | hy
          · exact ok.reach y hy
          · exact .step (ok.reach x (List.mem_of_getElem? hx)) hy

theorem nodup_sub_length : ∀ {a b : List Nat}, a.Nodup → (∀ x ∈ a, x ∈ b) → a.length ≤ b.length
  | [], _, _, _ => Nat.zero_le _
  | x :: r, b, ha, h => by
    rw [List.nodup_cons] at ha
    have hx := h x (by simp)
    have := nodup_sub_length (b := b.erase x) ha.2 (fun y hy => (List.mem_erase_of_ne (by rintro rfl; exact ha.1 hy)).2 (h y (by simp [hy])))
    have hl := List.length_erase_of_mem hx
    have : 0 < b.length := List.length_pos_of_mem hx
    simp only [List.length_cons]; omega

theorem reached_none {ops : List Wop} {s : Nat} (h : reached ops s = none) {l : List Nat} (hl : ∀ x, Reach ops s x → x ∈ l) : 2000 < l.length := by
  obtain ⟨m, h1, h2, h3⟩ := bfs_none_many h
  have := nodup_sub_length h1 (fun x hx => hl x (h3 x hx))
  omega

/-! ### a search with a stack -/
structure Dfs (ops : List Wop) (s : Nat) (stack seen out : List Nat) : Prop where
  nodup : seen.Nodup
  perm : seen.Perm (out ++ stack)
  head : s ∈ seen
  reach : ∀ x ∈ seen, Reach ops s x
  closed : ∀ x ∈ out, ∀ y ∈ nexts ops x, y ∈ seen

theorem Dfs.start (ops : List Wop) (s : Nat) : Dfs ops s [s] [s] [] :=
  ⟨by simp, by simp, by simp, fun x hx => by simp at hx; subst hx; exact .refl, fun x hx => by cases hx⟩

theorem Dfs.step {ops : List Wop} {s x : Nat} {stack seen out : List Nat} (h : Dfs ops s (stack ++ [x]) seen out) :
    Dfs ops s (stack ++ freshs seen (nexts ops x)) (seen ++ freshs seen (nexts ops x)) (out ++ [x]) := by
  have hx : x ∈ seen := h.perm.mem_iff.2 (by simp)
  refine ⟨nodup_freshs h.nodup, ?_, by simp [h.head], fun y hy => ?_, fun y hy z hz => ?_⟩
  · have h1 : (out ++ (stack ++ [x])).Perm (out ++ [x] ++ stack) := by
      rw [List.append_assoc]
      exact List.Perm.append_left _ List.perm_append_comm
    have := (h.perm.trans h1).append_right (freshs seen (nexts ops x))
    rwa [List.append_assoc] at this
  · rcases mem_freshs.1 hy with hy | hy
    · exact h.reach y hy
    · exact .step (h.reach x hx) hy
  · rcases List.mem_append.1 hy with hy | hy
    · exact mem_freshs.2 (.inl (h.closed y hy z hz))
    · simp at hy; subst hy
      exact mem_freshs.2 (.inr hz)

theorem Dfs.done {ops : List Wop} {s : Nat} {seen out : List Nat} (h : Dfs ops s [] seen out) : out.Nodup ∧ (∀ x, x ∈ out ↔ Reach ops s x) ∧ seen.length = out.length := by
  have hp : seen.Perm out := by simpa using h.perm
  refine ⟨hp.nodup_iff.1 h.nodup, fun x => ⟨fun hx => h.reach x (hp.mem_iff.2 hx), fun hr => ?_⟩, hp.length_eq⟩
  induction hr with
  | refl => exact hp.mem_iff.1 h.head
  | step _ hy ih => exact hp.mem_iff.1 (h.closed _ ih _ hy)

theorem Dfs.many {ops : List Wop} {s : Nat} {stack seen out : List Nat} (h : Dfs ops s stack seen out) (hm : 2000 < seen.length) : reached ops s = none := by
  cases hr : reached ops s with
  | none => rfl
  | some l =>
    obtain ⟨_, h2, _, h3⟩ := reached_some hr
    have := nodup_sub_length h.nodup (fun x hx => (h3 x).2 (h.reach x hx))
    omega

theorem Dfs.found {ops : List Wop} {s : Nat} {seen out : List Nat} (h : Dfs ops s [] seen out) (hf : seen.length ≤ 2000) : ∃ l, reached ops s = some l ∧ out.Perm l := by
  obtain ⟨h1, h2, h3⟩ := h.done
  cases hr : reached ops s with
  | none =>
    have := reached_none hr (fun x hx => (h2 x).2 hx)
    omega
  | some l =>
    obtain ⟨k1, _, _, k3⟩ := reached_some hr
    exact ⟨l, rfl, (List.perm_ext_iff_of_nodup h1 k1).2 fun x => (h2 x).trans (k3 x).symm⟩

end Go.Proofs.Ytcfcmmajlkkabaa
