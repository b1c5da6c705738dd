/- deepening: a search with a bound, and the searches with rising bounds, in plain Lean. 'range' over a map with words as keys, in whatever order: its step, for a round that leaves the map as it is. deepening.search: what the search has in memory. deepening.search: its second loop: the goal state that is chosen, the next bound; plain, and in memory. astar.Best: best-first search with a heuristic. No condition beyond what each theorem says. -/
import Derived.Test.YtkjmgafnaddhkaaGreatH5
import Derived.Maps.RangeRun
import Derived.Test.YtkjmgafnaddhkaaGreatH4
import Derived.Sort.LoopGhostIn

namespace Go.Proofs.YtkjmgafnaddhkaaGreat

/-- A way on which every state behind the first is worth no more than the bound: its operators and its states, the last one first. -/
inductive BWay (ops : List Wop) (st : Nat) (H : Nat → Int) (b : Int) : Nat → List Nat → List Nat → Prop
  | nil : BWay ops st H b st [] [st]
  | snoc {x : Nat} {q vs : List Nat} {a : Nat} {o : Wop} : BWay ops st H b x q vs → ops[a]? = some o → o.can x = true → H (o.next x) < 1000000000 → costN ops q + o.cost + H (o.next x) ≤ b → BWay ops st H b (o.next x) (q ++ [a]) (o.next x :: vs)

theorem costN_snocB {ops : List Wop} {a : Nat} {o : Wop} (h : ops[a]? = some o) (q : List Nat) : costN ops (q ++ [a]) = costN ops q + o.cost := by
  rw [costN_append]
  simp [costN, h]
theorem BWay.run {ops : List Wop} {st : Nat} {H : Nat → Int} {b : Int} {x : Nat} {q vs : List Nat} (h : BWay ops st H b x q vs) : runOps ops st q = some x := by
  induction h with
  | nil => rfl
  | snoc _ ho hc _ _ ih => exact runOps_snoc' ih ho hc
theorem BWay.len {ops : List Wop} {st : Nat} {H : Nat → Int} {b : Int} {x : Nat} {q vs : List Nat} (h : BWay ops st H b x q vs) : vs.length = q.length + 1 := by
  induction h with
  | nil => rfl
  | snoc _ _ _ _ _ ih => simp [ih]
theorem BWay.worth {ops : List Wop} {st : Nat} {H : Nat → Int} {b : Int} {x : Nat} {q vs : List Nat} (h : BWay ops st H b x q vs) (h0 : H st ≤ b) : costN ops q + H x ≤ b := by
  cases h with
  | nil => show (0 : Int) + _ ≤ b; omega
  | snoc _ ho _ _ hb => rw [costN_snocB ho]; exact hb

/-- What a search with the bound b finds: for each state the least cost of such a way. -/
structure RndOk (ops : List Wop) (st : Nat) (L : List Nat) (H : Nat → Int) (b : Int) (C : Nat → Option Int) : Prop where
  dom : ∀ x c, C x = some c → x ∈ L
  real : ∀ x c, C x = some c → ∃ q vs, BWay ops st H b x q vs ∧ costN ops q = c
  all : ∀ x q vs, BWay ops st H b x q vs → ∃ c, C x = some c ∧ c ≤ costN ops q
theorem RndOk.le {ops : List Wop} {st : Nat} {L L' : List Nat} {H : Nat → Int} {b : Int} {C C' : Nat → Option Int} (h : RndOk ops st L H b C) (h' : RndOk ops st L' H b C') {x : Nat} {c : Int} (hc : C x = some c) : ∃ c', C' x = some c' ∧ c' ≤ c := by
  obtain ⟨q, vs, h1, h2⟩ := h.real x c hc
  obtain ⟨c', h3, h4⟩ := h'.all x q vs h1
  exact ⟨c', h3, by omega⟩
theorem RndOk.unique {ops : List Wop} {st : Nat} {L L' : List Nat} {H : Nat → Int} {b : Int} {C C' : Nat → Option Int} (h : RndOk ops st L H b C) (h' : RndOk ops st L' H b C') : C = C' := by
  funext x
  cases hc : C x with
  | none =>
    cases hc' : C' x with
    | none => rfl
    | some c' =>
      obtain ⟨c, h1, _⟩ := h'.le h hc'
      rw [hc] at h1; cases h1
  | some c =>
    obtain ⟨c', h1, h2⟩ := h.le h' hc
    obtain ⟨c2, h3, h4⟩ := h'.le h h1
    rw [hc] at h3; cases h3
    rw [h1, show c' = c by omega]

def nVis (L : List Nat) (C : Nat → Option Int) : Nat := (L.filter fun x => (C x).isSome).length
def endsB (L : List Nat) (acc : Nat → Bool) (C : Nat → Option Int) : Bool := L.any fun x => (C x).isSome && acc x
theorem nVis_perm {L L' : List Nat} (h : L.Perm L') (C : Nat → Option Int) : nVis L C = nVis L' C := (h.filter _).length_eq
theorem endsB_perm {L L' : List Nat} (h : L.Perm L') (acc : Nat → Bool) (C : Nat → Option Int) : endsB L acc C = endsB L' acc C := by
  unfold endsB
  rw [Bool.eq_iff_iff, List.any_eq_true, List.any_eq_true]
  constructor
  · rintro ⟨x, hx, h1⟩; exact ⟨x, h.mem_iff.1 hx, h1⟩
  · rintro ⟨x, hx, h1⟩; exact ⟨x, h.mem_iff.2 hx, h1⟩
theorem nVis_le (L : List Nat) (C : Nat → Option Int) : nVis L C ≤ L.length := List.length_filter_le _ _
/-- A worth that is greater than the bound. -/
def Cand (ops : List Wop) (H : Nat → Int) (b : Int) (C : Nat → Option Int) (u : Int) : Prop := ∃ x c o, C x = some c ∧ o ∈ ops ∧ o.can x = true ∧ H (o.next x) < 1000000000 ∧ u = c + o.cost + H (o.next x) ∧ b < u
structure NextOk (ops : List Wop) (H : Nat → Int) (b : Int) (C : Nat → Option Int) (v : Int) : Prop where
  le : v ≤ 1000000000
  is : v = 1000000000 ∨ Cand ops H b C v
  least : ∀ u, Cand ops H b C u → v ≤ u
theorem NextOk.unique {ops : List Wop} {H : Nat → Int} {b : Int} {C : Nat → Option Int} {v v' : Int} (h : NextOk ops H b C v) (h' : NextOk ops H b C v') : v = v' := by
  have a : v ≤ v' := by
    rcases h'.is with e | e
    · rw [e]; exact h.le
    · exact h.least _ e
  have a' : v' ≤ v := by
    rcases h.is with e | e
    · rw [e]; exact h'.le
    · exact h'.least _ e
  omega
theorem NextOk.gt {ops : List Wop} {H : Nat → Int} {b : Int} {C : Nat → Option Int} {v : Int} (h : NextOk ops H b C v) (hb : b < 1000000000) : b < v := by
  rcases h.is with e | ⟨_, _, _, _, _, _, _, _, e⟩ <;> omega

/-! ### the rounds -/
/-- After the rounds with the bounds bs, none of which found a goal state, n states were visited, and b comes next. -/
inductive RunTo (ops : List Wop) (st : Nat) (L : List Nat) (acc : Nat → Bool) (H : Nat → Int) : List Int → Int → Int → Prop
  | start : RunTo ops st L acc H [] 0 (H st)
  | step {bs : List Int} {n b v : Int} {C : Nat → Option Int} : RunTo ops st L acc H bs n b → b < 1000000000 → RndOk ops st L H b C → endsB L acc C = false → NextOk ops H b C v → RunTo ops st L acc H (bs ++ [b]) (n + (nVis L C : Int)) v
/-- The end of the rounds: a goal state is found with the last bound, or there is none. -/
def RunEnd (ops : List Wop) (st : Nat) (L : List Nat) (acc : Nat → Bool) (H : Nat → Int) (bs : List Int) (n : Int) (fnd : Bool) (b : Int) : Prop :=
  (fnd = false ∧ RunTo ops st L acc H bs n b ∧ 1000000000 ≤ b) ∨
  (fnd = true ∧ b < 1000000000 ∧ ∃ bs0 n0 C, RunTo ops st L acc H bs0 n0 b ∧ RndOk ops st L H b C ∧ endsB L acc C = true ∧ bs = bs0 ++ [b] ∧ n = n0 + (nVis L C : Int))

section
variable {ops : List Wop} {st : Nat} {L L' : List Nat} {acc : Nat → Bool} {H : Nat → Int}
theorem RunTo.inv {bs : List Int} {n v : Int} (h : RunTo ops st L acc H bs n v) : (bs = [] ∧ n = 0 ∧ v = H st) ∨ ∃ bs0 n0 b C, RunTo ops st L acc H bs0 n0 b ∧ b < 1000000000 ∧ RndOk ops st L H b C ∧ endsB L acc C = false ∧ NextOk ops H b C v ∧ bs = bs0 ++ [b] ∧ n = n0 + (nVis L C : Int) := by
  cases h with
  | start => exact .inl ⟨rfl, rfl, rfl⟩
  | step h1 h2 h3 h4 h5 => exact .inr ⟨_, _, _, _, h1, h2, h3, h4, h5, rfl, rfl⟩
theorem RunTo.unique (hp : L.Perm L') : ∀ (k : Nat) {bs bs' : List Int} {n n' b b' : Int}, RunTo ops st L acc H bs n b → RunTo ops st L' acc H bs' n' b' → bs.length = k → bs'.length = k → bs = bs' ∧ n = n' ∧ b = b'
  | 0, bs, bs', n, n', b, b', h, h', hl, hl' => by
    have e := List.length_eq_zero_iff.1 hl
    have e' := List.length_eq_zero_iff.1 hl'
    subst e e'
    rcases h.inv with ⟨_, h2, h3⟩ | ⟨_, _, _, _, _, _, _, _, _, h, _⟩
    · rcases h'.inv with ⟨_, g2, g3⟩ | ⟨_, _, _, _, _, _, _, _, _, h, _⟩
      · exact ⟨rfl, by rw [h2, g2], by rw [h3, g3]⟩
      · exact absurd h.symm (by simp)
    · exact absurd h.symm (by simp)
  | k + 1, bs, bs', n, n', b, b', h, h', hl, hl' => by
    rcases h.inv with ⟨h1, _, _⟩ | ⟨bs0, n0, b0, C, h1, h2, h3, h4, h5, rfl, rfl⟩
    · rw [h1] at hl; simp at hl
    rcases h'.inv with ⟨g1, _, _⟩ | ⟨bs1, n1, b1, C', g1, g2, g3, g4, g5, rfl, rfl⟩
    · rw [g1] at hl'; simp at hl'
    obtain ⟨e1, e2, e3⟩ := RunTo.unique hp k h1 g1 (by simpa using hl) (by simpa using hl')
    subst e1 e2 e3
    have e := h3.unique g3
    subst e
    exact ⟨rfl, by rw [nVis_perm hp], h5.unique g5⟩
/-- The rounds before the last went on. -/
theorem RunTo.cut {bs : List Int} {n b : Int} (h : RunTo ops st L acc H bs n b) : ∀ k, k < bs.length → ∃ bs0 n0 b0 C, bs0.length = k ∧ RunTo ops st L acc H bs0 n0 b0 ∧ b0 < 1000000000 ∧ RndOk ops st L H b0 C ∧ endsB L acc C = false := by
  induction h with
  | start => intro k hk; simp at hk
  | @step bs n b v C h1 h2 h3 h4 _ ih =>
    intro k hk
    rw [List.length_append, List.length_singleton] at hk
    by_cases hlt : k < bs.length
    · exact ih k hlt
    · exact ⟨bs, n, b, C, by omega, h1, h2, h3, h4⟩
theorem RunEnd.unique (hp : L.Perm L') {bs bs' : List Int} {n n' b b' : Int} {f f' : Bool} (h : RunEnd ops st L acc H bs n f b) (h' : RunEnd ops st L' acc H bs' n' f' b') : bs = bs' ∧ n = n' ∧ f = f' ∧ b = b' := by
  have go : ∀ {L L' : List Nat} (_ : L.Perm L') {bs bs' : List Int} {n n' b b' : Int}, RunTo ops st L acc H bs n b → RunTo ops st L' acc H bs' n' b' → (1000000000 ≤ b ∨ ∃ C, RndOk ops st L H b C ∧ endsB L acc C = true) → ¬ bs.length < bs'.length := by
    intro L L' hp bs bs' n n' b b' h1 h2 h3 hlt
    obtain ⟨bs0, n0, b0, C, e, g1, g2, g3, g4⟩ := h2.cut _ hlt
    obtain ⟨_, _, e3⟩ := RunTo.unique hp bs.length h1 g1 rfl e
    subst e3
    rcases h3 with h3 | ⟨C', h3, h4⟩
    · omega
    · have e := h3.unique g3
      subst e
      rw [endsB_perm hp, g4] at h4; cases h4
  rcases h with ⟨f1, h1, h2⟩ | ⟨f1, h2, bs0, n0, C, h1, h3, h4, e1, e2⟩ <;> rcases h' with ⟨k1, g1, g2⟩ | ⟨k1, g2, bs1, n1, C', g1, g3, g4, e3, e4⟩
  · have a := go hp h1 g1 (.inl h2)
    have a' := go hp.symm g1 h1 (.inl g2)
    obtain ⟨e1, e2, e3⟩ := RunTo.unique hp bs.length h1 g1 rfl (by omega)
    exact ⟨e1, e2, by rw [f1, k1], e3⟩
  · have a := go hp h1 g1 (.inl h2)
    have a' := go hp.symm g1 h1 (.inr ⟨C', g3, g4⟩)
    obtain ⟨_, _, e⟩ := RunTo.unique hp bs.length h1 g1 rfl (by omega)
    omega
  · have a := go hp h1 g1 (.inr ⟨C, h3, h4⟩)
    have a' := go hp.symm g1 h1 (.inl g2)
    obtain ⟨_, _, e⟩ := RunTo.unique hp bs0.length h1 g1 rfl (by omega)
    omega
  · have a := go hp h1 g1 (.inr ⟨C, h3, h4⟩)
    have a' := go hp.symm g1 h1 (.inr ⟨C', g3, g4⟩)
    obtain ⟨q1, q2, q3⟩ := RunTo.unique hp bs0.length h1 g1 rfl (by omega)
    subst q1 q2 q3
    have e := h3.unique g3
    subst e
    exact ⟨by rw [e1, e3], by rw [e2, e4, nVis_perm hp], by rw [f1, k1], rfl⟩

/-- No bound is greater than what a plan costs. -/
theorem next_low (hsh : Shut ops L) (ad : Adm ops L acc H) {b v : Int} {C : Nat → Option Int} (hC : RndOk ops st L H b C) (he : endsB L acc C = false) (hv : NextOk ops H b C v) {p : List Nat} {y : Nat} (hr : runOps ops st p = some y) (ha : acc y = true) : v ≤ costN ops p := by
  have key : ∀ k, k ≤ p.length → v ≤ costN ops p ∨ ∃ z q vs, runOps ops st (p.take k) = some z ∧ BWay ops st H b z q vs ∧ costN ops q ≤ costN ops (p.take k) := by
    intro k
    induction k with
    | zero => intro _; exact .inr ⟨st, [], [st], rfl, .nil, by rw [List.take_zero]; exact Int.le_refl _⟩
    | succ k ih =>
      intro hk
      rcases ih (by omega) with h | ⟨z, q, vs, hz, hw, hle⟩
      · exact .inl h
      obtain ⟨a, hpa⟩ : ∃ a, p[k]? = some a := ⟨_, List.getElem?_eq_getElem (by omega)⟩
      have het : p.take (k + 1) = p.take k ++ [a] := by rw [List.take_add_one, hpa]; rfl
      obtain ⟨z', hz1, hz2⟩ := run_cut hr (k + 1)
      have hz1' := hz1
      rw [het] at hz1'
      obtain ⟨y0, o, g1, g2, g3, g4⟩ := runOps_snoc hz1'
      rw [hz] at g1; cases g1
      subst g4
      have hc1 : costN ops (p.take (k + 1)) = costN ops (p.take k) + o.cost := by rw [het, costN_snocB g2]
      have hsplit : costN ops p = costN ops (p.take (k + 1)) + costN ops (p.drop (k + 1)) := by rw [← costN_append, List.take_append_drop]
      obtain ⟨c, hc, hcle⟩ := hC.all _ _ _ hw
      obtain ⟨q2, vs2, hw2, hq2⟩ := hC.real _ _ hc
      have hzL := hC.dom _ _ hc
      have hlow := ad.low _ (hsh.2 z hzL o (List.mem_of_getElem? g2) g3) _ _ hz2 ha
      by_cases hb : c + o.cost + H (o.next z) ≤ b
      · exact .inr ⟨_, _, _, hz1, .snoc hw2 g2 g3 hlow.2 (by rw [hq2]; exact hb), by rw [costN_snocB g2]; omega⟩
      · have := hv.least _ ⟨z, c, o, hc, List.mem_of_getElem? g2, g3, hlow.2, rfl, by omega⟩
        exact .inl (by omega)
  rcases key p.length (Nat.le_refl _) with h | ⟨z, q, vs, hz, hw, _⟩
  · exact h
  · rw [List.take_length, hr] at hz; cases hz
    obtain ⟨c, hc, _⟩ := hC.all _ _ _ hw
    have hyL := hC.dom _ _ hc
    have : endsB L acc C = true := List.any_eq_true.2 ⟨_, hyL, by rw [hc, ha]; rfl⟩
    rw [he] at this; cases this
theorem RunTo.low (hsh : Shut ops L) (ad : Adm ops L acc H) (hst : st ∈ L) {bs : List Int} {n b : Int} (h : RunTo ops st L acc H bs n b) {p : List Nat} {y : Nat} (hr : runOps ops st p = some y) (ha : acc y = true) : b ≤ costN ops p := by
  cases h with
  | start => exact (ad.low st hst p y hr ha).1
  | step _ _ hC he hv => exact next_low hsh ad hC he hv hr ha
/-- The bounds rise, and the next one is greater than all. -/
theorem RunTo.rise {bs : List Int} {n b : Int} (h : RunTo ops st L acc H bs n b) : bs.Pairwise (· < ·) ∧ (∀ c ∈ bs, c < b) ∧ (bs ≠ [] → bs.head? = some (H st)) ∧ (bs = [] → b = H st) := by
  induction h with
  | start => exact ⟨.nil, by simp, fun h => absurd rfl h, fun _ => rfl⟩
  | @step bs n b v C _ hb _ _ hv ih =>
    have h1 := hv.gt hb
    refine ⟨List.pairwise_append.2 ⟨ih.1, List.pairwise_singleton _ _, fun a ha c hc => by rw [List.mem_singleton] at hc; subst hc; exact ih.2.1 a ha⟩, fun c hc => ?_, fun _ => ?_, fun h => absurd h (by simp)⟩
    · rcases List.mem_append.1 hc with h | h
      · have := ih.2.1 c h; omega
      · rw [List.mem_singleton] at h; omega
    · by_cases he : bs = []
      · subst he; rw [ih.2.2.2 rfl]; rfl
      · rw [List.head?_append, ih.2.2.1 he]; rfl

/-! ### the search with a bound -/
/-- An arc that the search does not follow, at the price n. -/
def Cut (H : Nat → Int) (b n : Int) (y : Nat) : Prop := 1000000000 ≤ H y ∨ b < n / 4096 + H y
/-- What stays of the search while the arcs of the state s are looked at: the arcs in R are still to do; A waits. -/
structure DeepI (ops : List Wop) (L : List Nat) (st : Nat) (H : Nat → Int) (b : Int) (P : Nat → Option Int) (par : Nat → Option SArc) (A : List Nat) (s : Nat) (R : List SArc) : Prop where
  dom : ∀ x p, P x = some p → x ∈ L
  start : P st = some 0 ∧ par st = none
  from_ : ∀ x p, P x = some p → x ≠ st → ∃ a, par x = some a ∧ ⟨a.op, a.price, x⟩ ∈ nextG ops L a.to ∧ ∃ q, P a.to = some q ∧ q + a.price ≤ p
  way : ∀ x p, P x = some p → ∃ q vs, BWay ops st H b x q vs ∧ wayN 4096 1 ops q = p ∧ vs.Nodup ∧ ∀ z ∈ vs, ∃ pz, P z = some pz ∧ pz ≤ p
  key : ∀ z ∈ A, ∃ p, P z = some p
  pend : ∀ x p, P x = some p → x ∈ A ∨ ∀ a ∈ nextG ops L x, Cut H b (p + a.price) a.to ∨ (∃ q, P a.to = some q ∧ q ≤ p + a.price) ∨ (x = s ∧ a ∈ R)

variable {b : Int} {P : Nat → Option Int} {par : Nat → Option SArc} {A : List Nat} {s : Nat} {R : List SArc}
theorem DeepI.init (hst : st ∈ L) (H : Nat → Int) (b : Int) : DeepI ops L st H b (putP (fun _ => none) st 0) (fun _ => none) [st] 0 [] := by
  have one : ∀ x p, putP (fun _ => none) st (0 : Int) x = some p → x = st ∧ p = 0 := fun x p h => by
    unfold putP at h
    split at h
    · rename_i e; cases h; exact ⟨e, rfl⟩
    · cases h
  refine ⟨fun x p h => by rw [(one x p h).1]; exact hst, ⟨putP_same _ _ _, rfl⟩, fun x p h hx => absurd (one x p h).1 hx, fun x p h => ?_, fun z hz => ?_, fun x p h => ?_⟩
  · obtain ⟨rfl, rfl⟩ := one x p h
    exact ⟨[], [x], .nil, wayN_nil _ _ _, by simp, fun z hz => by rw [List.mem_singleton] at hz; subst hz; exact ⟨0, putP_same _ _ _, Int.le_refl _⟩⟩
  · rw [List.mem_singleton] at hz; subst hz; exact ⟨0, putP_same _ _ _⟩
  · exact .inl (by rw [(one x p h).1]; exact List.mem_singleton.2 rfl)
theorem DeepI.bound (h : DeepI ops L st H b P par A s R) (h0 : ∀ o ∈ ops, 0 ≤ o.cost ∧ o.cost ≤ 100) (hL : L.length ≤ 2000) {x : Nat} {p : Int} (hp : P x = some p) : 0 ≤ p ∧ p ≤ 819200000 ∧ ∃ q vs, BWay ops st H b x q vs ∧ p = 4096 * costN ops q + (q.length : Int) ∧ q.length + 1 ≤ 2000 := by
  obtain ⟨q, vs, hw, he, hnd, hall⟩ := h.way x p hp
  have h1 := nodup_sub_length hnd (b := L) (fun z hz => by obtain ⟨pz, h2, _⟩ := hall z hz; exact h.dom z pz h2)
  have h2 := hw.len
  have h3 := costN_bound h0 q
  rw [wayN_split] at he
  exact ⟨by omega, by omega, q, vs, hw, by omega, by omega⟩
theorem DeepI.take {x : Nat} (h : DeepI ops L st H b P par (x :: A) s []) : DeepI ops L st H b P par A x (nextG ops L x) :=
  ⟨h.dom, h.start, h.from_, h.way, fun z hz => h.key z (by simp [hz]), fun y p hp => by
    by_cases e : y = x
    · subst e; exact .inr fun a ha => .inr (.inr ⟨rfl, ha⟩)
    · rcases h.pend y p hp with h1 | h1
      · rcases List.mem_cons.1 h1 with e' | h2
        · exact absurd e' e
        · exact .inl h2
      · exact .inr fun a ha => by
          rcases h1 a ha with h2 | h2 | ⟨_, h2⟩
          · exact .inl h2
          · exact .inr (.inl h2)
          · simp at h2⟩
/-- An arc that is not followed. -/
theorem DeepI.skip {a : SArc} (h : DeepI ops L st H b P par A s (a :: R)) {p : Int} (hp : P s = some p) (hc : Cut H b (p + a.price) a.to ∨ ∃ q, P a.to = some q ∧ q ≤ p + a.price) : DeepI ops L st H b P par A s R :=
  ⟨h.dom, h.start, h.from_, h.way, h.key, fun y u hu => by
    rcases h.pend y u hu with h1 | h1
    · exact .inl h1
    · refine .inr fun c hcm => ?_
      rcases h1 c hcm with h2 | h2 | ⟨rfl, h2⟩
      · exact .inl h2
      · exact .inr (.inl h2)
      · rcases List.mem_cons.1 h2 with rfl | h3
        · rw [hp] at hu; cases hu
          rcases hc with h4 | h4
          · exact .inl h4
          · exact .inr (.inl h4)
        · exact .inr (.inr ⟨rfl, h3⟩)⟩
/-- An arc that gives a better price. -/
theorem DeepI.fall {a : SArc} (h : DeepI ops L st H b P par A s (a :: R)) (hsh : Shut ops L) (h0 : ∀ o ∈ ops, 0 ≤ o.cost ∧ o.cost ≤ 100) (hL : L.length ≤ 2000) (ha : a ∈ nextG ops L s) {p : Int} (hp : P s = some p) (hlt : ∀ q, P a.to = some q → p + a.price < q) (hc : ¬ Cut H b (p + a.price) a.to) :
    DeepI ops L st H b (putP P a.to (p + a.price)) (putP par a.to ⟨a.op, a.price, s⟩) (A ++ [a.to]) s R := by
  obtain ⟨o, g1, g2, g3, g4⟩ := nextG_only s a ha
  have hpr := nextG_price h0 s a ha
  have hb := h.bound h0 hL hp
  have hne : a.to ≠ s := fun e => by have := hlt p (by rw [e]; exact hp); omega
  have hns : a.to ≠ st := fun e => by have := hlt 0 (by rw [e]; exact h.start.1); omega
  have hin : a.to ∈ L := nextG_in hsh _ _ ha
  have mono : ∀ y u, P y = some u → ∃ u', putP P a.to (p + a.price) y = some u' ∧ u' ≤ u := fun y u hu => by
    by_cases hy : y = a.to
    · subst hy; exact ⟨_, putP_same _ _ _, by have := hlt u hu; omega⟩
    · exact ⟨u, by rw [putP_other _ _ hy]; exact hu, Int.le_refl _⟩
  refine ⟨fun y u hu => ?_, ⟨by rw [putP_other _ _ (fun e => hns e.symm)]; exact h.start.1, by rw [putP_other _ _ (fun e => hns e.symm)]; exact h.start.2⟩, fun y u hu hy => ?_, fun y u hu => ?_, fun z hz => ?_, fun y u hu => ?_⟩
  · by_cases hy : y = a.to
    · subst hy; exact hin
    · rw [putP_other _ _ hy] at hu; exact h.dom y u hu
  · by_cases e : y = a.to
    · subst e
      rw [putP_same] at hu; cases hu
      exact ⟨_, putP_same _ _ _, ha, p, by rw [putP_other _ _ (fun e => hne e.symm)]; exact hp, Int.le_refl _⟩
    · rw [putP_other _ _ e] at hu
      obtain ⟨d, h1, h2, q, hq, hle⟩ := h.from_ y u hu hy
      obtain ⟨q', hq', hle'⟩ := mono _ _ hq
      exact ⟨d, by rw [putP_other _ _ e]; exact h1, h2, q', hq', by omega⟩
  · by_cases e : y = a.to
    · subst e
      rw [putP_same] at hu; cases hu
      obtain ⟨q, vs, hw, he, hnd, hall⟩ := h.way s p hp
      have hlen := nodup_sub_length hnd (b := L) (fun z hz => by obtain ⟨pz, h2, _⟩ := hall z hz; exact h.dom z pz h2)
      have hl2 := hw.len
      have hnot : a.to ∉ vs := fun hm => by
        obtain ⟨pz, h1, h2⟩ := hall _ hm
        have := hlt pz h1; omega
      have hsp := wayN_split ops q
      unfold Cut at hc
      have hdiv : (p + a.price) / 4096 = costN ops q + o.cost := by omega
      have hw2 := BWay.snoc hw g1 g2 (by rw [← g3]; omega) (by rw [← g3]; omega)
      rw [← g3] at hw2
      refine ⟨q ++ [a.op], a.to :: vs, hw2, by rw [wayN_append, wayN_one g1, he, g4], List.nodup_cons.2 ⟨hnot, hnd⟩, fun z hz => ?_⟩
      rcases List.mem_cons.1 hz with rfl | hz
      · exact ⟨_, putP_same _ _ _, Int.le_refl _⟩
      · obtain ⟨pz, h1, h2⟩ := hall z hz
        obtain ⟨q', hq', hle'⟩ := mono _ _ h1
        exact ⟨q', hq', by omega⟩
    · rw [putP_other _ _ e] at hu
      obtain ⟨q, vs, hw, he, hnd, hall⟩ := h.way y u hu
      refine ⟨q, vs, hw, he, hnd, fun z hz => ?_⟩
      obtain ⟨pz, h1, h2⟩ := hall z hz
      obtain ⟨q', hq', hle'⟩ := mono _ _ h1
      exact ⟨q', hq', by omega⟩
  · rcases List.mem_append.1 hz with h1 | h1
    · obtain ⟨u, hu⟩ := h.key z h1
      obtain ⟨q', hq', _⟩ := mono _ _ hu
      exact ⟨q', hq'⟩
    · rw [List.mem_singleton] at h1; subst h1; exact ⟨_, putP_same _ _ _⟩
  · by_cases e : y = a.to
    · exact .inl (by rw [e]; simp)
    · rw [putP_other _ _ e] at hu
      rcases h.pend y u hu with h1 | h1
      · exact .inl (by simp [h1])
      · refine .inr fun d hd => ?_
        rcases h1 d hd with h2 | ⟨q, hq, hle⟩ | ⟨rfl, h2⟩
        · exact .inl h2
        · obtain ⟨q', hq', hle'⟩ := mono _ _ hq
          exact .inr (.inl ⟨q', hq', by omega⟩)
        · rcases List.mem_cons.1 h2 with rfl | h3
          · rw [hp] at hu; cases hu
            exact .inr (.inl ⟨_, putP_same _ _ _, Int.le_refl _⟩)
          · exact .inr (.inr ⟨rfl, h3⟩)

/-! ### the search's end -/
/-- The prices at the end of the search: each is that of a way, and no arc gives a better one. -/
structure RndP (ops : List Wop) (L : List Nat) (st : Nat) (H : Nat → Int) (b : Int) (P : Nat → Option Int) : Prop where
  dom : ∀ x p, P x = some p → x ∈ L
  start : P st = some 0
  real : ∀ x p, P x = some p → 0 ≤ p ∧ p ≤ 819200000 ∧ ∃ q vs, BWay ops st H b x q vs ∧ p = 4096 * costN ops q + (q.length : Int) ∧ q.length + 1 ≤ 2000
  relax : ∀ (x : Nat) (p : Int) (i : Nat) (o : Wop), P x = some p → ops[i]? = some o → o.can x = true → H (o.next x) < 1000000000 → (p + (4096 * o.cost + 1)) / 4096 + H (o.next x) ≤ b → ∃ q, P (o.next x) = some q ∧ q ≤ p + (4096 * o.cost + 1)
theorem DeepI.done (h : DeepI ops L st H b P par [] s []) (h0 : ∀ o ∈ ops, 0 ≤ o.cost ∧ o.cost ≤ 100) (hL : L.length ≤ 2000) : RndP ops L st H b P :=
  ⟨h.dom, h.start.1, fun x p hp => h.bound h0 hL hp, fun x p i o hp ho hc hH hb => by
    rcases h.pend x p hp with h1 | h1
    · simp at h1
    · rcases h1 _ (nextG_all x o i (h.dom x p hp) ho hc) with h2 | h2 | ⟨_, h2⟩
      · unfold Cut at h2; simp only at h2; omega
      · exact h2
      · simp at h2⟩
theorem RndP.all (h : RndP ops L st H b P) {x : Nat} {q vs : List Nat} (hw : BWay ops st H b x q vs) : ∃ p, P x = some p ∧ p ≤ wayN 4096 1 ops q ∧ p / 4096 ≤ costN ops q := by
  induction hw with
  | nil => exact ⟨0, h.start, by rw [wayN_nil]; exact Int.le_refl _, by show (0 : Int) / 4096 ≤ 0; decide⟩
  | @snoc x q vs a o _ ho hc hH hb ih =>
    obtain ⟨p, hp, h1, h2⟩ := ih
    obtain ⟨_, _, q0, vs0, hw0, he, hl⟩ := h.real x p hp
    obtain ⟨p', hp', hle⟩ := h.relax x p a o hp ho hc hH (by omega)
    exact ⟨p', hp', by rw [wayN_append, wayN_one ho]; omega, by rw [costN_snocB ho]; omega⟩
/-- The costs at the end of the search. -/
def costP (P : Nat → Option Int) : Nat → Option Int := fun x => (P x).map (· / 4096)
theorem costP_some {x : Nat} {c : Int} (h : costP P x = some c) : ∃ p, P x = some p ∧ c = p / 4096 := by
  unfold costP at h
  cases hp : P x with
  | none => rw [hp] at h; cases h
  | some p => rw [hp] at h; cases h; exact ⟨p, rfl, rfl⟩
theorem costP_of {x : Nat} {p : Int} (h : P x = some p) : costP P x = some (p / 4096) := by unfold costP; rw [h]; rfl
theorem RndP.rnd (h : RndP ops L st H b P) : RndOk ops st L H b (costP P) := by
  refine ⟨fun x c hc => ?_, fun x c hc => ?_, fun x q vs hw => ?_⟩
  · obtain ⟨p, hp, _⟩ := costP_some hc
    exact h.dom x p hp
  · obtain ⟨p, hp, rfl⟩ := costP_some hc
    obtain ⟨_, _, q, vs, hw, he, hl⟩ := h.real x p hp
    exact ⟨q, vs, hw, by omega⟩
  · obtain ⟨p, hp, _, h2⟩ := h.all hw
    exact ⟨_, costP_of hp, h2⟩
/-- The parents at the end of the search are those of one side. -/
theorem DeepI.side (h : DeepI ops L st H b P par [] s []) (h0 : ∀ o ∈ ops, 0 ≤ o.cost ∧ o.cost ≤ 100) (hL : L.length ≤ 2000) : ∃ G : Nat → List SArc, (∀ y, ∀ c ∈ G y, c ∈ nextG ops L y) ∧ SideI G (fun x => x ∈ [st]) L 409601 P par [] 0 [] := by
  refine ⟨fun x => (nextG ops L x).filter fun a => match P x, P a.to with | some p, some q => decide (q ≤ p + a.price) | _, _ => false, fun y c hc => (List.mem_filter.1 hc).1, h.dom, fun x p hp => ?_, fun x hx => ?_, fun x p hp hx => ?_, fun z hz => (by simp at hz), fun x p hp => .inr fun a ha => ?_⟩
  · obtain ⟨q, vs, hw, he, hnd, hall⟩ := h.way x p hp
    have h1 : vs.length ≤ knownB L P := by
      unfold knownB
      rw [List.countP_eq_length_filter]
      exact nodup_sub_length hnd (fun z hz => by
        obtain ⟨pz, h2, _⟩ := hall z hz
        exact List.mem_filter.2 ⟨h.dom z pz h2, by rw [h2]; rfl⟩)
    have h2 := hw.len
    have h3 := costN_bound h0 q
    rw [wayN_split] at he
    exact ⟨by omega, by omega⟩
  · rw [List.mem_singleton] at hx; subst hx; exact h.start
  · obtain ⟨a, h1, h2, q, hq, hle⟩ := h.from_ x p hp (fun e => hx (List.mem_singleton.2 e))
    have hpr := nextG_price h0 _ _ h2
    simp only at hpr
    obtain ⟨o, g1, g2, g3, g4⟩ := nextG_only _ _ h2
    simp only at g1 g2 g3 g4
    refine ⟨a, h1, List.mem_filter.2 ⟨h2, ?_⟩, q, hq, hle⟩
    simp only [hq, hp]
    have hb := h.bound h0 hL hq
    obtain ⟨_, _, q0, vs0, hw0, he0, hl0⟩ := hb
    have hx2 : ∃ q', P x = some q' ∧ q' ≤ q + a.price := by
      by_cases hst : x = st
      · exact absurd (List.mem_singleton.2 hst) hx
      obtain ⟨_, _, q1, vs1, hw1, he1, hl1⟩ := h.bound h0 hL hp
      have hH : H x < 1000000000 ∧ costN ops q1 + H x ≤ b := by
        cases hw1 with
        | nil => exact absurd rfl hst
        | snoc _ ho _ hH hb => exact ⟨hH, by rw [costN_snocB ho]; exact hb⟩
      have := (h.done h0 hL).relax a.to q a.op o hq g1 g2 (by rw [← g3]; exact hH.1) (by rw [← g3]; omega)
      rw [← g3, ← g4] at this
      exact this
    obtain ⟨q', h3, h4⟩ := hx2
    rw [hp] at h3; cases h3
    simpa using h4
  · obtain ⟨h1, h2⟩ := List.mem_filter.1 ha
    rw [hp] at h2
    cases hq : P a.to with
    | none => rw [hq] at h2; cases h2
    | some q => rw [hq] at h2; exact .inl ⟨q, rfl, by simpa using h2⟩

/-- The goal state that the search chooses. -/
structure GoalOk (acc : Nat → Bool) (P : Nat → Option Int) (fnd : Bool) (g : Nat) : Prop where
  none_ : fnd = false → ∀ x p, P x = some p → acc x = false
  some_ : fnd = true → ∃ p, P g = some p ∧ acc g = true ∧ ∀ x q, P x = some q → acc x = true → p ≤ q
theorem GoalOk.ends {fnd : Bool} {g : Nat} (h : GoalOk acc P fnd g) (hd : ∀ x p, P x = some p → x ∈ L) : endsB L acc (costP P) = fnd := by
  unfold endsB
  cases fnd with
  | false =>
    rw [List.any_eq_false]
    intro x hx
    cases hp : P x with
    | none => simp [costP, hp]
    | some p => simp [h.none_ rfl x p hp]
  | true =>
    obtain ⟨p, hp, ha, _⟩ := h.some_ rfl
    exact List.any_eq_true.2 ⟨g, hd g p hp, by rw [costP_of hp, ha]; rfl⟩
/-- A goal state that is found ends a best plan. -/
theorem deep_found (hsh : Shut ops L) (h0 : ∀ o ∈ ops, 0 ≤ o.cost ∧ o.cost ≤ 100) (hL : L.length ≤ 2000) (ad : Adm ops L acc H) (hst : st ∈ L) {bs : List Int} {n : Int} (hr : RunTo ops st L acc H bs n b) (hd : DeepI ops L st H b P par [] s []) {g : Nat} (hg : GoalOk acc P true g) :
    ∃ p out, P g = some p ∧ Chain par g out st ∧ out.length ≤ L.length ∧ runOps ops st out.reverse = some g ∧ wayN 4096 1 ops out.reverse = p ∧ LeastOf 4096 1 ops st acc p ∧ p / 4096 = b := by
  have hP := hd.done h0 hL
  obtain ⟨p, hp, ha, hmin⟩ := hg.some_ rfl
  obtain ⟨hp0, _, q, vs, hw, he, hl⟩ := hP.real g p hp
  have hc := hr.low hsh ad hst hw.run ha
  have hH0 := ad.low g (hP.dom _ _ hp) [] g rfl ha
  have hH1 := ad.lo g (hP.dom _ _ hp)
  have hn0 : costN ops [] = 0 := rfl
  have hsb : H st ≤ b := by
    obtain ⟨hbs, _, h3, h4⟩ := hr.rise
    by_cases he : bs = []
    · rw [h4 he]; exact Int.le_refl _
    · have h5 := h3 he
      have h6 := hr.rise.2.1 (H st) (List.mem_of_mem_head? h5)
      omega
  have hcb : costN ops q + H g ≤ b := hw.worth hsb
  have hcq : costN ops q = b := by omega
  have least : ∀ r y, runOps ops st r = some y → acc y = true → p ≤ wayN 4096 1 ops r := by
    intro r y hry hay
    have h1 := hr.low hsh ad hst hry hay
    rw [wayN_split]
    by_cases hlt : b < costN ops r
    · omega
    · have hreq : costN ops r = b := by omega
      have key : ∀ k, k ≤ r.length → ∀ z, runOps ops st (r.take k) = some z → ∃ vs, BWay ops st H b z (r.take k) vs := by
        intro k
        induction k with
        | zero => intro _ z hz; rw [List.take_zero] at hz; cases hz; exact ⟨_, .nil⟩
        | succ k ih =>
          intro hk z hz
          obtain ⟨a, hra⟩ : ∃ a, r[k]? = some a := ⟨_, List.getElem?_eq_getElem (by omega)⟩
          have het : r.take (k + 1) = r.take k ++ [a] := by rw [List.take_add_one, hra]; rfl
          obtain ⟨z', hz1, hz2⟩ := run_cut hry (k + 1)
          rw [hz] at hz1; cases hz1
          rw [het] at hz
          obtain ⟨y0, o, g1, g2, g3, g4⟩ := runOps_snoc hz
          subst g4
          obtain ⟨vs, hv⟩ := ih (by omega) y0 g1
          have hy0 : y0 ∈ L := by
            obtain ⟨p0, hp0, _⟩ := hP.all hv
            exact hP.dom _ _ hp0
          have hlow := ad.low _ (hsh.2 y0 hy0 o (List.mem_of_getElem? g2) g3) _ _ hz2 hay
          have hsplit : costN ops r = costN ops (r.take (k + 1)) + costN ops (r.drop (k + 1)) := by rw [← costN_append, List.take_append_drop]
          rw [het, costN_snocB g2] at hsplit
          rw [het]
          exact ⟨_, .snoc hv g2 g3 hlow.2 (by omega)⟩
      obtain ⟨vs, hv⟩ := key r.length (Nat.le_refl _) y (by rw [List.take_length]; exact hry)
      rw [List.take_length] at hv
      obtain ⟨p', hp', hle, _⟩ := hP.all hv
      have := hmin y p' hp' hay
      rw [wayN_split] at hle
      omega
  obtain ⟨G, hG, hs⟩ := hd.side h0 hL
  obtain ⟨out, e, hch, hes, hlo⟩ := hs.back (fun y c hc => (nextG_price h0 y c (hG y c hc)).1) hp
  rw [List.mem_singleton] at hes
  subst hes
  obtain ⟨r1, w1⟩ := hs.chainF (fun y c hc => nextG_only y c (hG y c hc)) hch hp
  have heq : wayN 4096 1 ops out.reverse = p := by have := least _ _ r1 ha; omega
  exact ⟨p, out, hp, hch, hlo, r1, heq, .inr ⟨hp0, ⟨_, _, r1, ha, heq⟩, least⟩, by omega⟩
/-- The bounds end without a goal state: there is no plan. -/
theorem deep_none (hsh : Shut ops L) (h0 : ∀ o ∈ ops, 0 ≤ o.cost ∧ o.cost ≤ 100) (hL : L.length ≤ 2000) (hcl : ∀ p y, runOps ops st p = some y → y ∈ L) (ad : Adm ops L acc H) (hst : st ∈ L) {bs : List Int} {n : Int} (hr : RunTo ops st L acc H bs n b) (hb : 1000000000 ≤ b) : LeastOf 4096 1 ops st acc (-1) := by
  refine .inl ⟨rfl, fun p y hp => ?_⟩
  cases ha : acc y with
  | false => rfl
  | true =>
    obtain ⟨q, h1, h2, h3⟩ := short_run h0 hcl p.length (Nat.le_refl _) hp
    have h4 := hr.low hsh ad hst h1 ha
    have h5 := (costN_bound h0 q).2
    omega
end

end Go.Proofs.YtkjmgafnaddhkaaGreat

namespace Go.Proofs.YtkjmgafnaddhkaaGreat
open Go.RowKit

/-- The stamps of a map's entries: no two alike, each below the clock. -/
def Stamp (w : World) (b : Nat) : Prop := ∃ es c, w.heap[b]? = some (.map es c) ∧ (∀ x ∈ es.toList, x.born < c) ∧ (es.toList.map (·.born)).Nodup
theorem Stamp.keeps {S : Nat → Prop} {w w' : World} {b : Nat} (h : Stamp w b) (hk : Keeps S w w') (hs : ¬ S b) : Stamp w' b := by
  obtain ⟨es, c, h1, h2⟩ := h
  exact ⟨es, c, hk.heap h1 hs, h2⟩
theorem Stamp.made (w : World) : Stamp (w.alloc (.map #[] 0)) w.heap.size := ⟨#[], 0, MapKept.heap_alloc w _ |>.1, by simp, by simp⟩
section
variable {α : Type} {w : World} {b : Nat} {enc : α → Value} {f : Nat → Option α} {P : Program} {t k e : TypeId}
theorem Stamp.put {w' : World} (hs : Stamp w b) (h : FMap w b enc f) (ht : P.underlying t = some (.map k e)) (hk : P.underlying k = some (.int .u32)) {x : Nat} {v : Value} (hr : (Instr.mapUpdate t (.map (some b)) (.int .u32 (x : Int)) v).run P w = .ok () w') : Stamp w' b := by
  obtain ⟨l0, ⟨es, c, hb, he⟩, hn0, hf⟩ := h
  obtain ⟨es', c', hb', h1, h2⟩ := hs
  rw [hb] at hb'
  simp only [Option.some.injEq, Obj.map.injEq] at hb'
  obtain ⟨rfl, rfl⟩ := hb'
  have hn := fkeys_nodup (enc := enc) hn0
  cases hx : f x with
  | none =>
    have hf2 := run_findKey_none (P := P) (w := w) hk he (fkeys_miss hf hx)
    have hw : (Instr.mapUpdate t (.map (some b)) (.int .u32 (x : Int)) v).run P w = .ok () { w with heap := w.heap.setIfInBounds b (.map (es.push { key := .int .u32 (x : Int), val := v, born := c }) (c + 1)) } := by
      simp [Instr.mapUpdate, run_underlying ht, MapKept.run_getObj_map hb, run_checkKey_int hk, hf2, MapKept.run_setObj_map _ hb, Result.andThen]
    rw [hw] at hr
    simp only [Result.ok.injEq, true_and] at hr
    subst hr
    refine ⟨_, _, heap_setObj hb, fun y hy => ?_, ?_⟩
    · rw [Array.toList_push] at hy
      rcases List.mem_append.1 hy with hy | hy
      · have := h1 y hy; omega
      · rw [List.mem_singleton] at hy; subst hy; simp
    · rw [Array.toList_push, List.map_append, List.nodup_append]
      refine ⟨h2, by simp, fun a ha d hd had => ?_⟩
      obtain ⟨y, hy, rfl⟩ := List.mem_map.1 ha
      simp only [List.map_cons, List.map_nil, List.mem_singleton] at hd
      have := h1 y hy; omega
  | some u =>
    have hm : ((x : Int), enc u) ∈ l0.map fun p => ((p.1 : Int), enc p.2) := List.mem_map.2 ⟨(x, u), (hf x u).1 hx, rfl⟩
    obtain ⟨j, hj⟩ := List.mem_iff_getElem?.1 hm
    have hf2 := run_findKey_some (P := P) (w := w) hk hn he hj
    have hkey : ((es[j]?).map (·.key)).getD (.int .u32 (x : Int)) = .int .u32 (x : Int) := by
      have : (es.toList.map (fun e => (e.key, e.val)))[j]? = some (.int .u32 (x : Int), enc u) := by rw [he, List.getElem?_map, hj]; rfl
      rw [List.getElem?_map] at this
      simp at this
      obtain ⟨a, ha, hb, hc⟩ := this
      simp [ha, hb]
    have hstay : (Instr.keyThatStays (.int .u32 (x : Int)) (.int .u32 (x : Int))).run P w = .ok (.int .u32 (x : Int)) w := by
      have : Instr.sameBits (9999 + 1) (.int .u32 (x : Int)) (.int .u32 (x : Int)) = true := by simp [Instr.sameBits]
      unfold Instr.keyThatStays
      rw [if_pos this]; rfl
    have hw : (Instr.mapUpdate t (.map (some b)) (.int .u32 (x : Int)) v).run P w = .ok () { w with heap := w.heap.setIfInBounds b (.map (es.modify j fun e => { e with key := .int .u32 (x : Int), val := v }) c) } := by
      simp [Instr.mapUpdate, run_underlying ht, MapKept.run_getObj_map hb, run_checkKey_int hk, hf2, hkey, hstay, MapKept.run_setObj_map _ hb, Result.andThen]
    rw [hw] at hr
    simp only [Result.ok.injEq, true_and] at hr
    subst hr
    have hmap : (es.modify j fun e => { e with key := .int .u32 (x : Int), val := v }).toList.map (·.born) = es.toList.map (·.born) := by
      apply List.ext_getElem?
      intro i
      simp only [List.getElem?_map, Array.getElem?_toList]
      rw [Array.getElem?_modify]
      by_cases hij : j = i
      · subst hij; cases es[j]? <;> simp
      · simp [hij]
    refine ⟨_, _, heap_setObj hb, fun y hy => ?_, by rw [hmap]; exact h2⟩
    have : y.born ∈ es.toList.map (·.born) := by rw [← hmap]; exact List.mem_map.2 ⟨y, hy, rfl⟩
    obtain ⟨z, hz, hzb⟩ := List.mem_map.1 this
    rw [← hzb]; exact h1 z hz

/-- Block r ranges over the map of block b; left: the keys that are still to come, cnt of them. -/
def RgF (w : World) (b r : Nat) (enc : α → Value) (f : Nat → Option α) (left : Nat → Bool) (cnt : Nat) : Prop :=
  ∃ es c since seen c0, ∃ l : List (Nat × α), w.heap[b]? = some (.map es c) ∧ es.toList.map (fun e => (e.key, e.val)) = l.map (fun p => (Value.int .u32 (p.1 : Int), enc p.2)) ∧ (l.map Prod.fst).Nodup ∧ (∀ x v, f x = some v ↔ (x, v) ∈ l) ∧
    w.heap[r]? = some (.mapIter (some b) since seen c0) ∧ (∀ x ∈ es.toList, x.born < since) ∧ (es.toList.map (·.born)).Nodup ∧ since ≤ c0 ∧ since ≤ c ∧ (leftOf es seen).size = cnt ∧
    (∀ (i : Nat) (x : Nat) (v : α) (y : MapEntry), l[i]? = some (x, v) → es[i]? = some y → left x = !seen.contains y.born) ∧ ∀ x, left x = true → (f x).isSome = true
theorem RgF.keeps {S : Nat → Prop} {w' : World} {r : Nat} {left : Nat → Bool} {cnt : Nat} (h : RgF w b r enc f left cnt) (hk : Keeps S w w') (hb : ¬ S b) (hr : ¬ S r) : RgF w' b r enc f left cnt := by
  obtain ⟨es, c, since, seen, c0, l, h1, h2, h3, h4, h5, h6⟩ := h
  exact ⟨es, c, since, seen, c0, l, hk.heap h1 hb, h2, h3, h4, hk.heap h5 hr, h6⟩
theorem RgF.lt {r : Nat} {left : Nat → Bool} {cnt : Nat} (h : RgF w b r enc f left cnt) : r < w.heap.size := by
  obtain ⟨es, c, since, seen, c0, l, _, _, _, _, h5, _⟩ := h
  exact lt_of_heap h5
theorem RgF.nd {r : Nat} {left : Nat → Bool} {cnt : Nat} (h : RgF w b r enc f left cnt) : w.heap[r]? ≠ some (.deferred (some [])) := by
  obtain ⟨es, c, since, seen, c0, l, _, _, _, _, h5, _⟩ := h
  rw [h5]; simp
theorem RgF.ne_cells {r : Nat} {left : Nat → Bool} {cnt : Nat} (h : RgF w b r enc f left cnt) {g : Nat} {cs : Array Value} {T : TypeId} {fr : Nat × Nat} (hg : w.heap[g]? = some (.cells cs T fr)) : r ≠ g := fun e => by
  obtain ⟨es, c, since, seen, c0, l, _, _, _, _, h5, _⟩ := h
  rw [e, hg] at h5; cases h5
theorem RgF.fmap {r : Nat} {left : Nat → Bool} {cnt : Nat} (h : RgF w b r enc f left cnt) : FMap w b enc f := by
  obtain ⟨es, c, since, seen, c0, l, h1, h2, h3, h4, _⟩ := h
  exact ⟨l, ⟨es, c, h1, by rw [h2, List.map_map]; rfl⟩, h3, h4⟩
/-- 'range m'. -/
theorem FMap.range (h : FMap w b enc f) (hs : Stamp w b) (ht : P.underlying t = some (.map k e)) : ∃ (w' : World) (n : Nat), (Instr.range t (.map (some b))).run P w = .ok (.pointer (some ⟨w.heap.size, 0, none⟩)) w' ∧ RgF w' b w.heap.size enc f (fun x => (f x).isSome) n ∧ Keeps (fun _ => False) w w' := by
  have hlt := h.lt
  obtain ⟨l, ⟨es, c, hb, he⟩, hn, hf⟩ := h
  obtain ⟨es', c', hb', h1, h2⟩ := hs
  rw [hb] at hb'
  simp only [Option.some.injEq, Obj.map.injEq] at hb'
  obtain ⟨rfl, rfl⟩ := hb'
  have hk := (Keeps.refl (fun _ => False) w).alloc (.mapIter (some b) c #[] c)
  refine ⟨_, _, run_range_map w t k e b es c ht hb, ⟨es, c, c, #[], c, l, hk.heap hb (fun h => h), by rw [he, List.map_map]; rfl, hn, hf, heap_alloc_new w _, h1, h2, Nat.le_refl _, Nat.le_refl _, rfl, fun i x v y hi hy => ?_, fun x hx => hx⟩, hk⟩
  dsimp only
  rw [(hf x v).2 (List.mem_of_getElem? hi)]
  simp
/-- The step. -/
theorem RgF.next {r : Nat} {left : Nat → Bool} {cnt : Nat} (h : RgF w b r enc f left cnt) (P : Program) :
    ((∀ x, left x = false) ∧ ∀ ty, (Instr.next (.pointer (some ⟨r, 0, none⟩)) false ty).run P w = .ok (.tuple #[.bool false]) w) ∨
    ∃ (x : Nat) (v : α) (w' : World) (cnt' : Nat), left x = true ∧ f x = some v ∧ (∀ ty, (Instr.next (.pointer (some ⟨r, 0, none⟩)) false ty).run P w = .ok (.tuple #[.bool true, .int .u32 (x : Int), enc v]) w') ∧ (Instr.entry (.pointer (some ⟨r, 0, none⟩))).run P w' = .ok (.tuple #[.int .u32 (x : Int), enc v]) w' ∧
      RgF w' b r enc f (fun z => left z && decide (z ≠ x)) cnt' ∧ cnt' < cnt ∧ Keeps (fun j => j = r) w w' := by
  obtain ⟨es, c, since, seen, c0, l, hb, he, hn, hf, hr, hold, hnb, hsc, hsk, hcnt, hleft, hdom⟩ := h
  have hll : es.toList.length = l.length := by have := congrArg List.length he; simpa using this
  have at_ : ∀ (i : Nat) (y : MapEntry), es[i]? = some y → ∃ p, l[i]? = some p ∧ y.key = .int .u32 (p.1 : Int) ∧ y.val = enc p.2 := fun i y hy => by
    have h1 : (es.toList.map (fun e => (e.key, e.val)))[i]? = some (y.key, y.val) := by rw [List.getElem?_map, Array.getElem?_toList, hy]; rfl
    rw [he, List.getElem?_map] at h1
    cases hp : l[i]? with
    | none => rw [hp] at h1; cases h1
    | some p => rw [hp] at h1; simp at h1; exact ⟨p, rfl, h1.1.symm, h1.2.symm⟩
  have hne : r ≠ b := fun e => by rw [e, hb] at hr; cases hr
  by_cases h0 : (leftOf es seen).size = 0
  · left
    refine ⟨fun x => ?_, fun ty => ?_⟩
    · cases hx : left x with
      | false => rfl
      | true =>
        exfalso
        obtain ⟨v, hv⟩ := Option.isSome_iff_exists.1 (hdom x hx)
        obtain ⟨i, hi⟩ := List.mem_iff_getElem?.1 ((hf x v).1 hv)
        obtain ⟨y, hy⟩ : ∃ y, es[i]? = some y := ⟨_, Array.getElem?_eq_getElem (by have := (List.getElem?_eq_some_iff.1 hi).1; rw [Array.length_toList] at hll; omega)⟩
        have h1 := hleft i x v y hi hy
        rw [hx] at h1
        have h2 : y ∈ leftOf es seen := by
          unfold leftOf
          exact Array.mem_filter.2 ⟨Array.mem_of_getElem? hy, h1.symm⟩
        rw [Array.eq_empty_of_size_eq_zero h0] at h2
        simp at h2
    · rcases run_next_at (P := P) w ty r b since c0 seen es c hr hb hold hsc with h1 | ⟨e, he2, _⟩
      · exact h1.2
      · rw [Array.eq_empty_of_size_eq_zero h0] at he2; simp at he2
  · right
    rcases run_next_at (P := P) w 0 r b since c0 seen es c hr hb hold hsc with h1 | ⟨y, hy, w1, hw1, hrun⟩
    · exact absurd h1.1 h0
    · have hymem : y ∈ es.toList := by
        unfold leftOf at hy
        have := Array.mem_filter.1 (Array.mem_toList_iff.1 hy)
        exact Array.mem_toList_iff.2 this.1
      have hyun : seen.contains y.born = false := by
        unfold leftOf at hy
        have := (Array.mem_filter.1 (Array.mem_toList_iff.1 hy)).2
        simpa using this
      obtain ⟨i, hi⟩ := List.mem_iff_getElem?.1 hymem
      rw [Array.getElem?_toList] at hi
      obtain ⟨⟨x, v⟩, hp, hkey, hval⟩ := at_ i y hi
      have hfx := (hf x v).2 (List.mem_of_getElem? hp)
      have hlx : left x = true := by rw [hleft i x v y hp hi, hyun]; rfl
      have hr1 : w1.heap[r]? = some (.mapIter (some b) since seen c0) := by rcases hw1 with rfl | rfl <;> exact hr
      have hb1 : w1.heap[b]? = some (.map es c) := by rcases hw1 with rfl | rfl <;> exact hb
      have k1 : Keeps (fun j => j = r) w w1 := by
        rcases hw1 with rfl | rfl
        · exact Keeps.refl _ _
        · exact (Keeps.refl _ w).drew
      have k2 : Keeps (fun j => j = r) w1 (ChangeMaps.setBlock w1 r (.mapIter (some b) since (seen.push y.born) c)) := keeps_setObj _ _ _
      have hr2 : (ChangeMaps.setBlock w1 r (.mapIter (some b) since (seen.push y.born) c)).heap[r]? = some (.mapIter (some b) since (seen.push y.born) c) := by
        show (w1.heap.setIfInBounds r _)[r]? = _
        rw [Array.getElem?_setIfInBounds, if_pos rfl, if_pos (lt_of_heap hr1)]
      have hb2 : (ChangeMaps.setBlock w1 r (.mapIter (some b) since (seen.push y.born) c)).heap[b]? = some (.map es c) := k2.heap hb1 (fun e => hne e.symm)
      have hlt : (leftOf es (seen.push y.born)).size < (leftOf es seen).size := by
        have e1 : leftOf es (seen.push y.born) = (leftOf es seen).filter fun z => z.born != y.born := by
          unfold leftOf
          rw [Array.filter_filter]
          apply congrArg (fun p => Array.filter p es)
          funext z
          rw [Array.contains_push]
          cases seen.contains z.born <;> simp [bne, Bool.beq_comm]
        rw [e1]
        rw [← Array.length_toList, Array.toList_filter, ← Array.length_toList]
        exact List.length_filter_lt_length_iff_exists.2 ⟨y, hy, by simp⟩
      refine ⟨x, v, _, _, hlx, hfx, fun ty => ?_, ?_, ⟨es, c, since, seen.push y.born, c, l, hb2, he, hn, hf, hr2, hold, hnb, hsk, hsk, rfl, fun j z u y' hj hy' => ?_, fun z hz => ?_⟩, by omega, k1.trans k2⟩
      · have e : (Instr.next (.pointer (some ⟨r, 0, none⟩)) false ty).run P w = (Instr.next (.pointer (some ⟨r, 0, none⟩)) false 0).run P w := rfl
        rw [e, hrun, hkey, hval]
      · have := run_entry_at (P := P) (ChangeMaps.setBlock w1 r (.mapIter (some b) since (seen.push y.born) c)) r b since seen es c y hr2 hb2 hymem hnb
        rw [this, hkey, hval]
      · dsimp only
        rw [hleft j z u y' hj hy', Array.contains_push]
        by_cases hzx : z = x
        · subst hzx
          have hji : j = i := nodup_ix hn (i := j) (j := i) (x := z) (by rw [List.getElem?_map, hj]; rfl) (by rw [List.getElem?_map, hp]; rfl)
          subst hji
          rw [hi] at hy'; cases hy'
          simp
        · have hb3 : ¬ y'.born = y.born := fun e => by
            have e2 := born_inj hnb (Array.mem_toList_iff.2 (Array.mem_of_getElem? hy')) hymem e
            subst e2
            obtain ⟨p', hp', hkey', _⟩ := at_ j y' hy'
            rw [hj] at hp'; cases hp'
            rw [hkey] at hkey'
            simp at hkey'
            exact hzx (by omega)
          cases seen.contains y'.born <;> simp [hzx, hb3]
      · exact hdom z (by simp at hz; exact hz.1)
end

end Go.Proofs.YtkjmgafnaddhkaaGreat

namespace Go.Proofs.YtkjmgafnaddhkaaGreat
open Go.RowKit Go.Shelf

/-- The heuristic's own memory, the record with the two maps, the line, and the boxes of the variables. -/
structure SrM (w : World) (FH : Nat → Prop) (I : World → Prop) (fn : Value) (b4 b5 b8 b9 rb mp mr : Nat) (bd : Int) (P : Nat → Option Int) (fp : Nat → Option SArc) (A : List Nat) (vl : Value) (W : World) : Prop where
  keep : Keeps FH w W
  hI : I W
  price : FMap W mp intV P
  par_ : FMap W mr backV fp
  line : Tail W w.heap.size 82 vl (A.map encW)
  x4 : Boxed W b4 77 fn
  x5 : Boxed W b5 3 (.int .i64 bd)
  x8 : Boxed W b8 79 (.pointer (some ⟨rb, 0, none⟩))
  x9 : Boxed W b9 72 vl
  xr : W.heap[rb]? = some (.cells #[.map (some mp), .map (some mr), .int .i64 1000000000, .int .u32 0, .bool false] 84 (0, 0))
  ord : w.heap.size ≤ b4 ∧ b4 < b5 ∧ b5 < mp ∧ mp < mr ∧ mr < rb ∧ rb < b8 ∧ b8 < b9
  row : ∀ k, vl.ownBlock = some k → b8 < k ∧ k ≠ b9

section
variable {w W W' : World} {L : List Nat} {H : Nat → Int} {gh n0 : Nat} {pa cb : Array Value} {FH : Nat → Prop} {I : World → Prop} {fn vl : Value} {b4 b5 b8 b9 rb mp mr : Nat} {bd : Int} {P P' : Nat → Option Int} {fp fp' : Nat → Option SArc} {A : List Nat}
theorem SrM.by {S : Nat → Prop} (hh : Heur gh pa cb L H n0 w.heap.size FH I) (h : SrM w FH I fn b4 b5 b8 b9 rb mp mr bd P fp A vl W) (hk : Keeps S W W') (hS : ∀ k, S k → w.heap.size ≤ k) (c4 : ¬ S b4) (c5 : ¬ S b5) (c8 : ¬ S b8) (c9 : ¬ S b9) (cr : ¬ S rb) (e1 : ¬ S mp) (e2 : ¬ S mr) (el : ∀ k, vl.ownBlock = some k → ¬ S k) :
    SrM w FH I fn b4 b5 b8 b9 rb mp mr bd P fp A vl W' :=
  ⟨h.keep.trans' hk (fun i hi => .inr (hS i hi)), hh.steady h.hI hk hS, h.price.keeps hk e1, h.par_.keeps hk e2, h.line.keeps hk el, hk.heap h.x4 c4, hk.heap h.x5 c5, hk.heap h.x8 c8, hk.heap h.x9 c9, hk.heap h.xr cr, h.ord, h.row⟩
theorem SrM.keeps0 (hh : Heur gh pa cb L H n0 w.heap.size FH I) (h : SrM w FH I fn b4 b5 b8 b9 rb mp mr bd P fp A vl W) (hk : Keeps (fun _ => False) W W') : SrM w FH I fn b4 b5 b8 b9 rb mp mr bd P fp A vl W' :=
  h.by hh hk (fun _ h => h.elim) (fun h => h) (fun h => h) (fun h => h) (fun h => h) (fun h => h) (fun h => h) (fun h => h) (fun _ _ h => h)
/-- The heuristic has been asked. -/
theorem SrM.asked (hh : Heur gh pa cb L H n0 w.heap.size FH I) (h : SrM w FH I fn b4 b5 b8 b9 rb mp mr bd P fp A vl W) (hk : Keeps FH W W') (hI : I W') : SrM w FH I fn b4 b5 b8 b9 rb mp mr bd P fp A vl W' := by
  have no : ∀ k, w.heap.size ≤ k → ¬ FH k := fun k hk h => by have := (hh.lo k h).2; omega
  obtain ⟨o1, o2, o3, o4, o5, o6, o7⟩ := h.ord
  exact ⟨h.keep.trans hk, hI, h.price.keeps hk (no _ (by omega)), h.par_.keeps hk (no _ (by omega)), h.line.keeps hk (fun k hk' => no _ (by have := h.row k hk'; omega)), hk.heap h.x4 (no _ (by omega)), hk.heap h.x5 (no _ (by omega)), hk.heap h.x8 (no _ (by omega)), hk.heap h.x9 (no _ (by omega)), hk.heap h.xr (no _ (by omega)), h.ord, h.row⟩
theorem SrM.priced (hh : Heur gh pa cb L H n0 w.heap.size FH I) (h : SrM w FH I fn b4 b5 b8 b9 rb mp mr bd P fp A vl W) (hk : Keeps (fun k => k = mp) W W') (hp : FMap W' mp intV P') : SrM w FH I fn b4 b5 b8 b9 rb mp mr bd P' fp A vl W' := by
  obtain ⟨o1, o2, o3, o4, o5, o6, o7⟩ := h.ord
  have lo : ∀ k, k = mp → w.heap.size ≤ k := fun k e => by omega
  exact ⟨h.keep.trans' hk (fun i hi => .inr (lo i hi)), hh.steady h.hI hk lo, hp, h.par_.keeps hk (by omega), h.line.keeps hk (fun k hk' => by have := h.row k hk'; omega), hk.heap h.x4 (by omega), hk.heap h.x5 (by omega), hk.heap h.x8 (by omega), hk.heap h.x9 (by omega), hk.heap h.xr (by omega), h.ord, h.row⟩
theorem SrM.pard (hh : Heur gh pa cb L H n0 w.heap.size FH I) (h : SrM w FH I fn b4 b5 b8 b9 rb mp mr bd P fp A vl W) (hk : Keeps (fun k => k = mr) W W') (hp : FMap W' mr backV fp') : SrM w FH I fn b4 b5 b8 b9 rb mp mr bd P fp' A vl W' := by
  obtain ⟨o1, o2, o3, o4, o5, o6, o7⟩ := h.ord
  have lo : ∀ k, k = mr → w.heap.size ≤ k := fun k e => by omega
  exact ⟨h.keep.trans' hk (fun i hi => .inr (lo i hi)), hh.steady h.hI hk lo, h.price.keeps hk (by omega), hp, h.line.keeps hk (fun k hk' => by have := h.row k hk'; omega), hk.heap h.x4 (by omega), hk.heap h.x5 (by omega), hk.heap h.x8 (by omega), hk.heap h.x9 (by omega), hk.heap h.xr (by omega), h.ord, h.row⟩
theorem SrM.steady {row : Option Nat} {B : Nat} (hh : Heur gh pa cb L H n0 w.heap.size FH I) (h : SrM w FH I fn b4 b5 b8 b9 rb mp mr bd P fp A vl W) (hg : W.grownBy W' row) (hr : ∀ r, row = some r → B ≤ r ∧ ∃ o : Obj, W.heap[r]? = some o ∧ o.isCells = false) (hB : w.heap.size ≤ B) (m1 : mp < B) (m2 : mr < B) : SrM w FH I fn b4 b5 b8 b9 rb mp mr bd P fp A vl W' := by
  have cell : ∀ {k : Nat}, (∃ cs T fr, W.heap[k]? = some (.cells cs T fr)) → ¬ row = some k := fun hc e => by
    obtain ⟨cs, T, fr, hc⟩ := hc
    obtain ⟨_, o, ho, hn⟩ := hr _ e
    rw [hc] at ho; cases ho; cases hn
  have lt : ∀ {k : Nat}, k < B → ¬ row = some k := fun hk e => by have := (hr _ e).1; omega
  exact h.by hh (steady_keeps hg) (fun k e => by have := (hr k e).1; omega) (cell ⟨_, _, _, h.x4⟩) (cell ⟨_, _, _, h.x5⟩) (cell ⟨_, _, _, h.x8⟩) (cell ⟨_, _, _, h.x9⟩) (cell ⟨_, _, _, h.xr⟩) (lt m1) (lt m2) (fun k hk => by
    obtain ⟨cur, hc⟩ := h.line.block k hk
    exact cell ⟨_, _, _, hc⟩)
theorem SrM.nd (h : SrM w FH I fn b4 b5 b8 b9 rb mp mr bd P fp A vl W) : W.heap[mp]? ≠ some (.deferred (some [])) ∧ W.heap[mr]? ≠ some (.deferred (some [])) ∧ W.heap[b9]? ≠ some (.deferred (some [])) :=
  ⟨h.price.not_deferred, h.par_.not_deferred, cells_not_deferred h.x9⟩
/-- The first of the line is taken. -/
theorem SrM.pop {g off n cap x : Nat} (hh : Heur gh pa cb L H n0 w.heap.size FH I) (h : SrM w FH I fn b4 b5 b8 b9 rb mp mr bd P fp (x :: A) (.slice (some ⟨g, off, none⟩) (n + 1) cap) W) (hn : A.length = n) :
    SrM w FH I fn b4 b5 b8 b9 rb mp mr bd P fp A (.slice (some (cutAt g off cap)) n (cap - 1)) (W.setCell ⟨b9, 0, none⟩ (.slice (some (cutAt g off cap)) n (cap - 1))) := by
  have hk : Keeps (fun b => b = b9) W (W.setCell ⟨b9, 0, none⟩ (.slice (some (cutAt g off cap)) n (cap - 1))) := (Keeps.refl (fun b => b = b9) W).setCell (p := ⟨b9, 0, none⟩) (.inl rfl) _
  have hl := h.line
  rw [List.map_cons] at hl
  obtain ⟨o1, o2, o3, o4, o5, o6, o7⟩ := h.ord
  have hg := h.row g (by simp [Value.ownBlock])
  have lo : ∀ k, k = b9 → w.heap.size ≤ k := fun k e => by omega
  refine ⟨h.keep.trans' hk (fun i hi => .inr (lo i hi)), hh.steady h.hI hk lo, h.price.keeps hk (by omega), h.par_.keeps hk (by omega), (hl.cut (by simpa using hn)).keeps hk (fun k hk' e => ?_), hk.heap h.x4 (by omega), hk.heap h.x5 (by omega), hk.heap h.x8 (by omega), h.x9.set _, hk.heap h.xr (by omega), h.ord, fun k hk' => ?_⟩
  · simp [Value.ownBlock, cutAt_block] at hk'; omega
  · simp [Value.ownBlock, cutAt_block] at hk'; omega
/-- One more is put in the line. -/
theorem SrM.push {W3 : World} {o : Obj} {gg off m cap x : Nat} (hh : Heur gh pa cb L H n0 w.heap.size FH I) (h : SrM w FH I fn b4 b5 b8 b9 rb mp mr bd P fp A vl W) (hown : Tail W3 w.heap.size 82 (.slice (some ⟨gg, off, none⟩) m cap) (A.map encW ++ [encW x]))
    (hg : (W.alloc o).grownBy W3 vl.ownBlock) (hat : vl.ownBlock = some gg ∨ gg = W.heap.size + 1) : SrM w FH I fn b4 b5 b8 b9 rb mp mr bd P fp (A ++ [x]) (.slice (some ⟨gg, off, none⟩) m cap) (W3.setCell ⟨b9, 0, none⟩ (.slice (some ⟨gg, off, none⟩) m cap)) := by
  have h' := h.keeps0 hh ((Keeps.refl (fun _ => False) W).alloc o)
  have hk1 : Keeps (fun b => vl.ownBlock = some b) (W.alloc o) W3 := (Keeps.refl _ _).grown hg (fun k hk => .inl hk)
  obtain ⟨o1, o2, o3, o4, o5, o6, o7⟩ := h.ord
  have nr : ∀ k, k ≤ b8 ∨ k = b9 → ¬ vl.ownBlock = some k := fun k hk e => by have := h.row k e; omega
  have hx9 : Boxed W3 b9 72 vl := hk1.heap h'.x9 (nr _ (.inr rfl))
  have hk2 : Keeps (fun b => b = b9) W3 (W3.setCell ⟨b9, 0, none⟩ (.slice (some ⟨gg, off, none⟩) m cap)) := (Keeps.refl (fun b => b = b9) W3).setCell (p := ⟨b9, 0, none⟩) (.inl rfl) _
  have hgb : b8 < gg ∧ gg ≠ b9 := by
    rcases hat with e | e
    · exact h.row gg e
    · have := h.x9.lt; omega
  have lo1 : ∀ k, vl.ownBlock = some k → w.heap.size ≤ k := fun k e => by have := h.row k e; omega
  have lo2 : ∀ k, k = b9 → w.heap.size ≤ k := fun k e => by omega
  refine ⟨(h'.keep.trans' hk1 (fun i e => .inr (lo1 i e))).trans' hk2 (fun i e => .inr (lo2 i e)), hh.steady (hh.steady h'.hI hk1 lo1) hk2 lo2, (h'.price.keeps hk1 (nr _ (.inl (by omega)))).keeps hk2 (by omega), (h'.par_.keeps hk1 (nr _ (.inl (by omega)))).keeps hk2 (by omega), ?_,
    hk2.heap (hk1.heap h'.x4 (nr _ (.inl (by omega)))) (by omega), hk2.heap (hk1.heap h'.x5 (nr _ (.inl (by omega)))) (by omega), hk2.heap (hk1.heap h'.x8 (nr _ (.inl (by omega)))) (by omega), hx9.set _, hk2.heap (hk1.heap h'.xr (nr _ (.inl (by omega)))) (by omega), h.ord, fun k hk' => ?_⟩
  · rw [List.map_append]
    exact hown.keeps hk2 (fun k hk' e => by simp [Value.ownBlock] at hk'; omega)
  · simp [Value.ownBlock] at hk'; omega
end

/-- Arcs of s that have not come yet. -/
def ToDoN (ops : List Wop) (s : Nat) (l : List Stp) (R : List SArc) : Prop := ∀ a ∈ R, ∃ e ∈ wsteps ops s, a = arcOf e ∧ e ∉ l
theorem ToDoN.start (ops : List Wop) (L : List Nat) (s : Nat) : ToDoN ops s [] (nextG ops L s) := fun a ha => by
  unfold nextG at ha
  split at ha
  · obtain ⟨e, he, rfl⟩ := List.mem_map.1 ha
    exact ⟨e, he, rfl, by simp⟩
  · cases ha
theorem ToDoN.done {ops : List Wop} {s : Nat} {R : List SArc} (h : ToDoN ops s (wsteps ops s) R) : R = [] := by
  cases R with
  | nil => rfl
  | cons a r => obtain ⟨e, h1, _, h2⟩ := h a (by simp); exact absurd h1 h2
theorem DeepI.more {ops : List Wop} {L : List Nat} {st : Nat} {H : Nat → Int} {b : Int} {P : Nat → Option Int} {par : Nat → Option SArc} {A : List Nat} {s : Nat} {R R' : List SArc} (h : DeepI ops L st H b P par A s R) (hR : ∀ b ∈ R, b ∈ R') : DeepI ops L st H b P par A s R' :=
  ⟨h.dom, h.start, h.from_, h.way, h.key, fun x p hp => (h.pend x p hp).imp (fun h => h) (fun h a ha => (h a ha).imp (fun h => h) (fun h => h.imp (fun h => h) (fun h => ⟨h.1, hR a h.2⟩)))⟩
/-- The arc of y comes up. -/
theorem DeepI.next {ops : List Wop} {L : List Nat} {st : Nat} {H : Nat → Int} {b : Int} {P : Nat → Option Int} {par : Nat → Option SArc} {A : List Nat} {s : Nat} {R : List SArc} (h : DeepI ops L st H b P par A s R) {l : List Stp} (ht : ToDoN ops s l R) (y : Stp) :
    ∃ R', DeepI ops L st H b P par A s (arcOf y :: R') ∧ ToDoN ops s (l ++ [y]) R' := by
  classical
  refine ⟨R.filter fun b => decide (b ≠ arcOf y), h.more (fun b hb => ?_), fun a ha => ?_⟩
  · by_cases e : b = arcOf y
    · rw [e]; simp
    · exact List.mem_cons_of_mem _ (List.mem_filter.2 ⟨hb, by simpa using e⟩)
  · obtain ⟨h1, h2⟩ := List.mem_filter.1 ha
    obtain ⟨e, g2, g3, g4⟩ := ht a h1
    refine ⟨e, g2, g3, fun hm => ?_⟩
    rcases List.mem_append.1 hm with hm | hm
    · exact g4 hm
    · rw [List.mem_singleton] at hm; subst hm
      have : a ≠ arcOf e := by simpa using h2
      exact this g3
theorem step_arc {ops : List Wop} {L : List Nat} {s : Nat} (hs : s ∈ L) {y : Stp} (hy : y ∈ wsteps ops s) : arcOf y ∈ nextG ops L s := by
  unfold nextG
  rw [if_pos hs]
  exact List.mem_map.2 ⟨y, hy, rfl⟩

/-- Within the loop over the steps of s, when the steps l have come. -/
def SrBI (ops : List Wop) (L : List Nat) (st : Nat) (H : Nat → Int) (w : World) (FH : Nat → Prop) (I : World → Prop) (fn : Value) (b4 b5 b8 b9 rb mp mr : Nat) (bd : Int) (s : Nat) (ps : Int) (M0 : Nat) (ds : List Deferred) (Bs b10 : Nat) (l : List Stp) (W : World) : Prop :=
  ∃ (P : Nat → Option Int) (par : Nat → Option SArc) (A : List Nat) (vl : Value) (R : List SArc), SrM w FH I fn b4 b5 b8 b9 rb mp mr bd P (parF st par) A vl W ∧ DeepI ops L st H bd P par A s R ∧ ToDoN ops s l R ∧ P s = some ps ∧
    2 * weightB L 900000000 P + A.length < M0 ∧ A.length + weightB L 900000000 P ≤ 1800000000000 ∧ Marks ds W w.heap.size ∧ W.heap[Bs]? = some (.cells #[.int .u32 (s : Int)] 82 (0, 0)) ∧ W.heap[b10]? = some (.cells #[.int .u32 (s : Int)] 82 (0, 0)) ∧ (∀ k, vl.ownBlock = some k → k ≠ Bs ∧ k ≠ b10) ∧ Stamp W mp

theorem DeepI.anyS {ops : List Wop} {L : List Nat} {st : Nat} {H : Nat → Int} {b : Int} {P : Nat → Option Int} {par : Nat → Option SArc} {A : List Nat} {s s' : Nat} (h : DeepI ops L st H b P par A s []) : DeepI ops L st H b P par A s' [] :=
  ⟨h.dom, h.start, h.from_, h.way, h.key, fun x p hp => (h.pend x p hp).imp (fun h => h) (fun h a ha => (h a ha).imp (fun h => h) (fun h => h.imp (fun h => h) (fun h => absurd h.2 (by simp))))⟩

end Go.Proofs.YtkjmgafnaddhkaaGreat

namespace Go.Proofs.YtkjmgafnaddhkaaGreat
open Go.RowKit Go.Shelf

/-! ### plain -/
/-- The goal state that is chosen among the states that have come. -/
structure GoalL (acc : Nat → Bool) (P : Nat → Option Int) (left : Nat → Bool) (fnd : Bool) (g : Nat) : Prop where
  none_ : fnd = false → ∀ x p, P x = some p → left x = false → acc x = false
  some_ : fnd = true → ∃ p, P g = some p ∧ acc g = true ∧ ∀ x q, P x = some q → left x = false → acc x = true → p ≤ q
theorem GoalL.start (acc : Nat → Bool) (P : Nat → Option Int) : GoalL acc P (fun x => (P x).isSome) false 0 :=
  ⟨fun _ x p hp hl => (by rw [hp] at hl; cases hl), fun h => by cases h⟩
theorem GoalL.done {acc : Nat → Bool} {P : Nat → Option Int} {left : Nat → Bool} {fnd : Bool} {g : Nat} (h : GoalL acc P left fnd g) (hl : ∀ x, left x = false) : GoalOk acc P fnd g :=
  ⟨fun hf x p hp => h.none_ hf x p hp (hl x), fun hf => by
    obtain ⟨p, h1, h2, h3⟩ := h.some_ hf
    exact ⟨p, h1, h2, fun x q hq ha => h3 x q hq (hl x) ha⟩⟩
theorem GoalL.skip {acc : Nat → Bool} {P : Nat → Option Int} {left : Nat → Bool} {fnd : Bool} {g x : Nat} {p : Int} (h : GoalL acc P left fnd g) (hp : P x = some p) (hn : acc x = false ∨ (fnd = true ∧ ∀ q, P g = some q → q ≤ p)) : GoalL acc P (fun z => left z && decide (z ≠ x)) fnd g := by
  have old : ∀ z, (left z && decide (z ≠ x)) = false → z ≠ x → left z = false := fun z h1 h2 => by
    cases hl : left z with
    | false => rfl
    | true => rw [hl] at h1; simp [h2] at h1
  refine ⟨fun hf z q hq hl => ?_, fun hf => ?_⟩
  · by_cases e : z = x
    · subst e
      rcases hn with h1 | ⟨h1, _⟩
      · exact h1
      · rw [hf] at h1; cases h1
    · exact h.none_ hf z q hq (old z hl e)
  · obtain ⟨p0, h1, h2, h3⟩ := h.some_ hf
    refine ⟨p0, h1, h2, fun z q hq hl ha => ?_⟩
    by_cases e : z = x
    · subst e
      rw [hp] at hq; cases hq
      rcases hn with h4 | ⟨_, h4⟩
      · rw [h4] at ha; cases ha
      · exact h4 p0 h1
    · exact h3 z q hq (old z hl e) ha
theorem GoalL.take {acc : Nat → Bool} {P : Nat → Option Int} {left : Nat → Bool} {fnd : Bool} {g x : Nat} {p : Int} (h : GoalL acc P left fnd g) (hp : P x = some p) (ha : acc x = true) (hn : fnd = false ∨ ∀ q, P g = some q → p ≤ q) : GoalL acc P (fun z => left z && decide (z ≠ x)) true x := by
  have old : ∀ z, (left z && decide (z ≠ x)) = false → z ≠ x → left z = false := fun z h1 h2 => by
    cases hl : left z with
    | false => rfl
    | true => rw [hl] at h1; simp [h2] at h1
  refine ⟨fun hf => (by cases hf), fun _ => ⟨p, hp, ha, fun z q hq hl hz => ?_⟩⟩
  by_cases e : z = x
  · subst e; rw [hp] at hq; cases hq; exact Int.le_refl _
  · cases hf : fnd with
    | false => rw [h.none_ hf z q hq (old z hl e)] at hz; cases hz
    | true =>
      obtain ⟨p0, h1, _, h3⟩ := h.some_ hf
      rcases hn with h4 | h4
      · rw [hf] at h4; cases h4
      · have := h4 p0 h1; have := h3 z q hq (old z hl e) hz; omega

/-- The least worth above the bound on the arcs that have come. -/
structure NxOk (ops : List Wop) (H : Nat → Int) (bd : Int) (P : Nat → Option Int) (D : Nat → Nat → Prop) (nx : Int) : Prop where
  le : nx ≤ 1000000000
  is : nx = 1000000000 ∨ Cand ops H bd (costP P) nx
  least : ∀ x p i o, P x = some p → D x i → ops[i]? = some o → o.can x = true → H (o.next x) < 1000000000 → bd < p / 4096 + o.cost + H (o.next x) → nx ≤ p / 4096 + o.cost + H (o.next x)
theorem NxOk.start (ops : List Wop) (H : Nat → Int) (bd : Int) (P : Nat → Option Int) {D : Nat → Nat → Prop} (hD : ∀ x p i, P x = some p → ¬ D x i) : NxOk ops H bd P D 1000000000 :=
  ⟨Int.le_refl _, .inl rfl, fun x p i _ hp hd _ _ _ _ => absurd hd (hD x p i hp)⟩
theorem NxOk.to {ops : List Wop} {H : Nat → Int} {bd : Int} {P : Nat → Option Int} {D D' : Nat → Nat → Prop} {nx : Int} (h : NxOk ops H bd P D nx) (hD : ∀ x i o, (P x).isSome = true → D' x i → ops[i]? = some o → o.can x = true → D x i) : NxOk ops H bd P D' nx :=
  ⟨h.le, h.is, fun x p i o hp hd ho hc hH hb => h.least x p i o hp (hD x i o (by rw [hp]; rfl) hd ho hc) ho hc hH hb⟩
theorem NxOk.done {ops : List Wop} {H : Nat → Int} {bd : Int} {P : Nat → Option Int} {D : Nat → Nat → Prop} {nx : Int} (h : NxOk ops H bd P D nx) (hD : ∀ x i, D x i) : NextOk ops H bd (costP P) nx := by
  refine ⟨h.le, h.is, fun u hu => ?_⟩
  obtain ⟨x, c, o, hc, ho, hcan, hH, rfl, hb⟩ := hu
  obtain ⟨p, hp, rfl⟩ := costP_some hc
  obtain ⟨i, hi⟩ := List.mem_iff_getElem?.1 ho
  exact h.least x p i o hp (hD x i) hi hcan hH hb
/-- One more arc has come. -/
theorem NxOk.more {ops : List Wop} {H : Nat → Int} {bd : Int} {P : Nat → Option Int} {D D' : Nat → Nat → Prop} {nx nx' : Int} (h : NxOk ops H bd P D nx) {x i : Nat} {p : Int} {o : Wop} (hp : P x = some p) (ho : ops[i]? = some o) (hc : o.can x = true) (hD : ∀ z j, D' z j → D z j ∨ (z = x ∧ j = i))
    (hn : (¬ (H (o.next x) < 1000000000 ∧ bd < p / 4096 + o.cost + H (o.next x)) ∧ nx' = nx) ∨ (H (o.next x) < 1000000000 ∧ bd < p / 4096 + o.cost + H (o.next x) ∧ nx' = min nx (p / 4096 + o.cost + H (o.next x)))) : NxOk ops H bd P D' nx' := by
  have hle : nx' ≤ nx := by rcases hn with ⟨_, rfl⟩ | ⟨_, _, rfl⟩ <;> omega
  refine ⟨by have := h.le; omega, ?_, fun z q j o' hq hd ho' hc' hH hb => ?_⟩
  · rcases hn with ⟨_, rfl⟩ | ⟨h1, h2, rfl⟩
    · exact h.is
    · by_cases hlt : nx ≤ p / 4096 + o.cost + H (o.next x)
      · rw [Int.min_eq_left hlt]; exact h.is
      · rw [Int.min_eq_right (by omega)]
        exact .inr ⟨x, p / 4096, o, costP_of hp, List.mem_of_getElem? ho, hc, h1, rfl, h2⟩
  · rcases hD z j hd with h1 | ⟨rfl, rfl⟩
    · have := h.least z q j o' hq h1 ho' hc' hH hb; omega
    · rw [hp] at hq; cases hq
      rw [ho] at ho'; cases ho'
      rcases hn with ⟨h1, _⟩ | ⟨_, _, rfl⟩
      · exact absurd ⟨hH, hb⟩ h1
      · exact Int.min_le_right _ _

/-! ### in memory -/
structure Sr2 (w : World) (FH : Nat → Prop) (I : World → Prop) (fn : Value) (b4 b5 b8 rb mp mr rit : Nat) (bd : Int) (P : Nat → Option Int) (fp : Nat → Option SArc) (nx : Int) (g : Nat) (fnd : Bool) (left : Nat → Bool) (cnt : Nat) (W : World) : Prop where
  keep : Keeps FH w W
  hI : I W
  rg : RgF W mp rit intV P left cnt
  par_ : FMap W mr backV fp
  x4 : Boxed W b4 77 fn
  x5 : Boxed W b5 3 (.int .i64 bd)
  x8 : Boxed W b8 79 (.pointer (some ⟨rb, 0, none⟩))
  xr : W.heap[rb]? = some (.cells #[.map (some mp), .map (some mr), .int .i64 nx, .int .u32 (g : Int), .bool fnd] 84 (0, 0))
  ord : w.heap.size ≤ b4 ∧ b4 < b5 ∧ b5 < mp ∧ mp < mr ∧ mr < rb ∧ rb < b8 ∧ b8 < rit
section
variable {w W W' : World} {L : List Nat} {H : Nat → Int} {gh n0 : Nat} {pa cb : Array Value} {FH : Nat → Prop} {I : World → Prop} {fn : Value} {b4 b5 b8 rb mp mr rit : Nat} {bd : Int} {P : Nat → Option Int} {fp : Nat → Option SArc} {nx : Int} {g : Nat} {fnd : Bool} {left : Nat → Bool} {cnt : Nat}
theorem Sr2.by {S : Nat → Prop} (hh : Heur gh pa cb L H n0 w.heap.size FH I) (h : Sr2 w FH I fn b4 b5 b8 rb mp mr rit bd P fp nx g fnd left cnt W) (hk : Keeps S W W') (hS : ∀ k, S k → w.heap.size ≤ k) (c4 : ¬ S b4) (c5 : ¬ S b5) (c8 : ¬ S b8) (cr : ¬ S rb) (e1 : ¬ S mp) (e2 : ¬ S mr) (e3 : ¬ S rit) :
    Sr2 w FH I fn b4 b5 b8 rb mp mr rit bd P fp nx g fnd left cnt W' :=
  ⟨h.keep.trans' hk (fun i hi => .inr (hS i hi)), hh.steady h.hI hk hS, h.rg.keeps hk e1 e3, h.par_.keeps hk e2, hk.heap h.x4 c4, hk.heap h.x5 c5, hk.heap h.x8 c8, hk.heap h.xr cr, h.ord⟩
theorem Sr2.keeps0 (hh : Heur gh pa cb L H n0 w.heap.size FH I) (h : Sr2 w FH I fn b4 b5 b8 rb mp mr rit bd P fp nx g fnd left cnt W) (hk : Keeps (fun _ => False) W W') : Sr2 w FH I fn b4 b5 b8 rb mp mr rit bd P fp nx g fnd left cnt W' :=
  h.by hh hk (fun _ h => h.elim) (fun h => h) (fun h => h) (fun h => h) (fun h => h) (fun h => h) (fun h => h) (fun h => h)
theorem Sr2.asked (hh : Heur gh pa cb L H n0 w.heap.size FH I) (h : Sr2 w FH I fn b4 b5 b8 rb mp mr rit bd P fp nx g fnd left cnt W) (hk : Keeps FH W W') (hI : I W') : Sr2 w FH I fn b4 b5 b8 rb mp mr rit bd P fp nx g fnd left cnt W' := by
  have no : ∀ k, w.heap.size ≤ k → ¬ FH k := fun k hk h => by have := (hh.lo k h).2; omega
  obtain ⟨o1, o2, o3, o4, o5, o6, o7⟩ := h.ord
  exact ⟨h.keep.trans hk, hI, h.rg.keeps hk (no _ (by omega)) (no _ (by omega)), h.par_.keeps hk (no _ (by omega)), hk.heap h.x4 (no _ (by omega)), hk.heap h.x5 (no _ (by omega)), hk.heap h.x8 (no _ (by omega)), hk.heap h.xr (no _ (by omega)), h.ord⟩
/-- The step of the range. -/
theorem Sr2.turned {left' : Nat → Bool} {cnt' : Nat} (hh : Heur gh pa cb L H n0 w.heap.size FH I) (h : Sr2 w FH I fn b4 b5 b8 rb mp mr rit bd P fp nx g fnd left cnt W) (hk : Keeps (fun j => j = rit) W W') (hr : RgF W' mp rit intV P left' cnt') : Sr2 w FH I fn b4 b5 b8 rb mp mr rit bd P fp nx g fnd left' cnt' W' := by
  obtain ⟨o1, o2, o3, o4, o5, o6, o7⟩ := h.ord
  have lo : ∀ k, k = rit → w.heap.size ≤ k := fun k e => by omega
  exact ⟨h.keep.trans' hk (fun i hi => .inr (lo i hi)), hh.steady h.hI hk lo, hr, h.par_.keeps hk (by omega), hk.heap h.x4 (by omega), hk.heap h.x5 (by omega), hk.heap h.x8 (by omega), hk.heap h.xr (by omega), h.ord⟩
/-- A store into the record. -/
theorem Sr2.stored {nx' : Int} {g' : Nat} {fnd' : Bool} (hh : Heur gh pa cb L H n0 w.heap.size FH I) (h : Sr2 w FH I fn b4 b5 b8 rb mp mr rit bd P fp nx g fnd left cnt W) (hk : Keeps (fun j => j = rb) W W') (hr : W'.heap[rb]? = some (.cells #[.map (some mp), .map (some mr), .int .i64 nx', .int .u32 (g' : Int), .bool fnd'] 84 (0, 0))) : Sr2 w FH I fn b4 b5 b8 rb mp mr rit bd P fp nx' g' fnd' left cnt W' := by
  obtain ⟨o1, o2, o3, o4, o5, o6, o7⟩ := h.ord
  have lo : ∀ k, k = rb → w.heap.size ≤ k := fun k e => by omega
  exact ⟨h.keep.trans' hk (fun i hi => .inr (lo i hi)), hh.steady h.hI hk lo, h.rg.keeps hk (by omega) (by omega), h.par_.keeps hk (by omega), hk.heap h.x4 (by omega), hk.heap h.x5 (by omega), hk.heap h.x8 (by omega), hr, h.ord⟩
theorem Sr2.steady {row : Option Nat} {B : Nat} (hh : Heur gh pa cb L H n0 w.heap.size FH I) (h : Sr2 w FH I fn b4 b5 b8 rb mp mr rit bd P fp nx g fnd left cnt W) (hg : W.grownBy W' row) (hr : ∀ r, row = some r → B ≤ r ∧ ∃ o : Obj, W.heap[r]? = some o ∧ o.isCells = false) (hB : w.heap.size ≤ B) (m1 : mp < B) (m2 : mr < B) (m3 : rit < B) : Sr2 w FH I fn b4 b5 b8 rb mp mr rit bd P fp nx g fnd left cnt W' := by
  have cell : ∀ {k : Nat}, (∃ cs T fr, W.heap[k]? = some (.cells cs T fr)) → ¬ row = some k := fun hc e => by
    obtain ⟨cs, T, fr, hc⟩ := hc
    obtain ⟨_, o, ho, hn⟩ := hr _ e
    rw [hc] at ho; cases ho; cases hn
  have lt : ∀ {k : Nat}, k < B → ¬ row = some k := fun hk e => by have := (hr _ e).1; omega
  exact h.by hh (steady_keeps hg) (fun k e => by have := (hr k e).1; omega) (cell ⟨_, _, _, h.x4⟩) (cell ⟨_, _, _, h.x5⟩) (cell ⟨_, _, _, h.x8⟩) (cell ⟨_, _, _, h.xr⟩) (lt m1) (lt m2) (lt m3)
theorem SrM.two {vl : Value} {b9 : Nat} {A : List Nat} {n : Nat} (hh : Heur gh pa cb L H n0 w.heap.size FH I) (h : SrM w FH I fn b4 b5 b8 b9 rb mp mr bd P fp A vl W) (hk : Keeps (fun _ => False) W W') (hr : RgF W' mp W.heap.size intV P (fun x => (P x).isSome) n) : Sr2 w FH I fn b4 b5 b8 rb mp mr W.heap.size bd P fp 1000000000 0 false (fun x => (P x).isSome) n W' := by
  have h' := h.keeps0 hh hk
  have := h.x8.lt
  exact ⟨h'.keep, h'.hI, hr, h'.par_, h'.x4, h'.x5, h'.x8, h'.xr, by have := h.ord; omega⟩
end

/-- Arcs that have come: those of the states that have come, and of the state x those of the steps l. -/
def DoneA (left : Nat → Bool) (x : Nat) (l : List Stp) (z i : Nat) : Prop := (left z = false ∧ z ≠ x) ∨ (z = x ∧ ∃ e ∈ l, e.op = i)
/-- Within the second inner loop, when the steps l have come. -/
def Sr2I (ops : List Wop) (w : World) (FH : Nat → Prop) (I : World → Prop) (H : Nat → Int) (fn : Value) (b4 b5 b8 rb mp mr rit : Nat) (bd : Int) (P : Nat → Option Int) (fp : Nat → Option SArc) (g : Nat) (fnd : Bool) (left : Nat → Bool) (cnt : Nat) (x : Nat) (p : Int) (ds : List Deferred) (Bs b16 : Nat) (l : List Stp) (W : World) : Prop :=
  ∃ nx, Sr2 w FH I fn b4 b5 b8 rb mp mr rit bd P fp nx g fnd left cnt W ∧ NxOk ops H bd P (DoneA left x l) nx ∧ Marks ds W w.heap.size ∧ W.heap[Bs]? = some (.cells #[.int .u32 (x : Int)] 82 (0, 0)) ∧ W.heap[b16]? = some (.cells #[.int .i64 p] 3 (0, 0))

end Go.Proofs.YtkjmgafnaddhkaaGreat

namespace Go.Proofs.YtkjmgafnaddhkaaGreat
open Go.RowKit Go.Shelf
attribute [local go_sem] Oper.semAt_some

set_option maxRecDepth 100000 in
theorem aprice_any (w : World) (c : Int) (hc : 0 ≤ c ∧ c ≤ 1000000) : Calls Tryz.prog 98 #[.int .i64 c] w fun e w' => e = .returned (.int .i64 (4096 * c + 1)) ∧ w = w' := by
  go_enter Tryz.func98, Tryz.ntmps98
  go_wp2_with fail
  go_ret
  exact ⟨by simp [Int.mul_comm], rfl⟩

end Go.Proofs.YtkjmgafnaddhkaaGreat
