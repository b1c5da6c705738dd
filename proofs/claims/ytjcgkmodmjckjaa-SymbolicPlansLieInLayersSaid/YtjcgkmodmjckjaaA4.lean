/- The tree of a breadth-first search and the least of the shortest plans. Nothing here speaks of one program. The plain law of the reference's arcs, steps to go and shortest ways. Nothing here speaks of one program. Slices of slices, slices of arcs; the reference's Place, Goals, StateOk, Reached, Explored. The reference's Arcs. The reference's ToGo. cmp.Compare at int, slices.Compare at []int, the comparison of two words. space.All: a search with a stack. space.Checked. The reference's Goals and Explored; the laws' wayFault and wide. A slice that is cut at its head and appended to at its end. Nothing here speaks of one program. slices.Reverse over owned rows; space.Path. No condition beyond what each theorem says. -/
import Derived.Test.YtjcgkmodmjckjaaA3
import Derived.IntWalk
import Derived.Test.YtjcgkmodmjckjaaShelf
import Derived.Sort.OwnSorted
import Derived.Test.YtjcgkmodmjckjaaA1
import Derived.Deep.AppendSrc

namespace Go.Proofs.Ytjcgkmodmjckjaa

/-! ### plans -/
/-- The word behind a list of operators, if all of them can be applied. -/
def runOps (ops : List Wop) : Nat → List Nat → Option Nat
  | x, [] => some x
  | x, o :: r => match ops[o]? with
    | none => none
    | some op => if op.can x = true then runOps ops (op.next x) r else none

theorem runOps_append (ops : List Wop) (p q : List Nat) : ∀ x, runOps ops x (p ++ q) = (runOps ops x p).bind fun y => runOps ops y q := by
  induction p with
  | nil => intro x; rfl
  | cons o r ih =>
    intro x
    rw [List.cons_append, runOps, runOps]
    cases ops[o]? with
    | none => rfl
    | some op =>
      simp only
      split
      · exact ih _
      · rfl

theorem runOps_snoc {ops : List Wop} {p : List Nat} {o x z : Nat} (h : runOps ops x (p ++ [o]) = some z) : ∃ y op, runOps ops x p = some y ∧ ops[o]? = some op ∧ op.can y = true ∧ z = op.next y := by
  rw [runOps_append] at h
  cases hp : runOps ops x p with
  | none => rw [hp] at h; cases h
  | some y =>
    rw [hp] at h
    simp only [Option.bind_some, runOps] at h
    cases ho : ops[o]? with
    | none => rw [ho] at h; cases h
    | some op =>
      rw [ho] at h; simp only at h
      split at h
      · rename_i hc; cases h; exact ⟨y, op, rfl, rfl, hc, rfl⟩
      · cases h

theorem runOps_snoc' {ops : List Wop} {p : List Nat} {o x y : Nat} {op : Wop} (h : runOps ops x p = some y) (ho : ops[o]? = some op) (hc : op.can y = true) : runOps ops x (p ++ [o]) = some (op.next y) := by
  rw [runOps_append, h]; simp [runOps, ho, hc]

/-! ### the order of plans: by length, then element by element -/
def lle : List Nat → List Nat → Prop
  | [], _ => True
  | _ :: _, [] => False
  | a :: p, b :: q => a < b ∨ (a = b ∧ lle p q)
def sle (p q : List Nat) : Prop := p.length < q.length ∨ (p.length = q.length ∧ lle p q)

theorem lle_refl : ∀ p, lle p p
  | [] => trivial
  | _ :: p => .inr ⟨rfl, lle_refl p⟩
theorem lle_trans : ∀ {p q r : List Nat}, lle p q → lle q r → lle p r
  | [], _, _, _, _ => trivial
  | _ :: _, [], _, h, _ => h.elim
  | _ :: _, _ :: _, [], _, h => h.elim
  | a :: p, b :: q, c :: r, h, k => by
    rcases h with h | ⟨h, h'⟩
    · rcases k with k | ⟨k, k'⟩
      · exact .inl (by omega)
      · exact .inl (by omega)
    · rcases k with k | ⟨k, k'⟩
      · exact .inl (by omega)
      · exact .inr ⟨by omega, lle_trans h' k'⟩
theorem lle_append : ∀ {p q : List Nat} (r s : List Nat), lle p q → p.length = q.length → p ≠ q → lle (p ++ r) (q ++ s)
  | [], [], _, _, _, _, h => absurd rfl h
  | [], _ :: _, _, _, _, h, _ => by cases h
  | _ :: _, [], _, _, h, _, _ => h.elim
  | a :: p, b :: q, r, s, h, hl, hne => by
    rcases h with h | ⟨h, h'⟩
    · exact .inl h
    · refine .inr ⟨h, lle_append r s h' (by simpa using hl) (fun e => hne (by rw [h, e]))⟩
theorem lle_same : ∀ (p : List Nat) {r s : List Nat}, lle r s → lle (p ++ r) (p ++ s)
  | [], _, _, h => h
  | _ :: p, _, _, h => .inr ⟨rfl, lle_same p h⟩

theorem sle_refl (p : List Nat) : sle p p := .inr ⟨rfl, lle_refl p⟩
theorem sle_nil (p : List Nat) : sle [] p := by
  cases p with
  | nil => exact sle_refl _
  | cons a p => exact .inl (by simp)
theorem sle_trans {p q r : List Nat} (h : sle p q) (k : sle q r) : sle p r := by
  rcases h with h | ⟨h, h'⟩
  · rcases k with k | ⟨k, k'⟩
    · exact .inl (by omega)
    · exact .inl (by omega)
  · rcases k with k | ⟨k, k'⟩
    · exact .inl (by omega)
    · exact .inr ⟨by omega, lle_trans h' k'⟩
theorem sle_snoc_ne {p q : List Nat} (a b : Nat) (h : sle p q) (hne : p ≠ q) : sle (p ++ [a]) (q ++ [b]) := by
  rcases h with h | ⟨h, h'⟩
  · exact .inl (by simp; omega)
  · exact .inr ⟨by simp; omega, lle_append _ _ h' h hne⟩
theorem sle_snoc_same (p : List Nat) {a b : Nat} (h : a ≤ b) : sle (p ++ [a]) (p ++ [b]) := by
  refine .inr ⟨by simp, lle_same p ?_⟩
  rcases Nat.lt_or_ge a b with h' | h'
  · exact .inl h'
  · exact .inr ⟨by omega, trivial⟩
theorem sle_snoc {p q : List Nat} (a : Nat) (h : sle p q) : sle (p ++ [a]) (q ++ [a]) := by
  by_cases e : p = q
  · rw [e]; exact sle_refl _
  · exact sle_snoc_ne a a h e

/-! ### the least plan -/
def Best (ops : List Wop) (s : Nat) (acc : Nat → Bool) : Option (List Nat) → Prop
  | some p => (∃ y, runOps ops s p = some y ∧ acc y = true) ∧ ∀ q y, runOps ops s q = some y → acc y = true → sle p q
  | none => ∀ q y, runOps ops s q = some y → acc y = false

/-! ### the tree -/
structure Ent where
  to : Nat
  frm : Nat
  op : Nat
  path : List Nat

def Ent.of (e : Ent) (x : Stp) : Ent := ⟨x.to, e.to, x.op, e.path ++ [x.op]⟩
def frs (e : Ent) : List Nat → List Stp → List Ent
  | _, [] => []
  | seen, x :: r => if x.to ∈ seen then frs e seen r else e.of x :: frs e (seen ++ [x.to]) r
def keysT (T : List Ent) : List Nat := T.map Ent.to

theorem frs_keys (e : Ent) (xs : List Stp) : ∀ seen, keysT (frs e seen xs) = freshs seen (xs.map Stp.to) := by
  induction xs with
  | nil => intro seen; rfl
  | cons x r ih =>
    intro seen
    rw [frs, List.map_cons, freshs]
    split
    · exact ih _
    · rw [← ih]; rfl

theorem frs_snoc (e : Ent) (xs : List Stp) (x : Stp) : ∀ seen, frs e seen (xs ++ [x]) = frs e seen xs ++ (if x.to ∈ seen ++ keysT (frs e seen xs) then [] else [e.of x]) := by
  induction xs with
  | nil =>
    intro seen
    rw [List.nil_append, frs]
    by_cases h : x.to ∈ seen <;> simp [h, frs, keysT]
  | cons y r ih =>
    intro seen
    rw [List.cons_append, frs, frs]
    by_cases h : y.to ∈ seen
    · rw [if_pos h, if_pos h, ih]
    · rw [if_neg h, if_neg h, ih]
      simp only [keysT, List.append_assoc, List.cons_append, List.nil_append, List.map_cons, Ent.of]

theorem mem_frs {e f : Ent} {xs : List Stp} : ∀ {seen}, f ∈ frs e seen xs → ∃ x ∈ xs, f = e.of x := by
  induction xs with
  | nil => intro seen h; cases h
  | cons x r ih =>
    intro seen h
    rw [frs] at h
    split at h
    · obtain ⟨y, h1, h2⟩ := ih h; exact ⟨y, by simp [h1], h2⟩
    · rcases List.mem_cons.1 h with rfl | h
      · exact ⟨x, by simp, rfl⟩
      · obtain ⟨y, h1, h2⟩ := ih h; exact ⟨y, by simp [h1], h2⟩

theorem frs_sorted {e : Ent} {xs : List Stp} (hs : xs.Pairwise fun a b => a.op < b.op) : ∀ seen, (frs e seen xs).Pairwise fun a b => sle a.path b.path := by
  induction xs with
  | nil => intro seen; exact List.Pairwise.nil
  | cons x r ih =>
    intro seen
    rw [List.pairwise_cons] at hs
    rw [frs]
    split
    · exact ih hs.2 _
    · rw [List.pairwise_cons]
      refine ⟨fun f hf => ?_, ih hs.2 _⟩
      obtain ⟨y, h1, rfl⟩ := mem_frs hf
      exact sle_snoc_same _ (by have := hs.1 y h1; omega)

theorem frs_first {e : Ent} {xs : List Stp} (hs : xs.Pairwise fun a b => a.op < b.op) : ∀ {seen} {x : Stp}, x ∈ xs → x.to ∈ seen ∨ ∃ f ∈ frs e seen xs, f.to = x.to ∧ ∃ o, o ≤ x.op ∧ f.path = e.path ++ [o] := by
  induction xs with
  | nil => intro seen x h; cases h
  | cons y r ih =>
    intro seen x h
    rw [List.pairwise_cons] at hs
    rw [frs]
    by_cases hy : y.to ∈ seen
    · rw [if_pos hy]
      rcases List.mem_cons.1 h with rfl | h
      · exact .inl hy
      · exact ih hs.2 h
    · rw [if_neg hy]
      rcases List.mem_cons.1 h with rfl | h
      · exact .inr ⟨e.of x, by simp, rfl, x.op, Nat.le_refl _, rfl⟩
      · rcases ih hs.2 (seen := seen ++ [y.to]) h with h1 | ⟨f, h1, h2, h3⟩
        · rcases List.mem_append.1 h1 with h1 | h1
          · exact .inl h1
          · simp at h1
            exact .inr ⟨e.of y, by simp, h1.symm, y.op, by have := hs.1 x h; omega, rfl⟩
        · exact .inr ⟨f, by simp [h1], h2, h3⟩

theorem wsteps_sorted (ops : List Wop) (s : Nat) : (wsteps ops s).Pairwise fun a b => a.op < b.op := by
  unfold wsteps
  have : ∀ i, (stepsFrom i ops s).Pairwise fun a b => a.op < b.op := by
    induction ops with
    | nil => intro i; exact List.Pairwise.nil
    | cons o r ih =>
      intro i
      rw [stepsFrom]
      split
      · rw [List.pairwise_cons]
        refine ⟨fun y hy => ?_, ih _⟩
        obtain ⟨k, o', _, _, rfl⟩ := stepsFrom_mem.1 hy
        show i < i + 1 + k
        omega
      · exact ih _
  exact this 0
theorem wsteps_mem {ops : List Wop} {s : Nat} {x : Stp} : x ∈ wsteps ops s ↔ ∃ o, ops[x.op]? = some o ∧ o.can s = true ∧ x.cost = o.cost ∧ x.to = o.next s := by
  unfold wsteps
  rw [stepsFrom_mem]
  constructor
  · rintro ⟨k, o, h1, h2, rfl⟩; exact ⟨o, by simpa using h1, h2, rfl, rfl⟩
  · rintro ⟨o, h1, h2, h3, h4⟩
    refine ⟨x.op, o, h1, h2, ?_⟩
    cases x; simp at *; exact ⟨h3, h4⟩

def tree (ops : List Wop) (s : Nat) : Nat → List Ent
  | 0 => [⟨s, s, 0, []⟩]
  | i + 1 => match (tree ops s i)[i]? with
    | none => tree ops s i
    | some e => tree ops s i ++ frs e (keysT (tree ops s i)) (wsteps ops e.to)

theorem tree_step {ops : List Wop} {s i : Nat} {e : Ent} (h : (tree ops s i)[i]? = some e) : tree ops s (i + 1) = tree ops s i ++ frs e (keysT (tree ops s i)) (wsteps ops e.to) := by
  rw [tree, h]

theorem tree_prefix (ops : List Wop) (s i : Nat) : ∀ k, tree ops s i <+: tree ops s (i + k)
  | 0 => List.prefix_refl _
  | k + 1 => by
    refine (tree_prefix ops s i k).trans ?_
    rw [← Nat.add_assoc, tree]
    split
    · exact List.prefix_refl _
    · exact List.prefix_append _ _

structure TreeOk (ops : List Wop) (s i : Nat) (T : List Ent) : Prop where
  nodup : (keysT T).Nodup
  head : T[0]? = some ⟨s, s, 0, []⟩
  run : ∀ e ∈ T, runOps ops s e.path = some e.to
  sorted : T.Pairwise fun a b => sle a.path b.path
  parent : ∀ (j : Nat) e, T[j]? = some e → 0 < j → ∃ (k : Nat) (f : Ent), k < j ∧ k < i ∧ T[k]? = some f ∧ e.frm = f.to ∧ e.path = f.path ++ [e.op] ∧ e.op < ops.length
  closed : ∀ (j : Nat) e, j < i → T[j]? = some e → ∀ x ∈ wsteps ops e.to, ∃ f ∈ T, f.to = x.to ∧ sle f.path (e.path ++ [x.op])
  reach : ∀ e ∈ T, Reach ops s e.to

theorem TreeOk.same {ops : List Wop} {s i : Nat} {T : List Ent} (h : TreeOk ops s i T) {e f : Ent} (he : e ∈ T) (hf : f ∈ T) (hef : e.path = f.path) : e.to = f.to := by
  have h1 := h.run e he
  have h2 := h.run f hf
  rw [hef, h2] at h1
  exact (Option.some.inj h1).symm

theorem pair_of {T : List Ent} {R : Ent → Ent → Prop} (h : T.Pairwise R) {j k : Nat} {e f : Ent} (hjk : j < k) (he : T[j]? = some e) (hf : T[k]? = some f) : R e f := by
  obtain ⟨h1, rfl⟩ := List.getElem?_eq_some_iff.1 he
  obtain ⟨h2, rfl⟩ := List.getElem?_eq_some_iff.1 hf
  exact List.pairwise_iff_getElem.1 h j k h1 h2 hjk

theorem TreeOk.inj {ops : List Wop} {s i : Nat} {T : List Ent} (h : TreeOk ops s i T) {j k : Nat} {e f : Ent} (he : T[j]? = some e) (hf : T[k]? = some f) (hef : e.to = f.to) : j = k := by
  have h1 : (keysT T)[j]? = some e.to := by unfold keysT; rw [List.getElem?_map, he]; rfl
  have h2 : (keysT T)[k]? = some f.to := by unfold keysT; rw [List.getElem?_map, hf]; rfl
  obtain ⟨l1, g1⟩ := List.getElem?_eq_some_iff.1 h1
  obtain ⟨l2, g2⟩ := List.getElem?_eq_some_iff.1 h2
  exact (List.getElem_inj h.nodup).1 (by rw [g1, g2, hef])

/-- What lies in the tree is no greater than what the entry at i adds. -/
theorem TreeOk.under {ops : List Wop} {s i : Nat} {T : List Ent} (h : TreeOk ops s i T) {e : Ent} (he : T[i]? = some e) {f : Ent} (hf : f ∈ T) (o : Nat) : sle f.path (e.path ++ [o]) := by
  obtain ⟨j, hj⟩ := List.mem_iff_getElem?.1 hf
  rcases Nat.eq_zero_or_pos j with rfl | hpos
  · rw [h.head] at hj; cases hj; exact sle_nil _
  · obtain ⟨k, g, hk, hki, hg, _, hp, _⟩ := h.parent j f hj hpos
    rw [hp]
    refine sle_snoc_ne _ _ (pair_of h.sorted hki hg he) (fun e' => ?_)
    have := h.inj hg he (h.same (List.mem_of_getElem? hg) (List.mem_of_getElem? he) e')
    omega

theorem tree_ok (ops : List Wop) (s : Nat) : ∀ i, TreeOk ops s i (tree ops s i)
  | 0 => by
    refine ⟨by simp [tree, keysT], rfl, fun e he => ?_, by simp [tree], fun j e hj h0 => ?_, fun j e hj => by omega, fun e he => ?_⟩
    · simp [tree] at he; subst he; rfl
    · cases j with
      | zero => omega
      | succ j => simp [tree] at hj
    · simp [tree] at he; subst he; exact .refl
  | i + 1 => by
    have ok := tree_ok ops s i
    rw [tree]
    cases hx : (tree ops s i)[i]? with
    | none =>
      refine ⟨ok.nodup, ok.head, ok.run, ok.sorted, fun j e hj h0 => ?_, fun j e hj he => ?_, ok.reach⟩
      · obtain ⟨k, f, h1, h2, h3⟩ := ok.parent j e hj h0
        exact ⟨k, f, h1, by omega, h3⟩
      · have he' : (tree ops s i)[j]? = some e := he
        have h1 := (List.getElem?_eq_some_iff.1 he').1
        have h2 := List.getElem?_eq_none_iff.1 hx
        exact ok.closed j e (by omega) he'
    | some e =>
      simp only
      have hil : i < (tree ops s i).length := (List.getElem?_eq_some_iff.1 hx).1
      have hem := List.mem_of_getElem? hx
      generalize hT : tree ops s i = T at *
      refine ⟨?_, ?_, fun f hf => ?_, ?_, fun j f hj h0 => ?_, fun j f hj hf x hxm => ?_, fun f hf => ?_⟩
      · have : keysT (T ++ frs e (keysT T) (wsteps ops e.to)) = keysT T ++ freshs (keysT T) ((wsteps ops e.to).map Stp.to) := by rw [← frs_keys e]; simp [keysT]
        rw [this]
        exact nodup_freshs ok.nodup
      · rw [List.getElem?_append_left (by omega)]; exact ok.head
      · rcases List.mem_append.1 hf with hf | hf
        · exact ok.run f hf
        · obtain ⟨x, h1, rfl⟩ := mem_frs hf
          obtain ⟨o, k1, k2, k3, k4⟩ := wsteps_mem.1 h1
          show runOps ops s (e.path ++ [x.op]) = some x.to
          rw [k4]
          exact runOps_snoc' (ok.run e hem) k1 k2
      · rw [List.pairwise_append]
        refine ⟨ok.sorted, frs_sorted (wsteps_sorted _ _) _, fun f hf g hg => ?_⟩
        obtain ⟨x, h1, rfl⟩ := mem_frs hg
        exact ok.under hx hf x.op
      · by_cases hjl : j < T.length
        · rw [List.getElem?_append_left hjl] at hj
          obtain ⟨k, g, h1, h2, h3, h4⟩ := ok.parent j f hj h0
          exact ⟨k, g, h1, by omega, by rw [List.getElem?_append_left (by have := (List.getElem?_eq_some_iff.1 h3).1; omega)]; exact h3, h4⟩
        · rw [List.getElem?_append_right (by omega)] at hj
          obtain ⟨x, h1, rfl⟩ := mem_frs (List.mem_of_getElem? hj)
          obtain ⟨o, k1, _⟩ := wsteps_mem.1 h1
          exact ⟨i, e, by omega, by omega, by rw [List.getElem?_append_left hil]; exact hx, rfl, rfl, (List.getElem?_eq_some_iff.1 k1).1⟩
      · by_cases hji : j < i
        · rw [List.getElem?_append_left (by omega)] at hf
          obtain ⟨g, h1, h2⟩ := ok.closed j f hji hf x hxm
          exact ⟨g, List.mem_append_left _ h1, h2⟩
        · have : j = i := by omega
          subst this
          rw [List.getElem?_append_left hil, hx] at hf
          cases hf
          rcases frs_first (e := e) (wsteps_sorted ops e.to) (seen := keysT T) hxm with h1 | ⟨g, h1, h2, o, h3, h4⟩
          · unfold keysT at h1
            obtain ⟨g, h2, h3⟩ := List.mem_map.1 h1
            exact ⟨g, List.mem_append_left _ h2, h3, ok.under hx h2 x.op⟩
          · refine ⟨g, List.mem_append_right _ h1, h2, ?_⟩
            rw [h4]
            exact sle_snoc_same _ h3
      · rcases List.mem_append.1 hf with hf | hf
        · exact ok.reach f hf
        · obtain ⟨x, h1, rfl⟩ := mem_frs hf
          refine .step (ok.reach e hem) ?_
          rw [← wsteps_nexts]
          exact List.mem_map.2 ⟨x, h1, rfl⟩

/-- Where all has been taken, all that can be reached lies in the tree. -/
theorem TreeOk.least {ops : List Wop} {s i : Nat} {T : List Ent} (h : TreeOk ops s i T) (hi : T.length ≤ i) (q : List Nat) : ∀ y, runOps ops s q = some y → ∃ f ∈ T, f.to = y ∧ sle f.path q := by
  suffices H : ∀ n (q : List Nat), q.length = n → ∀ y, runOps ops s q = some y → ∃ f ∈ T, f.to = y ∧ sle f.path q from H _ q rfl
  intro n
  induction n with
  | zero =>
    intro q hq y hy
    have : q = [] := List.length_eq_zero_iff.1 hq
    subst this
    simp [runOps] at hy
    subst hy
    exact ⟨_, List.mem_of_getElem? h.head, rfl, sle_refl _⟩
  | succ n ih =>
    intro q hq z hz
    have hne : q ≠ [] := by intro e; subst e; cases hq
    obtain ⟨p, o, rfl⟩ : ∃ p o, q = p ++ [o] := ⟨q.dropLast, q.getLast hne, (List.dropLast_concat_getLast hne).symm⟩
    obtain ⟨y, op, h1, h2, h3, rfl⟩ := runOps_snoc hz
    obtain ⟨f, hf, rfl, hp⟩ := ih p (by simpa using hq) y h1
    obtain ⟨j, hj⟩ := List.mem_iff_getElem?.1 hf
    have hjl := (List.getElem?_eq_some_iff.1 hj).1
    obtain ⟨g, k1, k2, k3⟩ := h.closed j f (by omega) hj ⟨o, op.cost, op.next f.to⟩ (wsteps_mem.2 ⟨op, h2, h3, rfl, rfl⟩)
    exact ⟨g, k1, k2, sle_trans k3 (sle_snoc _ hp)⟩

theorem tree_few {ops : List Wop} {s : Nat} {l : List Nat} (h : reached ops s = some l) (i : Nat) : (tree ops s i).length ≤ l.length := by
  have ok := tree_ok ops s i
  have := nodup_sub_length ok.nodup (b := l) (fun x hx => by
    unfold keysT at hx
    obtain ⟨e, he, rfl⟩ := List.mem_map.1 hx
    exact ((reached_some h).2.2.2 e.to).2 (ok.reach e he))
  unfold keysT at this
  rwa [List.length_map] at this

/-- The first accepted entry. -/
theorem tree_found {ops : List Wop} {s i : Nat} {l : List Nat} (h : reached ops s = some l) {acc : Nat → Bool} {e : Ent} (he : (tree ops s i)[i]? = some e) (ha : acc e.to = true)
    (hb : ∀ (j : Nat) f, j < i → (tree ops s i)[j]? = some f → acc f.to = false) : Best ops s acc (some e.path) := by
  refine ⟨⟨e.to, (tree_ok ops s i).run e (List.mem_of_getElem? he), ha⟩, fun q y hq hy => ?_⟩
  have hl := (List.getElem?_eq_some_iff.1 he).1
  have hle := tree_few h i
  have hle2 := tree_few h (i + l.length)
  have ok := tree_ok ops s (i + l.length)
  obtain ⟨f, hf, rfl, hp⟩ := ok.least (by omega) q y hq
  obtain ⟨j, hj⟩ := List.mem_iff_getElem?.1 hf
  obtain ⟨r, hr⟩ := tree_prefix ops s i l.length
  have get : ∀ k, k < (tree ops s i).length → (tree ops s (i + l.length))[k]? = (tree ops s i)[k]? := by
    intro k hk
    rw [← hr, List.getElem?_append_left hk]
  rcases Nat.lt_trichotomy j i with h1 | h1 | h1
  · have := hb j f h1 (by rw [← get j (by omega)]; exact hj)
    rw [this] at hy; cases hy
  · subst h1
    rw [get j hl, he] at hj
    cases hj; exact hp
  · exact sle_trans (pair_of ok.sorted h1 (by rw [get i hl]; exact he) hj) hp

theorem tree_none {ops : List Wop} {s i : Nat} {acc : Nat → Bool} (hi : (tree ops s i).length ≤ i) (hb : ∀ f ∈ tree ops s i, acc f.to = false) : Best ops s acc none := by
  intro q y hq
  obtain ⟨f, hf, rfl, _⟩ := (tree_ok ops s i).least hi q y hq
  exact hb f hf

end Go.Proofs.Ytjcgkmodmjckjaa

namespace Go.Proofs.Ytjcgkmodmjckjaa

structure Arc where
  frm : Nat
  to : Nat
  op : Nat
  cost : Int

theorem nodup_ix {L : List Nat} (h : L.Nodup) {i j x : Nat} (hi : L[i]? = some x) (hj : L[j]? = some x) : i = j := by
  obtain ⟨l1, g1⟩ := List.getElem?_eq_some_iff.1 hi
  obtain ⟨l2, g2⟩ := List.getElem?_eq_some_iff.1 hj
  exact (List.getElem_inj h).1 (by rw [g1, g2])

/-! ### the arcs -/
def hits (L : List Nat) (i j : Nat) (c : Int) (y : Nat) : Nat → List Arc
  | 0 => []
  | k + 1 => hits L i j c y k ++ (if L[k]? = some y then [⟨i, k, j, c⟩] else [])
def opArcs (ops : List Wop) (L : List Nat) (i x : Nat) : Nat → List Arc
  | 0 => []
  | j + 1 => opArcs ops L i x j ++ (match ops[j]? with
    | some o => if o.can x = true then hits L i j o.cost (o.next x) L.length else []
    | none => [])
def arcsTo (ops : List Wop) (L : List Nat) : Nat → List Arc
  | 0 => []
  | i + 1 => arcsTo ops L i ++ (match L[i]? with
    | some x => opArcs ops L i x ops.length
    | none => [])
/-! ### the steps to go -/
/-! ### the greedy way down -/
end Go.Proofs.Ytjcgkmodmjckjaa

namespace Go.Proofs.Ytjcgkmodmjckjaa
open Go.RowKit

/-- A slice of slices of ints. -/
def Lists (w : World) (v : Value) (ls : List (List Int)) : Prop :=
  ∃ ao cap, v = .slice ao ls.length cap ∧ ls.length ≤ maxLen ∧ (0 < ls.length → ∃ b off, ao = some ⟨b, off, none⟩ ∧ ∀ i l, ls[i]? = some l → ∃ u, w.cell? ⟨b, off + i, none⟩ = some u ∧ Ints w u l)

theorem Lists.form {w : World} {v : Value} {ls : List (List Int)} (h : Lists w v ls) : ∃ ao cap, v = .slice ao ls.length cap ∧ ls.length ≤ 9223372036854775807 := by
  obtain ⟨ao, cap, hv, hm, _⟩ := h
  unfold maxLen at hm
  exact ⟨ao, cap, hv, by omega⟩

/-! ### Place -/
/-! ### StateOk -/
/-! ### Reached -/
end Go.Proofs.Ytjcgkmodmjckjaa

namespace Go.Proofs.Ytjcgkmodmjckjaa
open Go.RowKit

def part (ops : List Wop) (L : List Nat) (p x j : Nat) : List Arc := arcsTo ops L p ++ opArcs ops L p x j
end Go.Proofs.Ytjcgkmodmjckjaa

namespace Go.Proofs.Ytjcgkmodmjckjaa
open Go.RowKit

theorem Sl.cellN {w : World} {v : Value} {n m cap : Nat} {cs : List Value} {ao : Option Addr} (h : Sl w v n cs) (hv : v = .slice ao m cap) (hn : 0 < n) : ∃ b off, ao = some ⟨b, off, none⟩ ∧ ∀ j x, cs[j]? = some x → w.cell? ⟨b, off + j, none⟩ = some x := by
  obtain ⟨ao', cap', hv', hm, hc⟩ := h
  rw [hv'] at hv
  simp only [Value.slice.injEq] at hv
  obtain ⟨rfl, _, rfl⟩ := hv
  exact hc hn
end Go.Proofs.Ytjcgkmodmjckjaa

namespace Go.Proofs.Ytjcgkmodmjckjaa
open Go.RowKit

def cmpI (a b : Int) : Int := if a < b then -1 else if b < a then 1 else 0

def cmpL : List Int → List Int → Int
  | [], [] => 0
  | [], _ :: _ => -1
  | _ :: _, [] => 1
  | a :: r, b :: s => if a < b then -1 else if b < a then 1 else cmpL r s

theorem nan_any (w : World) (x : Int) : Calls Try.prog 77 #[.int .i64 x] w fun e w' => e = .returned (.bool false) ∧ w = w' := by
  go_enter Try.func77, Try.ntmps77
  go_wp2_with fail
  go_ret
  exact ⟨rfl, rfl⟩

set_option maxHeartbeats 1000000 in
theorem compare_any (w : World) (x y : Int) : Calls Try.prog 59 #[.int .i64 x, .int .i64 y] w fun e w' => e = .returned (.int .i64 (cmpI x y)) ∧ w = w' := by
  by_cases h1 : x < y
  · have hf : Hid (cmpI x y = -1) := by unfold Hid cmpI; rw [if_pos h1]
    go_enter Try.func59, Try.ntmps59
    go_wp2_with (go_at_call 77; refine (nan_any _ _).mono ?_; rintro e w' ⟨rfl, rfl⟩)
    go_ret
    exact ⟨by rw [hf.out]; rfl, rfl⟩
  · by_cases h2 : y < x
    · have hf : Hid (cmpI x y = 1) := by unfold Hid cmpI; rw [if_neg h1, if_pos h2]
      go_enter Try.func59, Try.ntmps59
      go_wp2_with (go_at_call 77; refine (nan_any _ _).mono ?_; rintro e w' ⟨rfl, rfl⟩)
      go_ret
      exact ⟨by rw [hf.out]; rfl, rfl⟩
    · have hf : Hid (cmpI x y = 0) := by unfold Hid cmpI; rw [if_neg h1, if_neg h2]
      go_enter Try.func59, Try.ntmps59
      go_wp2_with (go_at_call 77; refine (nan_any _ _).mono ?_; rintro e w' ⟨rfl, rfl⟩)
      go_ret
      exact ⟨by rw [hf.out]; rfl, rfl⟩

theorem cmpL_step {a b : List Int} {k : Nat} {x y : Int} (hx : a[k]? = some x) (hy : b[k]? = some y) : cmpL (a.drop k) (b.drop k) = if x < y then -1 else if y < x then 1 else cmpL (a.drop (k + 1)) (b.drop (k + 1)) := by
  obtain ⟨h1, h2⟩ := List.getElem?_eq_some_iff.1 hx
  obtain ⟨h3, h4⟩ := List.getElem?_eq_some_iff.1 hy
  rw [List.drop_eq_getElem_cons h1, List.drop_eq_getElem_cons h3, h2, h4, cmpL]

theorem cmpL_long {a b : List Int} {k : Nat} (h1 : k < a.length) (h2 : b.length ≤ k) : cmpL (a.drop k) (b.drop k) = 1 := by
  rw [List.drop_eq_getElem_cons h1, List.drop_eq_nil_of_le h2, cmpL]
theorem cmpL_short {a b : List Int} {k : Nat} (h1 : a.length ≤ k) (h2 : k < b.length) : cmpL (a.drop k) (b.drop k) = -1 := by
  rw [List.drop_eq_getElem_cons h2, List.drop_eq_nil_of_le h1, cmpL]
theorem cmpL_end {a b : List Int} {k : Nat} (h1 : a.length ≤ k) (h2 : b.length ≤ k) : cmpL (a.drop k) (b.drop k) = 0 := by
  rw [List.drop_eq_nil_of_le h1, List.drop_eq_nil_of_le h2, cmpL]

set_option maxHeartbeats 1000000 in
theorem sliceCompare_any (w : World) (va vb : Value) (a b : List Int) (ha : Ints w va a) (hb : Ints w vb b) :
    Calls Try.prog 38 #[va, vb] w fun e w' => e = .returned (.int .i64 (cmpL a b)) ∧ w = w' := by
  obtain ⟨ao, ca, hva, ma⟩ := ha.form
  obtain ⟨bo, cb, hvb, mb⟩ := hb.form
  have CA := Lib.hid (ha.cell hva)
  have CB := Lib.hid (hb.cell hvb)
  subst hva hvb
  clear ha hb
  go_enter Try.func38, Try.ntmps38
  go_wp2_with fail
  go_loop [11] (fun i => ∃ k : Nat, k ≤ a.length ∧ k ≤ b.length ∧ i = .int .i64 (k : Int) ∧ cmpL a b = cmpL (a.drop k) (b.drop k)) (fun i => a.length - (intOf i).toNat)
  case atStart => exact ⟨0, Nat.zero_le _, Nat.zero_le _, rfl, rfl⟩
  case round =>
    obtain ⟨k, hk, hk2, rfl, ht⟩ := hrel
    have HT := Lib.hid ht; clear ht
    by_cases hlt : k < a.length
    · obtain ⟨ba, oa, rfl, ha'⟩ := CA.out (by omega)
      obtain ⟨x, hx⟩ : ∃ x, a[k]? = some x := ⟨_, List.getElem?_eq_getElem hlt⟩
      have ha1 := ha' k _ hx
      by_cases hlt2 : k < b.length
      · obtain ⟨bb, ob, rfl, hb'⟩ := CB.out (by omega)
        obtain ⟨y, hy⟩ : ∃ y, b[k]? = some y := ⟨_, List.getElem?_eq_getElem hlt2⟩
        have hb1 := hb' k _ hy
        have HS := Lib.hid (cmpL_step hx hy)
        clear ha' hb' hx hy
        by_cases hz : cmpI x y = 0
        · have hne : (cmpI x y != 0) = false := by simpa using hz
          have HN : Hid (cmpL a b = cmpL (a.drop (k + 1)) (b.drop (k + 1))) := by
            unfold Hid
            rw [HT.out, HS.out]
            unfold cmpI at hz
            by_cases h1 : x < y
            · rw [if_pos h1] at hz; cases hz
            · rw [if_neg h1] at hz ⊢
              by_cases h2 : y < x
              · rw [if_pos h2] at hz; cases hz
              · rw [if_neg h2]
          clear hz
          go_wp2_with fail
          refine (compare_any _ _ _).mono ?_; rintro e w1 ⟨rfl, rfl⟩
          generalize cmpI x y = c at hne ⊢
          go_wp2_with fail
          go_round
          case rel => exact ⟨k + 1, by omega, by omega, by go_num, HN.out⟩
          case measure => simp [intOf]; omega
        · have hne : (cmpI x y != 0) = true := by simpa using hz
          have HN : Hid (cmpL a b = cmpI x y) := by
            unfold Hid
            rw [HT.out, HS.out]
            unfold cmpI at hz ⊢
            by_cases h1 : x < y
            · rw [if_pos h1, if_pos h1]
            · rw [if_neg h1] at hz ⊢
              by_cases h2 : y < x
              · rw [if_pos h2, if_neg h1, if_pos h2]
              · rw [if_neg h2] at hz; exact absurd rfl hz
          clear hz
          go_wp2_with fail
          refine (compare_any _ _ _).mono ?_; rintro e w1 ⟨rfl, rfl⟩
          generalize cmpI x y = c at hne HN ⊢
          go_wp2_with fail
          go_ret
          exact ⟨congrArg (fun u : Int => Ending.returned (Value.int .i64 u)) HN.out.symm, rfl⟩
      · have HN : Hid (cmpL a b = 1) := by unfold Hid; rw [HT.out]; exact cmpL_long hlt (by omega)
        clear ha' hx
        go_wp2_with fail
        go_ret
        exact ⟨congrArg (fun u : Int => Ending.returned (Value.int .i64 u)) HN.out.symm, rfl⟩
    · by_cases hlt2 : k < b.length
      · have HN : Hid (cmpL a b = -1) := by unfold Hid; rw [HT.out]; exact cmpL_short (by omega) hlt2
        have hl : a.length < b.length := by omega
        go_wp2_with fail
        go_ret
        exact ⟨congrArg (fun u : Int => Ending.returned (Value.int .i64 u)) HN.out.symm, rfl⟩
      · have HN : Hid (cmpL a b = 0) := by unfold Hid; rw [HT.out]; exact cmpL_end (by omega) (by omega)
        have hl : b.length ≤ a.length := by omega
        go_wp2_with fail
        go_ret
        exact ⟨congrArg (fun u : Int => Ending.returned (Value.int .i64 u)) HN.out.symm, rfl⟩

/-- How two words compare. -/
def cmpW (x y : Nat) : Int := cmpL (facts x) (facts y)

set_option maxHeartbeats 1000000 in
theorem checked1_any (w : World) (x y : Nat) :
    Calls Try.prog 37 #[.int .u32 (x : Int), .int .u32 (y : Int)] w fun e w' => e = .returned (.int .i64 (cmpW x y)) ∧ Keeps (fun _ => False) w w' ∧ w.drawn ≤ w'.drawn := by
  go_enter Try.func37, Try.ntmps37
  go_wp2_with fail
  refine (facts_any _ _).mono ?_; rintro e w1 ⟨va, rfl, ho, hk, hd1⟩
  have OA := Lib.hid (Ints.of_own ho)
  have K1 := Lib.hid hk
  clear ho hk
  go_wp2_with fail
  refine (facts_any _ _).mono ?_; rintro e w2 ⟨vb, rfl, ho, hk, hd2⟩
  have OB := Lib.hid (Ints.of_own ho)
  have K2 := Lib.hid hk
  clear ho hk
  go_wp2_with fail
  refine (sliceCompare_any _ _ _ _ _ (OA.out.keeps0 K2.out) OB.out).mono ?_; rintro e w3 ⟨rfl, rfl⟩
  go_wp2_with fail
  go_ret
  exact ⟨rfl, K1.out.trans K2.out, Nat.le_trans hd1 hd2⟩

end Go.Proofs.Ytjcgkmodmjckjaa

/- slices.SortFunc over words, by the library's contract. -/
namespace Go.Proofs.Ytjcgkmodmjckjaa
open Go.RowKit Go.Sort Go.Proofs

/-! ### lists compare as a strict order -/
theorem cmpL_self (a : List Int) : cmpL a a = 0 := by
  induction a with
  | nil => rfl
  | cons x r ih => rw [cmpL, if_neg (by omega), if_neg (by omega), ih]

theorem cmpL_eq : ∀ {a b : List Int}, cmpL a b = 0 → a = b
  | [], [], _ => rfl
  | [], _ :: _, h => by rw [cmpL] at h; cases h
  | _ :: _, [], h => by rw [cmpL] at h; cases h
  | x :: r, y :: s, h => by
    rw [cmpL] at h
    split at h
    · cases h
    · split at h
      · cases h
      · rw [cmpL_eq h]; congr 1; omega

theorem cmpL_neg : ∀ (a b : List Int), cmpL b a = - cmpL a b
  | [], [] => rfl
  | [], _ :: _ => rfl
  | _ :: _, [] => rfl
  | x :: r, y :: s => by
    rw [cmpL, cmpL]
    by_cases h1 : x < y
    · have h2 : ¬ y < x := by omega
      simp [h1, h2]
    · by_cases h2 : y < x
      · simp [h1, h2]
      · simp only [h1, h2, if_false]; exact cmpL_neg r s

theorem cmpL_trans : ∀ {a b c : List Int}, cmpL a b < 0 → cmpL b c < 0 → cmpL a c < 0
  | [], [], _, h, _ => by rw [cmpL] at h; omega
  | [], _ :: _, [], _, h => by rw [cmpL] at h; omega
  | [], _ :: _, _ :: _, _, _ => by rw [cmpL]; omega
  | _ :: _, [], _, h, _ => by rw [cmpL] at h; omega
  | _ :: _, _ :: _, [], _, h => by rw [cmpL] at h; omega
  | x :: r, y :: s, z :: t, h1, h2 => by
    rw [cmpL] at h1 h2 ⊢
    split at h1
    · split at h2
      · rw [if_pos (by omega)]; omega
      · split at h2
        · omega
        · rw [if_pos (by omega)]; omega
    · split at h1
      · omega
      · split at h2
        · rw [if_pos (by omega)]; omega
        · split at h2
          · omega
          · rw [if_neg (by omega), if_neg (by omega)]; exact cmpL_trans h1 h2

theorem swoW : SWO (ltOf cmpW) where
  irrefl x := by unfold ltOf cmpW; rw [cmpL_self]; rfl
  trans x y z h1 h2 := by
    unfold ltOf cmpW at *
    rw [decide_eq_true_eq] at *
    exact cmpL_trans h1 h2
  ntrans x y z h1 h2 := by
    unfold ltOf cmpW at *
    rw [decide_eq_false_iff_not] at *
    intro h3
    have n1 := cmpL_neg (facts x) (facts y)
    have n2 := cmpL_neg (facts y) (facts z)
    by_cases e1 : cmpL (facts x) (facts y) = 0
    · rw [cmpL_eq e1] at h3; exact h2 h3
    · have : cmpL (facts y) (facts x) < 0 := by omega
      exact h2 (cmpL_trans this h3)

def encW (x : Nat) : Value := .int .u32 (x : Int)

/-! ### the two vocabularies -/
theorem holdsW_of_block {w : World} {g : Nat} {cur : Array Value} {e : TypeId} {ss : List Nat} (hb : w.heap[g]? = some (.cells cur e (0, 0))) (ht : cur.toList.take ss.length = ss.map encW) : Holds encW w g 0 ss.toArray := by
  intro j hj
  have hj' : j < ss.length := by simpa using hj
  refine ⟨?_, by simp [World.frozen?, hb]⟩
  have h1 : (cur.toList.take ss.length)[j]? = (ss.map encW)[j]? := by rw [ht]
  rw [List.getElem?_take_of_lt hj'] at h1
  simp only [World.cell?, hb, Nat.zero_add]
  simp only [Option.isSome_none, Bool.false_eq_true, if_false]
  rw [← Array.getElem?_toList, h1]
  simp [hj']

theorem take_putCellsW (cur : Array Value) (ts : List Nat) (h : ts.length ≤ cur.size) : (putCells encW 0 ts.toArray cur).toList.take ts.length = ts.map encW := by
  apply List.ext_getElem?
  intro j
  by_cases hj : j < ts.length
  · rw [List.getElem?_take_of_lt hj, Array.getElem?_toList]
    simp [putCells, hj, show j < cur.size by omega]
  · rw [List.getElem?_take_eq_none (by omega), List.getElem?_eq_none (by simp; omega)]

theorem heap_sortedW {w : World} {g n : Nat} {os : Array Obj} {cur : Array Value} {e : TypeId} {fr : Nat × Nat} (d : Array Nat) (hb : w.heap[g]? = some (.cells cur e fr)) :
    (sortWorld encW w g 0 n d os).heap[g]? = some (.cells (putCells encW 0 d cur) e fr) := by
  have hg : g < w.heap.size := (Array.getElem?_eq_some_iff.1 hb).1
  unfold sortWorld
  rw [heap_grow_old _ _ (by simpa using hg)]
  simp [putRow, mapBlock, Sort.ahead, Array.getElem?_modify, hb, onCells]

theorem keeps_sortedW {w : World} {g n : Nat} {os : Array Obj} (d : Array Nat) : Keeps (fun b => b = g) w (sortWorld encW w g 0 n d os) := by
  unfold sortWorld
  refine ⟨rfl, rfl, rfl, by simp, fun k hk hne => ?_⟩
  rw [heap_grow_old _ _ (by simpa using hk)]
  have : g ≠ k := fun e => hne e.symm
  simp [putRow, mapBlock, Sort.ahead, Array.getElem?_modify, this]

theorem cmpLaysW (blk off size : Nat) (w : World) : CmpLays1 Try.prog 37 #[] encW cmpW blk off size w := by
  intro m os dk hs x y
  refine (checked1_any _ x y).mono ?_
  rintro e w' ⟨he, hk, hd⟩
  refine ⟨he, ?_⟩
  obtain ⟨q, os', hw⟩ := grow_of_keeps hk hd
  exact ⟨q, os', hw⟩

theorem sort_any (w : World) (base : Nat) (T : TypeId) (v : Value) (ws : List Nat) (hown : w.ownsRow base T 1 v ws.length (ws.map encW)) (hlen : ws.length < 4611686018427387904) :
    Calls Try.prog 36 #[v, .func (.func 37) #[] #[]] w fun e w' => e = .returned (.tuple #[]) ∧ ∃ ws' : List Nat, ws'.Perm ws ∧ ws'.Pairwise (fun a b => ¬ cmpW b a < 0) ∧ w'.ownsRow base T 1 v ws'.length (ws'.map encW) ∧ Keeps (fun b => v.ownBlock = some b) w w' := by
  have eg : ∀ args w, (callFunc 37 args).run Try.prog w = .ok (.enter 37 args) w := enters_of Try.func37 (by kernel_rfl) rfl
  rcases hown.2 with ⟨rfl, h0⟩ | ⟨g, cap, cur, rfl, hb, hg, hn, hm, hs, ht⟩
  · have hz : ws = [] := List.length_eq_zero_iff.1 h0
    subst hz
    refine (Try.slices_SortFunc_none (α := Nat) none 0 _ w).mono ?_
    rintro e w' ⟨rfl, rfl⟩
    exact ⟨rfl, [], List.Perm.refl _, List.Pairwise.nil, World.ownsRow_nil _ _ _ _, Keeps.refl _ _⟩
  · have ht' : cur.toList.take ws.length = ws.map encW := by simpa using ht
    have hH := holdsW_of_block hg ht'
    have hl := lt_of_heap hg
    have hc := Try.slices_SortFunc encW (fun _ => rfl) cmpW swoW 37 #[] g 0 cap ws.toArray w eg (cmpLaysW g 0 _ w) hH hl (by simpa using hlen)
    simp only [List.size_toArray] at hc
    refine hc.mono ?_
    rintro e w' ⟨rfl, d', n, os, hp, hsort, rfl⟩
    obtain ⟨hsz, _, hperm⟩ := hp
    simp only [List.size_toArray] at hsz
    have hd : (d'.extract 0 ws.length).toList = d'.toList := by rw [← hsz]; simp
    have hd2 : (ws.toArray.extract 0 ws.length).toList = ws := by simp
    rw [hd, hd2] at hperm
    refine ⟨rfl, d'.toList, hperm, ?_, ?_, (keeps_sortedW _).mono (fun i _ h => by subst h; rfl)⟩
    · rw [List.pairwise_iff_getElem]
      intro i j hi hj hij
      have hj' : j < d'.size := by simpa using hj
      have := hsort i j (by omega) hij (by omega)
      unfold ltOf at this
      rw [decide_eq_false_iff_not, getElem!_pos d' i (by omega), getElem!_pos d' j hj'] at this
      simpa using this
    · have hll : d'.toList.length = ws.length := by simpa using hsz
      refine ⟨by simp, .inr ⟨g, cap, _, by rw [hll], hb, heap_sortedW d' hg, by rw [hll]; exact hn, hm, by simp [putCells, hs], ?_⟩⟩
      have := take_putCellsW cur d'.toList (by omega)
      simpa using this

end Go.Proofs.Ytjcgkmodmjckjaa

namespace Go.Proofs.Ytjcgkmodmjckjaa
open Go.RowKit Go.Shelf
attribute [local go_sem] Oper.semAt_some

theorem Try.info_u32 : (Try.prog.info? 54).map (fun i => (i.zero, i.size, i.bytes)) = some (some (.int .u32 0), 1, 4) := by kernel_rfl

def seenL (seen : List Nat) : List (Int × Value) := seen.map fun x : Nat => ((x : Int), Value.agg #[])

theorem seenL_nodup {l : List Nat} (h : l.Nodup) : ((seenL l).map Prod.fst).Nodup := by
  unfold seenL
  rw [List.map_map]
  have e : (Prod.fst ∘ fun x : Nat => ((x : Int), Value.agg #[])) = fun x : Nat => (x : Int) := rfl
  rw [e]
  exact List.Pairwise.map _ (fun a b hab => by omega) h
theorem seenL_mem {l : List Nat} {x : Nat} (h : x ∈ l) : ((x : Int), Value.agg #[]) ∈ seenL l := List.mem_map.2 ⟨x, h, rfl⟩
theorem seenL_miss {l : List Nat} {x : Nat} (h : x ∉ l) : ∀ p ∈ seenL l, p.1 ≠ (x : Int) := by
  intro p hp e
  obtain ⟨y, hy, rfl⟩ := List.mem_map.1 hp
  have : y = x := by simp only at e; omega
  exact h (this ▸ hy)

theorem wsteps_le (ops : List Wop) (s : Nat) : (wsteps ops s).length ≤ ops.length := by
  have h := congrArg List.length (wsteps_nexts ops s)
  rw [List.length_map] at h
  rw [h]
  unfold nexts
  rw [List.length_map]
  exact List.length_filter_le _ _

/-- What All knows between two steps. -/
structure AllS (w0 : World) (b1 b2 b3 : Nat) (stk seen out : List Nat) (vs vo : Value) (W : World) : Prop where
  keep : Keeps (fun _ => False) w0 W
  x1 : Boxed W b1 45 vs
  x3 : Boxed W b3 129 (.map (some b2))
  stack : W.ownsRow w0.heap.size 54 1 vs stk.length (stk.map encW)
  map : IMap W b2 .u32 (seenL seen)
  out : W.ownsRow w0.heap.size 54 1 vo out.length (out.map encW)
  apart : ∀ k, vs.ownBlock = some k → vo.ownBlock ≠ some k
  some_ : vs ≠ .slice none 0 0
  l1 : w0.heap.size ≤ b1
  l2 : w0.heap.size ≤ b2
  l3 : w0.heap.size ≤ b3

theorem AllS.by {w0 : World} {b1 b2 b3 : Nat} {stk seen out : List Nat} {vs vo : Value} {W W' : World} {S : Nat → Prop} (h : AllS w0 b1 b2 b3 stk seen out vs vo W) (hk : Keeps S W W')
    (s1 : ¬ S b1) (s2 : ¬ S b2) (s3 : ¬ S b3) (ss : ∀ k, vs.ownBlock = some k → ¬ S k) (so : ∀ k, vo.ownBlock = some k → ¬ S k) (hS : ∀ k, S k → w0.heap.size ≤ k) : AllS w0 b1 b2 b3 stk seen out vs vo W' :=
  ⟨h.keep.trans' hk (fun i hi => .inr (hS i hi)), hk.heap h.x1 s1, hk.heap h.x3 s3, hk.ownsRow h.stack ss, h.map.keeps hk s2, hk.ownsRow h.out so, h.apart, h.some_, h.l1, h.l2, h.l3⟩
theorem AllS.keeps0 {w0 : World} {b1 b2 b3 : Nat} {stk seen out : List Nat} {vs vo : Value} {W W' : World} (h : AllS w0 b1 b2 b3 stk seen out vs vo W) (hk : Keeps (fun _ => False) W W') : AllS w0 b1 b2 b3 stk seen out vs vo W' :=
  h.by hk (fun h => h) (fun h => h) (fun h => h) (fun _ _ h => h) (fun _ _ h => h) (fun _ h => h.elim)

section
variable {w0 : World} {b1 b2 b3 : Nat} {stk seen out : List Nat} {vs vo : Value} {W : World}
theorem AllS.row1 (h : AllS w0 b1 b2 b3 stk seen out vs vo W) : vs.ownBlock ≠ some b1 := fun e => h.x1.not_row (by decide) h.stack e.symm
theorem AllS.row3 (h : AllS w0 b1 b2 b3 stk seen out vs vo W) : vs.ownBlock ≠ some b3 := fun e => h.x3.not_row (by decide) h.stack e.symm
theorem AllS.orow1 (h : AllS w0 b1 b2 b3 stk seen out vs vo W) : vo.ownBlock ≠ some b1 := fun e => h.x1.not_row (by decide) h.out e.symm
theorem AllS.orow3 (h : AllS w0 b1 b2 b3 stk seen out vs vo W) : vo.ownBlock ≠ some b3 := fun e => h.x3.not_row (by decide) h.out e.symm
theorem not_map {base : Nat} {e : TypeId} {size n : Nat} {v : Value} {xs : List Value} {kd : IntKind} {l : List (Int × Value)} {b : Nat} (hm : IMap W b kd l) (hr : W.ownsRow base e size v n xs) : v.ownBlock ≠ some b := by
  intro e'
  rcases hr.2 with ⟨rfl, _⟩ | ⟨g, cap, cur, rfl, _, hgg, _⟩
  · simp [Value.ownBlock] at e'
  · simp [Value.ownBlock] at e'; subst e'
    obtain ⟨es, c, hb, _⟩ := hm
    rw [hgg] at hb; cases hb
theorem box_not_map {t : TypeId} {v : Value} {kd : IntKind} {l : List (Int × Value)} {b c : Nat} (hm : IMap W b kd l) (hx : Boxed W c t v) : b ≠ c := by
  rintro rfl
  obtain ⟨es, c, hb, _⟩ := hm
  rw [show W.heap[b]? = _ from hx] at hb; cases hb
theorem AllS.box13 (h : AllS w0 b1 b2 b3 stk seen out vs vo W) : b1 ≠ b3 := by
  rintro rfl
  have := (show W.heap[b1]? = _ from h.x1).symm.trans h.x3
  simp at this

/-- The last of the stack is taken. -/
theorem AllS.pop {g n cap : Nat} {x : Nat} (h : AllS w0 b1 b2 b3 (stk ++ [x]) seen out (.slice (some ⟨g, 0, none⟩) (n + 1) cap) vo W) (hn : stk.length = n) :
    AllS w0 b1 b2 b3 stk seen out (.slice (some ⟨g, 0, none⟩) n cap) vo (W.setCell ⟨b1, 0, none⟩ (.slice (some ⟨g, 0, none⟩) n cap)) := by
  have hk : Keeps (fun b => b = b1) W (W.setCell ⟨b1, 0, none⟩ (.slice (some ⟨g, 0, none⟩) n cap)) := (Keeps.refl (fun b => b = b1) W).setCell (p := ⟨b1, 0, none⟩) (.inl rfl) _
  have hs := h.stack
  rw [List.length_append, List.map_append, List.length_singleton, hn] at hs
  have hr := ownsRow_init hs
  refine ⟨h.keep.trans' hk (fun i hi => .inr (by subst hi; exact h.l1)), h.x1.set _, hk.heap h.x3 (fun e => h.box13 e.symm), ?_, h.map.keeps hk (box_not_map h.map h.x1), hk.ownsRow h.out (fun k hk' e => by subst e; exact h.orow1 hk'), h.apart, by simp, h.l1, h.l2, h.l3⟩
  rw [hn]
  refine hk.ownsRow hr (fun k hk' e => by subst e; exact h.row1 (by simpa [Value.ownBlock] using hk'))

theorem lt_of_heap_map {b : Nat} {kd : IntKind} {l : List (Int × Value)} (h : IMap W b kd l) : b < W.heap.size := h.lt
/-- Blocks that are no cells and lie beyond may turn. -/
theorem AllS.steady {W' : World} {row : Option Nat} {B : Nat} (h : AllS w0 b1 b2 b3 stk seen out vs vo W) (hg : W.grownBy W' row) (hr : ∀ r, row = some r → B ≤ r ∧ ∃ o : Obj, W.heap[r]? = some o ∧ o.isCells = false) (hB : w0.heap.size ≤ B) (hb2 : b2 < B) : AllS w0 b1 b2 b3 stk seen out vs vo W' :=
  ⟨steady_keeps0 hg (fun r e => (hr r e).1) hB h.keep, steady_heap hg (fun r e => (hr r e).2) h.x1, steady_heap hg (fun r e => (hr r e).2) h.x3, steady_row hg (fun r e => (hr r e).2) h.stack, steady_map hg (fun r e => (hr r e).1) hb2 h.map, steady_row hg (fun r e => (hr r e).2) h.out, h.apart, h.some_, h.l1, h.l2, h.l3⟩

/-- One more is put out. -/
theorem AllS.put {W3 : World} {o : Obj} {gg m cap x : Nat} (h : AllS w0 b1 b2 b3 stk seen out vs vo W) (hm : out.length + 1 = m) (hown : W3.ownsRow w0.heap.size 54 1 (.slice (some ⟨gg, 0, none⟩) m cap) m (out.map encW ++ [encW x]))
    (hg : (W.alloc o).grownBy W3 vo.ownBlock) (hat : vo.ownBlock = some gg ∨ gg = W.heap.size + 1) : AllS w0 b1 b2 b3 stk seen (out ++ [x]) vs (.slice (some ⟨gg, 0, none⟩) m cap) W3 := by
  have h' := h.keeps0 ((Keeps.refl (fun _ => False) W).alloc o)
  have hk : Keeps (fun b => vo.ownBlock = some b) (W.alloc o) W3 := (Keeps.refl _ _).grown hg (fun k hk => .inl hk)
  refine ⟨h'.keep.trans' hk (fun i e => .inr (World.ownsRow.lt h.out i e).1), hk.heap h'.x1 h.orow1, hk.heap h'.x3 h.orow3, hk.ownsRow h'.stack (fun k hk' e => h.apart k hk' e), h'.map.keeps hk (not_map h.map h.out), ?_, ?_, h.some_, h.l1, h.l2, h.l3⟩
  · rw [List.length_append, List.length_singleton, hm, List.map_append]; exact hown
  · intro k hk' e
    simp [Value.ownBlock] at e
    subst e
    rcases hat with e | e
    · exact h.apart gg hk' e
    · have := (World.ownsRow.lt h.stack gg hk').2; omega

/-- One more is put on the stack. -/
theorem AllS.push {W3 : World} {o : Obj} {gg m cap x : Nat} (h : AllS w0 b1 b2 b3 stk seen out vs vo W) (hm : stk.length + 1 = m) (hown : W3.ownsRow w0.heap.size 54 1 (.slice (some ⟨gg, 0, none⟩) m cap) m (stk.map encW ++ [encW x]))
    (hg : (W.alloc o).grownBy W3 vs.ownBlock) (hat : vs.ownBlock = some gg ∨ gg = W.heap.size + 1) : AllS w0 b1 b2 b3 (stk ++ [x]) seen out (.slice (some ⟨gg, 0, none⟩) m cap) vo (W3.setCell ⟨b1, 0, none⟩ (.slice (some ⟨gg, 0, none⟩) m cap)) := by
  have h' := h.keeps0 ((Keeps.refl (fun _ => False) W).alloc o)
  have hk1 : Keeps (fun b => vs.ownBlock = some b) (W.alloc o) W3 := (Keeps.refl _ _).grown hg (fun k hk => .inl hk)
  have hx1 : Boxed W3 b1 45 vs := hk1.heap h'.x1 h.row1
  have hk2 : Keeps (fun b => b = b1) W3 (W3.setCell ⟨b1, 0, none⟩ (.slice (some ⟨gg, 0, none⟩) m cap)) := (Keeps.refl (fun b => b = b1) W3).setCell (p := ⟨b1, 0, none⟩) (.inl rfl) _
  have hgb : gg ≠ b1 := by
    rcases hat with e | e
    · intro e'; exact h.row1 (by rw [e, e'])
    · have := h.x1.lt; omega
  have ho : W3.ownsRow w0.heap.size 54 1 vo out.length (out.map encW) := hk1.ownsRow h'.out (fun k hk' e => h.apart k e hk')
  refine ⟨(h'.keep.trans' hk1 (fun i e => .inr (World.ownsRow.lt h.stack i e).1)).trans' hk2 (fun i e => .inr (by subst e; exact h.l1)), hx1.set _, hk2.heap (hk1.heap h'.x3 h.row3) (fun e => h.box13 e.symm), ?_, (h'.map.keeps hk1 (not_map h.map h.stack)).keeps hk2 (box_not_map h.map h.x1), hk2.ownsRow ho (fun k hk' e => by subst e; exact h.orow1 hk'), ?_, by simp, h.l1, h.l2, h.l3⟩
  · rw [List.length_append, List.length_singleton, hm, List.map_append]
    exact hk2.ownsRow hown (fun k hk' e => by simp [Value.ownBlock] at hk'; omega)
  · intro k hk' e
    simp [Value.ownBlock] at hk'
    subst hk'
    rcases hat with e' | e'
    · exact h.apart gg e' e
    · have := (World.ownsRow.lt h.out gg e).2; omega

/-- One more is seen. -/
theorem AllS.see {W' : World} {x : Nat} (h : AllS w0 b1 b2 b3 stk seen out vs vo W) (hI : IMap W' b2 .u32 (seenL seen ++ [((x : Int), .agg #[])])) (hk : Keeps (fun k => k = b2) W W') : AllS w0 b1 b2 b3 stk (seen ++ [x]) out vs vo W' :=
  ⟨h.keep.trans' hk (fun i e => .inr (by subst e; exact h.l2)), hk.heap h.x1 (fun e => box_not_map h.map h.x1 e.symm), hk.heap h.x3 (fun e => box_not_map h.map h.x3 e.symm), hk.ownsRow h.stack (fun k hk' e => by subst e; exact not_map h.map h.stack hk'),
    by simpa [seenL] using hI, hk.ownsRow h.out (fun k hk' e => by subst e; exact not_map h.map h.out hk'), h.apart, h.some_, h.l1, h.l2, h.l3⟩
end

def sliceLen : Value → Nat
  | .slice _ n _ => n
  | _ => 0

structure AllLoop (ops : List Wop) (st : Nat) (w0 : World) (b1 b2 b3 : Nat) (stk seen out : List Nat) (vs vo : Value) (ds : List Deferred) (W : World) : Prop where
  s : AllS w0 b1 b2 b3 stk seen out vs vo W
  dfs : Dfs ops st stk seen out
  few : seen.length ≤ 2000
  small : ∀ x ∈ seen, x < 4294967296
  marks : Marks ds W w0.heap.size

/-- Within the loop over the steps of x, when the words l have come. -/
def AllI (w0 : World) (b1 b2 b3 : Nat) (stk seen out : List Nat) (x : Nat) (vo : Value) (ds : List Deferred) (Bs : Nat) (l : List Nat) (W : World) : Prop :=
  ∃ vs, AllS w0 b1 b2 b3 (stk ++ freshs seen l) (seen ++ freshs seen l) (out ++ [x]) vs vo W ∧ Marks ds W w0.heap.size ∧ W.heap[Bs]? = some (.cells #[.int .u32 (x : Int)] 54 (0, 0)) ∧ ∀ k, vs.ownBlock = some k → k ≠ Bs

/-- What All hands back. -/
def AllPost (ops : List Wop) (st : Nat) (w : World) (e : Ending) (w' : World) : Prop := Keeps (fun _ => False) w w' ∧
  ((reached ops st = none ∧ e = .returned (.tuple #[.slice none 0 0, .bool false])) ∨
   (∃ l, reached ops st = some l ∧ ∃ (v' : Value) (out : List Nat), e = .returned (.tuple #[v', .bool true]) ∧ out.Perm l ∧ w'.ownsRow w.heap.size 54 1 v' out.length (out.map encW)))

set_option maxRecDepth 100000 in
set_option maxHeartbeats 4000000 in
theorem all_in (w : World) (b st g0 base : Nat) (v : Value) (ops : List Wop) (hw : WordsAt w base b st g0 v ops) (hops : WopsOk ops) (hmany : ops.length ≤ 40) (hst : st < 4294967296) :
    CallsIn Fence.wide 9 Try.prog 35 #[.iface 44 (.pointer (some ⟨b, 0, none⟩))] w (AllPost ops st w) := by
  have HW := Lib.hid hw
  have hmm := @run_makeMap Try.prog
  have mS := method_Start ⟨b, 0, none⟩
  have mT := method_Steps ⟨b, 0, none⟩
  clear hw
  refine callsIn_of_wp_marks Try.func35 rfl trivial ?_ rfl
  simp only [Try.ntmps35, List.size_toArray, List.length_cons, List.length_nil, Nat.reduceAdd, Nat.reduceSub, Array.replicate_succ, Array.replicate_zero, List.push_toArray, List.append_toArray, List.nil_append, List.cons_append]
  gi_wp2
  refine ⟨trivial, ?_⟩
  refine (callsIn_wide.2 (start_any _ _ _ _ _ _ _ HW.out)).mono ?_; rintro e w1 ⟨rfl, rfl⟩
  gi_wp2
  have kA := (((Keeps.refl (fun _ => False) w).alloc (.cells #[.int .u32 (st : Int)] 54)).alloc (.cells #[.slice (some ⟨w.heap.size, 0, none⟩) 1 1] 45))
  have kB := kA.alloc (.map #[] 0)
  refine ⟨trivial, ?_⟩
  refine (callsIn_wide.2 (start_any _ _ _ _ _ _ _ (HW.out.keeps0 kB))).mono ?_; rintro e w1 ⟨rfl, rfl⟩
  have hm0 : IMap (((w.alloc (.cells #[.int .u32 (st : Int)] 54)).alloc (.cells #[.slice (some ⟨w.heap.size, 0, none⟩) 1 1] 45)).alloc (.map #[] 0)) (w.heap.size + 1 + 1) .u32 [] := by
    have := IMap.made ((w.alloc (.cells #[.int .u32 (st : Int)] 54)).alloc (.cells #[.slice (some ⟨w.heap.size, 0, none⟩) 1 1] 45)) .u32
    rwa [World.size_alloc, World.size_alloc] at this
  obtain ⟨W4, hrun, hI4, hk4⟩ := hm0.run_update_new (P := Try.prog) Try.underlying129 Try.underlying54 (x := (st : Int)) (by simp) (.agg #[])
  have hx0 := heap_alloc_new w (.cells #[.int .u32 (st : Int)] 54)
  have hx1 := heap_alloc_new (w.alloc (.cells #[.int .u32 (st : Int)] 54)) (.cells #[.slice (some ⟨w.heap.size, 0, none⟩) 1 1] 45)
  rw [World.size_alloc] at hx1
  have hS : AllS w (w.heap.size + 1) (w.heap.size + 1 + 1) W4.heap.size [st] [st] [] (.slice (some ⟨w.heap.size, 0, none⟩) 1 1) (.slice none 0 0) (W4.alloc (.cells #[.map (some (w.heap.size + 1 + 1))] 129)) := by
    have n0 : ¬ w.heap.size = w.heap.size + 1 + 1 := by omega
    have n1 : ¬ w.heap.size + 1 = w.heap.size + 1 + 1 := by omega
    have g0 := hk4.heap (((Below.heap_alloc _ _ _ (by simp; omega)).trans ((Below.heap_alloc _ _ _ (by simp)).trans hx0))) n0
    have g1 := hk4.heap ((Below.heap_alloc _ _ _ (by simp)).trans hx1) n1
    have a0 := ((Keeps.refl (fun _ => False) W4).alloc (.cells #[.map (some (w.heap.size + 1 + 1))] 129))
    refine ⟨(kB.trans' hk4 (fun i e => .inr (by omega))).alloc _, a0.heap g1 (fun h => h), Boxed.new W4 _ _, ?_, ?_, World.ownsRow_nil _ _ _ _, fun k _ => by simp [Value.ownBlock], by simp, by omega, by omega, ?_⟩
    · exact ⟨by simp, .inr ⟨w.heap.size, 1, _, rfl, Nat.le_refl _, a0.heap g0 (fun h => h), by simp, by unfold maxLen; omega, by simp, by simp [encW]⟩⟩
    · have := hI4.alloc (.cells #[.map (some (w.heap.size + 1 + 1))] 129)
      simpa [seenL] using this
    · have := hk4.size; simp at this; omega
  have HS := Lib.hid hS
  have HK4 := Lib.hid hk4
  clear hS hI4 hx0 hx1 hm0 kA kB hk4
  gi_wp2
  generalize W4.heap.size = b3 at HS ⊢
  generalize (W4.alloc (.cells #[.map (some (w.heap.size + 1 + 1))] 129)) = W5 at HS ⊢
  generalize w.heap.size + 1 + 1 = b2 at HS ⊢
  generalize w.heap.size + 1 = b1 at HS ⊢
  clear hrun HK4
  obtain ⟨i0, hi0, hz0, hz1, hz2⟩ := info_parts Try.info_u32
  refine wpIn_loop (fun a' wr => ∃ (ds : List Deferred) (u6 u7 u8 u9 u10 u11 u12 u13 u14 u15 u16 u17 u18 u19 u20 u21 u22 u23 u24 u25 u26 u27 u28 u29 u30 u31 u32 u33 u34 u35 u36 u37 u38 u39 u40 u41 u42 u43 u44 u45 u46 u47 u48 u49 u50 u51 u52 u53 u54 u55 u56 u57 u58 u59 u60 u61 u62 : Value) (stk seen out : List Nat) (vs : Value), AllLoop ops st w b1 b2 b3 stk seen out vs u6 ds wr ∧
      a' = { tmps := #[.iface 44 (.pointer (some ⟨b, 0, none⟩)), undef, .slice none 0 0, .bool false, .pointer (some ⟨b1, 0, none⟩), .pointer (some ⟨b3, 0, none⟩), u6, u7, u8, u9, u10, u11, u12, u13, u14, u15, u16, u17, u18, u19, u20, u21, u22, u23, u24, u25, u26, u27, u28, u29, u30, u31, u32, u33, u34, u35, u36, u37, u38, u39, u40, u41, u42, u43, u44, u45, u46, u47, u48, u49, u50, u51, u52, u53, u54, u55, u56, u57, u58, u59, u60, u61, u62], defers := ds })
    (fun a' _ => 2001 - sliceLen (a'.tmps.getD 6 undef)) ?start ?round
  case start => exact ⟨[], _, _, _, _, _, _, _, _, _, _, _, _, _, _, _, _, _, _, _, _, _, _, _, _, _, _, _, _, _, _, _, _, _, _, _, _, _, _, _, _, _, _, _, _, _, _, _, _, _, _, _, _, _, _, _, _, _, [st], [st], [], _, ⟨HS.out, Dfs.start ops st, by simp, by simpa using hst, Marks.nil _ _⟩, rfl⟩
  case round =>
    rintro a wr ⟨ds, u6, u7, u8, u9, u10, u11, u12, u13, u14, u15, u16, u17, u18, u19, u20, u21, u22, u23, u24, u25, u26, u27, u28, u29, u30, u31, u32, u33, u34, u35, u36, u37, u38, u39, u40, u41, u42, u43, u44, u45, u46, u47, u48, u49, u50, u51, u52, u53, u54, u55, u56, u57, u58, u59, u60, u61, u62, stk, seen, out, vs, hL, rfl⟩
    have HL := Lib.hid hL
    clear hL
    have x1c := HL.out.s.x1.cell
    have x1f := HL.out.s.x1.frozen
    have x3c := HL.out.s.x3.cell
    by_cases hstk : stk = []
    · subst hstk
      obtain ⟨g1, c1, hv⟩ := ownsRow_form1 HL.out.s.stack
      subst hv
      gi_wp2
      refine leaves_marks HL.out.marks (fun W' hk => ?_)
      obtain ⟨l, hl1, hl2⟩ := HL.out.dfs.found HL.out.few
      refine ⟨.tuple #[u6, .bool true], by simp [results, Try.results35, go_sem], HL.out.s.keep.trans' hk (fun i hi => .inr hi.1), .inr ⟨l, hl1, u6, out, rfl, hl2, hk.ownsRow HL.out.s.out (fun k hk' hs => row_not_deferred HL.out.s.out k hk' hs.2)⟩⟩
    · obtain ⟨stk', x, rfl⟩ : ∃ stk' x, stk = stk' ++ [x] := ⟨stk.dropLast, stk.getLast hstk, (List.dropLast_concat_getLast hstk).symm⟩
      have hsv := HL.out.s.stack
      rw [List.length_append, List.map_append, List.length_singleton] at hsv
      obtain ⟨g, cap, hv, hg1, hg2⟩ := hsv.form (by omega)
      subst hv
      have hcx : wr.cell? ⟨g, stk'.length, none⟩ = some (encW x) := by
        have := World.ownsRow.cells hsv (g := g) rfl stk'.length (encW x) (by rw [List.getElem?_append_right (by simp)]; simp)
        have hadd : (⟨g, 0, none⟩ : Addr).add stk'.length = ⟨g, stk'.length, none⟩ := by unfold Addr.add; split <;> simp_all
        rwa [hadd] at this
      have hin := ownsRow_init hsv
      have hcap : stk'.length + 1 ≤ cap := by
        rcases hsv.2 with ⟨_, h0⟩ | ⟨_, _, _, hv', _, _, hn', _⟩
        · omega
        · simp only [Value.slice.injEq] at hv'; obtain ⟨_, _, rfl⟩ := hv'; exact hn'
      have hcapi : (stk'.length : Int) ≤ (cap : Int) := by omega
      have hbig : stk'.length ≤ 2000 := by
        have h1 := HL.out.dfs.perm.length_eq
        have h2 := HL.out.few
        simp at h1; omega
      have hout : out.length ≤ 2000 := by
        have h1 := HL.out.dfs.perm.length_eq
        have h2 := HL.out.few
        simp at h1; omega
      unfold encW at hcx
      have HSV := Lib.hid hsv; have HIN := Lib.hid hin
      clear hsv hin hstk
      have HP := Lib.hid (HL.out.s.pop (n := stk'.length) rfl)
      have HPO := Lib.hid (HP.out.out.alloc (.cells #[.int .u32 (x : Int)] 54))
      have hsz : (wr.setCell ⟨b1, 0, none⟩ (.slice (some ⟨g, 0, none⟩) stk'.length cap)).heap.size = wr.heap.size := by simp
      have hlow : w.heap.size ≤ wr.heap.size := HL.out.s.keep.size
      gi_wp2_with (gi_at_builtin; refine wpListIn_append_lies _ rfl (.tmp 33) (.tmp 35) 45 rfl w.heap.size 54 i0 _ 1 4 Try.underlying45 hi0 hz0 hz1 hz2 rfl (by omega) u6 out.length (out.map encW) rfl HPO.out ⟨wr.heap.size, 0, none⟩ 1 1 [.int .u32 (x : Int)] rfl rfl ?hnews ?hone (by omega) (by unfold maxLen; omega) (by omega) (by simp; omega) (wr.heap.size + 1) (by simp) ?_)
      case hnews =>
        have := World.news_of_block (cs := #[.int .u32 (x : Int)]) (t := 54) (fr := (0, 0)) (heap_alloc_new (wr.setCell ⟨b1, 0, none⟩ (.slice (some ⟨g, 0, none⟩) stk'.length cap)) (.cells #[.int .u32 (x : Int)] 54))
        rwa [hsz] at this
      case hone => simp [Value.oneCell']
      intro g2 cap2 w3 hown hgrow hat hlt3
      have HA := Lib.hid (HP.out.put (x := x) rfl hown hgrow (by rw [hsz]; exact hat))
      have HD := Lib.hid (show KeepsD wr w3 from by
        have k1 : Keeps (fun b => b = b1) wr (wr.setCell ⟨b1, 0, none⟩ (.slice (some ⟨g, 0, none⟩) stk'.length cap)) := (Keeps.refl (fun b => b = b1) wr).setCell (p := ⟨b1, 0, none⟩) (.inl rfl) _
        have k2 : Keeps (fun b => u6.ownBlock = some b) ((wr.setCell ⟨b1, 0, none⟩ (.slice (some ⟨g, 0, none⟩) stk'.length cap)).alloc (.cells #[.int .u32 (x : Int)] 54)) w3 := (Keeps.refl _ _).grown hgrow (fun k hk => .inl hk)
        exact (KeepsD.of k1 (fun b e => by subst e; exact cells_not_deferred HL.out.s.x1)).trans ((KeepsD.of0 ((Keeps.refl _ _).alloc _)).trans (KeepsD.of k2 (fun b e => row_not_deferred HPO.out b e))))
      have HDF := Lib.hid HL.out.dfs.step
      have hx32 : x < 4294967296 := HL.out.small x (HL.out.dfs.perm.mem_iff.2 (by simp))
      have HM := Lib.hid (HL.out.marks.keeps HD.out)
      obtain ⟨ao6, c6, h6⟩ := ownsRow_form1 HL.out.s.out
      have H6 := Lib.hid h6
      clear h6
      have HND := Lib.hid HL.out.dfs.nodup
      have HWL := Lib.hid (show (wsteps ops x).length ≤ 40 from Nat.le_trans (wsteps_le ops x) hmany)
      have HFEW := Lib.hid HL.out.few; have HSM := Lib.hid HL.out.small
      clear hown hgrow hat hlt3 hcx x1c x1f x3c hg1 hg2 hsz HPO HP HIN HSV HD HL
      gi_wp2
      refine ⟨trivial, ?_⟩
      refine (callsIn_wide.2 (steps_any w3 b x)).mono ?_; rintro e w4 ⟨rfl, rfl⟩
      gi_wp2
      obtain ⟨W6, hW6⟩ : ∃ W6, ((w3.alloc (.cells #[.pointer (some ⟨b, 0, none⟩)] 44)).alloc (.cells #[.int .u32 (x : Int)] 54)) = W6 := ⟨_, rfl⟩
      have hz6 : W6.heap.size = w3.heap.size + 1 + 1 := by rw [← hW6]; simp
      have k6 : Keeps (fun _ => False) w3 W6 := by rw [← hW6]; exact ((Keeps.refl _ _).alloc _).alloc _
      have hBw : W6.cell? ⟨w3.heap.size, 0, none⟩ = some (.pointer (some ⟨b, 0, none⟩)) := by
        rw [← hW6]; exact ((Boxed.new w3 _ _).alloc _).cell
      have hBs : W6.heap[w3.heap.size + 1]? = some (.cells #[.int .u32 (x : Int)] 54 (0, 0)) := by
        rw [← hW6]
        have := heap_alloc_new (w3.alloc (.cells #[.pointer (some ⟨b, 0, none⟩)] 44)) (.cells #[.int .u32 (x : Int)] 54)
        rwa [World.size_alloc] at this
      have hBsc : W6.cell? ⟨w3.heap.size + 1, 0, none⟩ = some (.int .u32 (x : Int)) := by rw [cell_of_blk hBs]; rfl
      rw [hW6]
      have hlow3 : w.heap.size ≤ w3.heap.size := HA.out.keep.size
      have HA6 := Lib.hid (HA.out.keeps0 k6)
      have HM6 := Lib.hid (HM.out.keeps (KeepsD.of0 k6))
      have HWW := Lib.hid (show ∃ w0 : World, WordsAt w0 base b st g0 v ops ∧ w0.heap.size ≤ w.heap.size ∧ Below w.heap.size w0 W6 from ⟨w, HW.out, Nat.le_refl _, HA6.out.keep.below⟩)
      have hgrow0 : ∀ k, (Value.slice (some ⟨g, 0, none⟩) stk'.length cap).ownBlock = some k → k ≠ w3.heap.size + 1 := fun k hk => by have := (World.ownsRow.lt HA.out.stack k hk).2; omega
      have HG0 := Lib.hid hgrow0
      have HBS := Lib.hid hBs
      clear hgrow0 hBs
      refine wpIn_rangeFunc_ownH (α := StpOf ops x) rfl (by omega) (gf := 110) (lb := #[.pointer (some ⟨w3.heap.size, 0, none⟩), .pointer (some ⟨w3.heap.size + 1, 0, none⟩)]) rfl trivial (enters_of Try.func110 (by kernel_rfl) rfl)
        (steps_stops Fence.wide 8 trivial rfl (by omega) w3.heap.size (w3.heap.size + 1) w.heap.size base b st g0 x v ops hops (by omega) hx32 W6 (by omega) hBw hBsc (by omega) (by omega) HWW.out)
        KpS.trans (kpS_b (by omega) (by omega)) (Below.refl _ _) (fun _ => rfl)
        (fun pre W => AllI w b1 b2 b3 stk' seen out x (.slice (some ⟨g2, 0, none⟩) (out.length + 1) cap2) ds (w3.heap.size + 1) (pre.map fun y => y.1.to) W)
        (fun _ _ _ => False) ?hI (fun _ _ _ _ _ hs _ _ => hs) ?h0
        (fun (y : StpOf ops x) (a' : Act) (W : World) => ∃ Bx : Nat, W.heap[Bx]? = some (Obj.cells #[.int .i64 (y.1.op : Int), .int .i64 y.1.cost, .int .u32 (y.1.to : Int)] 104 (0, 0)) ∧ a' = { tmps := #[.iface 44 (.pointer (some ⟨b, 0, none⟩)), undef, .slice none 0 0, .bool false, .pointer (some ⟨b1, 0, none⟩), .pointer (some ⟨b3, 0, none⟩), .slice (some ⟨g2, 0, none⟩) (out.length + 1) cap2, .int .u32 (x : Int), .pointer (some ⟨Bx, 0, none⟩), u9, u10, u11, u12, u13, u14, u15, u16, u17, u18, (.slice (some ⟨g, 0, none⟩) (stk'.length + 1) cap), .int .i64 ((stk'.length : Int) + 1), .bool true, (.slice (some ⟨g, 0, none⟩) (stk'.length + 1) cap), (.slice (some ⟨g, 0, none⟩) (stk'.length + 1) cap), .int .i64 ((stk'.length : Int) + 1), .int .i64 (stk'.length : Int), .pointer (some ⟨g, stk'.length, none⟩), .int .u32 (x : Int), (.slice (some ⟨g, 0, none⟩) (stk'.length + 1) cap), (.slice (some ⟨g, 0, none⟩) (stk'.length + 1) cap), .int .i64 ((stk'.length : Int) + 1), .int .i64 (stk'.length : Int), .slice (some ⟨g, 0, none⟩) stk'.length cap, u6, .int .u32 (x : Int), .slice (some ⟨wr.heap.size, 0, none⟩) 1 1, .slice (some ⟨g2, 0, none⟩) (out.length + 1) cap2, .iface 44 (.pointer (some ⟨b, 0, none⟩)), .int .u32 (x : Int), .func (.func 110) #[] #[.pointer (some ⟨w3.heap.size, 0, none⟩), .pointer (some ⟨w3.heap.size + 1, 0, none⟩)], y.1.val, u41, u42, u43, u44, u45, u46, u47, u48, u49, u50, u51, u52, u53, u54, u55, u56, u57, u58, u59, u60, u61, u62], defers := [] }) ?hAx ?assign ?body ?done ?stop
      case hI =>
        intro l W W' row hs hg hr
        obtain ⟨vs', h1, h2, h3, h4⟩ := hs
        exact ⟨vs', h1.steady hg hr (by omega) (by have := lt_of_heap_map HA6.out.map; omega), Marks.steady HM6.out h2 hg hr, steady_heap hg (fun r e => (hr r e).2) h3, h4⟩
      case h0 => exact ⟨_, by simpa [freshs] using HA6.out, HM6.out, HBS.out, HG0.out⟩
      case hAx =>
        intro y a' _ W W' row hs hg hr
        obtain ⟨Bx, h1, h2⟩ := hs
        exact ⟨Bx, steady_heap hg (fun r e => (hr r e).2) h1, h2⟩
      case assign =>
        intro l pre y W K hi hK
        simp only [Stp.val]
        gi_wp2
        obtain ⟨vs', h1, h2, h3, h4⟩ := hi
        refine hK _ _ ((KeepsOthers.alloc _ _).from _) ((KpS.refl _ _ W).alloc h1.keep.size (lt_of_heap h3) _) ⟨vs', h1.keeps0 ((Keeps.refl _ _).alloc _), h2.keeps (KeepsD.of0 ((Keeps.refl _ _).alloc _)), ((Keeps.refl (fun _ => False) W).alloc _).heap h3 (fun h => h), h4⟩ ⟨W.heap.size, heap_alloc_new W _, rfl⟩
      case body =>
        rintro l pre y a' W hl - ⟨vs', h1, h2, h3, h4⟩ ⟨Bx, hBx, rfl⟩ hlt
        have x1c := h1.x1.cell
        have x1f := h1.x1.frozen
        have x3c := h1.x3.cell
        have y2 : W.cell? ⟨Bx, 2, none⟩ = some (.int .u32 (y.1.to : Int)) := by rw [cell_of_blk hBx]; rfl
        have hBxl := lt_of_heap hBx
        have l1 := h1.x1.lt
        have l3 := h1.x3.lt
        have hnd := nodup_freshs (xs := pre.map fun y => y.1.to) HND.out
        have hsn := freshs_snoc (pre.map fun y => y.1.to) y.1.to seen
        by_cases hm : y.1.to ∈ seen ++ freshs seen (pre.map fun y => y.1.to)
        · have hlk := (h1.map.run_lookup_hit (P := Try.prog) Try.underlying129 Try.underlying54 (seenL_nodup hnd) (seenL_mem hm)).1
          rw [if_pos hm, List.append_nil] at hsn
          have H1 := Lib.hid h1; have H2 := Lib.hid h2; have H3 := Lib.hid h3; have H4 := Lib.hid h4; have HSN := Lib.hid hsn
          clear h1 h2 h3 h4 hsn hm hnd hBx
          gi_wp2
          refine ⟨(KeepsOthers.alloc _ _).from _, (KpS.refl _ _ W).alloc H1.out.keep.size (lt_of_heap H3.out) _, ⟨vs', ?_, H2.out.keeps (KeepsD.of0 ((Keeps.refl _ _).alloc _)), ((Keeps.refl (fun _ => False) W).alloc _).heap H3.out (fun h => h), H4.out⟩⟩
          have e : freshs seen ((pre ++ [y]).map fun y => y.1.to) = freshs seen (pre.map fun y => y.1.to) := by rw [List.map_append]; exact HSN.out
          rw [e]
          exact H1.out.keeps0 ((Keeps.refl _ _).alloc _)
        · have kal := (Keeps.refl (fun _ => False) W).alloc (.cells #[] 128)
          have hlk := ((h1.map).run_lookup_miss (P := Try.prog) Try.underlying129 Try.underlying54 (z := .agg #[]) (by simp [Try.zeroValue128]) (seenL_miss hm)).1
          obtain ⟨W1, hrunU, hI1, hK1⟩ := ((h1.map.alloc (.cells #[] 128))).run_update_new (P := Try.prog) Try.underlying129 Try.underlying54 (seenL_miss hm) (.agg #[])
          have hS1 := (h1.keeps0 kal).see (x := y.1.to) hI1 hK1
          have hb2 := box_not_map h1.map h1.x1
          have hbx2 : Bx ≠ b2 := by rintro rfl; obtain ⟨es, c, hb, _⟩ := h1.map; rw [hBx] at hb; cases hb
          have hbs2 : w3.heap.size + 1 ≠ b2 := by rintro rfl; obtain ⟨es, c, hb, _⟩ := h1.map; rw [h3] at hb; cases hb
          have z1c := hS1.x1.cell
          have z1f := hS1.x1.frozen
          have z3c := hS1.x3.cell
          have y2' : W1.cell? ⟨Bx, 2, none⟩ = some (.int .u32 (y.1.to : Int)) := hK1.cell (kal.cell y2 (fun h => h)) hbx2
          have zs := hS1.x1.lt
          have zb := lt_of_heap (hK1.heap (kal.heap hBx (fun h => h)) hbx2)
          rw [if_neg hm] at hsn
          have hfl : (freshs seen (pre.map fun y => y.1.to)).length ≤ 40 := by
            have e1 := freshs_le (seen := seen) (xs := pre.map fun y => y.1.to)
            rw [List.length_map] at e1
            have := HWL.out; omega
          obtain ⟨sk, hsk⟩ : ∃ sk, stk' ++ freshs seen (pre.map fun y => y.1.to) = sk := ⟨_, rfl⟩
          have hlen : sk.length ≤ 2040 := by rw [← hsk, List.length_append]; omega
          rw [hsk] at hS1
          have HSK := Lib.hid hsk
          clear hsk
          have hlowW : w.heap.size ≤ W1.heap.size := hS1.keep.size
          have HROW := Lib.hid (hS1.stack.alloc (.cells #[.int .u32 (y.1.to : Int)] 54))
          have H1 := Lib.hid h1; have H2 := Lib.hid h2; have H3 := Lib.hid h3; have H4 := Lib.hid h4; have HSN := Lib.hid hsn; have HS1 := Lib.hid hS1; have HK1 := Lib.hid hK1; have HNB := Lib.hid hbs2; have HI1 := Lib.hid hI1
          clear h1 h2 h3 h4 hsn hm hnd hBx hS1 hK1 hI1 kal hb2 hbx2 hbs2 hfl
          gi_wp2_with (gi_at_builtin; refine wpListIn_append_lies _ rfl (.tmp 54) (.tmp 57) 45 rfl w.heap.size 54 i0 _ 1 4 Try.underlying45 hi0 hz0 hz1 hz2 rfl (by omega) vs' sk.length (sk.map encW) rfl HROW.out ⟨W1.heap.size, 0, none⟩ 1 1 [.int .u32 (y.1.to : Int)] rfl rfl ?hnews2 ?hone2 (by omega) (by unfold maxLen; omega) (by omega) (by simp; omega) (W1.heap.size + 1) (by simp) ?_)
          case hnews2 => exact World.news_of_block (cs := #[.int .u32 (y.1.to : Int)]) (t := 54) (fr := (0, 0)) (heap_alloc_new W1 (.cells #[.int .u32 (y.1.to : Int)] 54))
          case hone2 => simp [Value.oneCell']
          intro g4 cap4 W2 hown2 hgrow2 hat2 hlt2
          have hbx1 : W2.heap[b1]? = some (.cells #[vs'] 45 (0, 0)) := ((Keeps.refl (fun b => vs'.ownBlock = some b) _).grown hgrow2 (fun k hk => .inl hk)).heap (((Keeps.refl (fun _ => False) W1).alloc _).heap HS1.out.x1 (fun h => h)) HS1.out.row1
          have v1c : W2.cell? ⟨b1, 0, none⟩ = some vs' := (cell_of_blk hbx1).trans rfl
          have v1f : W2.frozen? ⟨b1, 0, none⟩ = false := frozen_of_blk hbx1
          have v1l := lt_of_heap hbx1
          have HP2 := Lib.hid (HS1.out.push (x := y.1.to) rfl hown2 hgrow2 hat2)
          have HX1 := Lib.hid hbx1
          have HG2 := Lib.hid hgrow2
          have HAT2 := Lib.hid hat2
          clear hown2 hgrow2 hat2 hlt2 hbx1
          gi_wp2
          have hk : Keeps (fun b => b = b2 ∨ b = b1 ∨ vs'.ownBlock = some b) W (W2.setCell ⟨b1, 0, none⟩ (.slice (some ⟨g4, 0, none⟩) (sk.length + 1) cap4)) := by
            have q1 : Keeps (fun b => b = b2 ∨ b = b1 ∨ vs'.ownBlock = some b) W W1 := (((Keeps.refl (fun _ => False) W).alloc (.cells #[] 128)).mono (fun _ _ h => h.elim)).trans (HK1.out.mono (fun _ _ h => .inl h))
            have q2 : Keeps (fun b => b = b2 ∨ b = b1 ∨ vs'.ownBlock = some b) W1 W2 := (((Keeps.refl (fun _ => False) W1).alloc (.cells #[.int .u32 (y.1.to : Int)] 54)).mono (fun _ _ h => h.elim)).trans (((Keeps.refl (fun b => vs'.ownBlock = some b) _).grown HG2.out (fun k hk => .inl hk)).mono (fun _ _ h => .inr (.inr h)))
            exact (q1.trans q2).trans ((Keeps.refl _ W2).setCell (p := ⟨b1, 0, none⟩) (.inl (.inr (.inl rfl))) _)
          have hS : ∀ b, b = b2 ∨ b = b1 ∨ vs'.ownBlock = some b → w.heap.size ≤ b ∧ b < W6.heap.size + W.heap.size ∧ b ≠ w3.heap.size + 1 ∧ W.heap[b]? ≠ some (.deferred (some [])) ∧ (b = b2 ∨ ∃ cs t fr, W.heap[b]? = some (.cells cs t fr)) := by
            rintro b (rfl | rfl | hb)
            · exact ⟨H1.out.l2, by have := H1.out.map.lt; omega, fun e => HNB.out e.symm, map_not_deferred H1.out.map, .inl rfl⟩
            · refine ⟨H1.out.l1, by have := H1.out.x1.lt; omega, ?_, cells_not_deferred H1.out.x1, .inr ⟨_, _, _, H1.out.x1⟩⟩
              intro e
              have h := (show W.heap[b]? = _ from H1.out.x1)
              rw [e, H3.out] at h
              simp at h
            · refine ⟨(World.ownsRow.lt H1.out.stack b hb).1, by have := (World.ownsRow.lt H1.out.stack b hb).2; omega, H4.out b hb, row_not_deferred H1.out.stack b hb, .inr ?_⟩
              rcases H1.out.stack.2 with ⟨e, _⟩ | ⟨gq, cq, curq, e, _, hgq, _⟩
              · rw [e] at hb; simp [Value.ownBlock] at hb
              · rw [e] at hb; simp [Value.ownBlock] at hb; subst hb; exact ⟨_, _, _, hgq⟩
          refine ⟨⟨hk.size, fun k o hB hk0 hc => ?_⟩, KpS.ofKeeps hk H1.out.keep.size (fun k hlt hs => by have := (hS k hs).1; omega) (lt_of_heap H3.out) (fun hs => (hS _ hs).2.2.1 rfl), ⟨.slice (some ⟨g4, 0, none⟩) (sk.length + 1) cap4, ?_, H2.out.keeps (KeepsD.of hk (fun b hs => (hS b hs).2.2.2.1)), hk.heap H3.out (fun hs => (hS _ hs).2.2.1 rfl), ?_⟩⟩
          · refine hk.heap hk0 (fun hs => ?_)
            rcases (hS k hs).2.2.2.2 with rfl | ⟨cs, t, fr, e⟩
            · have := HA6.out.map.lt; omega
            · rw [e] at hk0; cases hk0; cases hc
          · have e : freshs seen ((pre ++ [y]).map fun y => y.1.to) = freshs seen (pre.map fun y => y.1.to) ++ [y.1.to] := by rw [List.map_append]; exact HSN.out
            rw [e, ← List.append_assoc, ← List.append_assoc, HSK.out]
            exact HP2.out
          · intro k hk' e
            simp [Value.ownBlock] at hk'
            subst hk'
            rcases HAT2.out with e' | e'
            · exact H4.out g4 e' e
            · have := lt_of_heap H3.out; have := HK1.out.size; simp at this; omega
      case done =>
        rintro D ys W hD hys ⟨vs', h1, h2, h3, h4⟩ hd
        have hl : (ys.map fun y => y.1.to) = nexts ops x := by
          have := congrArg (List.map Stp.to) hys
          rw [wsteps_nexts] at this
          rw [← this, List.map_map]; rfl
        rw [hl] at h1
        have HM7 := Lib.hid (HM6.out.cons h2 hD (by omega) hd)
        obtain ⟨sn, hsn⟩ : ∃ sn, seen ++ freshs seen (nexts ops x) = sn := ⟨_, rfl⟩
        obtain ⟨sk, hsk⟩ : ∃ sk, stk' ++ freshs seen (nexts ops x) = sk := ⟨_, rfl⟩
        have hdf := HDF.out
        rw [hsn, hsk] at hdf h1
        have HDF2 := Lib.hid hdf
        have hsmall : ∀ z ∈ sn, z < 4294967296 := by
          rw [← hsn]
          intro z hz
          rcases mem_freshs.1 hz with hz | hz
          · exact HSM.out z hz
          · unfold nexts at hz
            obtain ⟨o, ho, rfl⟩ := List.mem_map.1 hz
            have ho' := List.mem_filter.1 ho
            exact next_lt hx32 (hops o ho'.1).2.1
        have HSMN := Lib.hid hsmall
        have hlen := h1.map.run_len (P := Try.prog) Try.underlying129 3
        have hll : (seenL sn).length = sn.length := by unfold seenL; simp
        rw [hll] at hlen
        have H1 := Lib.hid h1
        have x3c := h1.x3.cell
        have hsn40 : sn.length ≤ 2040 := by
          have e1 := freshs_le (seen := seen) (xs := nexts ops x)
          have e2 := congrArg List.length (wsteps_nexts ops x)
          rw [List.length_map] at e2
          have := HWL.out; have := HFEW.out
          rw [← hsn, List.length_append]; omega
        clear h1 h2 h3 h4 hl hd hll hdf hsn hsk hsmall HDF HSM HND HBS HG0 HWW HA6 HA HM6 HM
        by_cases hbig2 : 2000 < sn.length
        · gi_wp2
          refine leaves_marks (ds := mark D :: ds) HM7.out (fun W' hk => ?_)
          refine ⟨.tuple #[.slice none 0 0, .bool false], by simp [results, Try.results35, go_sem], H1.out.keep.trans' hk (fun i hi => .inr hi.1), .inl ⟨HDF2.out.many hbig2, rfl⟩⟩
        · have hle2 : sn.length ≤ 2000 := by omega
          gi_wp2
          refine ⟨⟨mark D :: ds, _, _, _, _, _, _, _, _, _, _, _, _, _, _, _, _, _, _, _, _, _, _, _, _, _, _, _, _, _, _, _, _, _, _, _, _, _, _, _, _, _, _, _, _, _, _, _, _, _, _, _, _, _, _, _, _, _, sk, sn, out ++ [x], vs', ⟨H1.out, HDF2.out, hle2, HSMN.out, HM7.out⟩, rfl⟩, ?_⟩
          simp [sliceLen, H6.out]
          omega
      case stop => exact fun _ _ _ _ _ _ h _ => h.elim

theorem all_any (w : World) (b st g0 base : Nat) (v : Value) (ops : List Wop) (hw : WordsAt w base b st g0 v ops) (hops : WopsOk ops) (hmany : ops.length ≤ 40) (hst : st < 4294967296) :
    Calls Try.prog 35 #[.iface 44 (.pointer (some ⟨b, 0, none⟩))] w (AllPost ops st w) := callsIn_wide.1 (all_in w b st g0 base v ops hw hops hmany hst)

end Go.Proofs.Ytjcgkmodmjckjaa

namespace Go.Proofs.Ytjcgkmodmjckjaa
open Go.RowKit

theorem wops_ok {t : Tsk} (ok : t.Ok) : WopsOk (wordsOf t.ops) := by
  intro o ho
  unfold wordsOf at ho
  obtain ⟨p, hp, rfl⟩ := List.mem_map.1 ho
  have h := ok.ops p hp
  have hn : t.n ≤ 32 := by have := ok.n1; omega
  exact ⟨wd_lt32 hn h.pre, wd_lt32 hn h.add, wd_lt32 hn h.del⟩

/-- The states that a task explores, if they are few. -/
def explored (t : Tsk) : Option (List Nat) := reached (wordsOf t.ops) (wd t.init)

/-- What Checked hands back. -/
def CheckedPost (t : Tsk) (w : World) (e : Ending) (w' : World) : Prop := Keeps (fun _ => False) w w' ∧
  (((taskFault t).1 ≠ 0 ∧ e = .returned (.tuple #[.pointer none, .slice none 0 0, .agg #[.int .i64 (taskFault t).1, .int .i64 (taskFault t).2]])) ∨
   (t.Ok ∧ explored t = none ∧ e = .returned (.tuple #[.pointer none, .slice none 0 0, .agg #[.int .i64 10, .int .i64 (-7)]])) ∨
   (t.Ok ∧ ∃ l, explored t = some l ∧ ∃ (b : Nat) (v vl : Value) (ws : List Nat), e = .returned (.tuple #[.pointer (some ⟨b, 0, none⟩), vl, .agg #[.int .i64 0, .int .i64 0]]) ∧ WordsAt w' w.heap.size b (wd t.init) (wd t.goal) v (wordsOf t.ops) ∧
      ws.Perm l ∧ ws.Pairwise (fun a b => ¬ cmpW b a < 0) ∧ w'.ownsRow w.heap.size 54 1 vl ws.length (ws.map encW)))

theorem WordsAt.keepsS {S : Nat → Prop} {w w' : World} {base b s g : Nat} {v : Value} {ops : List Wop} (h : WordsAt w base b s g v ops) (hk : Keeps S w w') (hb : ¬ S b) (hv : ∀ k, v.ownBlock = some k → ¬ S k) : WordsAt w' base b s g v ops :=
  ⟨hk.heap h.blk hb, hk.ownsRow h.own hv, h.low, h.ne⟩
theorem WordsAt.mono {w : World} {base base' b s g : Nat} {v : Value} {ops : List Wop} (h : WordsAt w base b s g v ops) (hb : base' ≤ base) : WordsAt w base' b s g v ops :=
  ⟨h.blk, ownsRow_mono h.own hb, Nat.le_trans hb h.low, h.ne⟩

set_option maxHeartbeats 2000000 in
theorem checked_any (w : World) (vi vg vo : Value) (t : Tsk) (h : TaskAt w vi vg vo t) :
    Calls Try.prog 13 #[.agg #[.int .i64 t.n, vi, vg, vo]] w (CheckedPost t w) := by
  obtain ⟨ai, ci, h1, _⟩ := h.init.form
  obtain ⟨ag, cg, h2, _⟩ := h.goal.form
  obtain ⟨ao, co, h3, hmo⟩ := h.ops.form
  subst h1 h2 h3
  have K1 := (Keeps.refl (fun _ => False) w).alloc (.cells #[.int .i64 t.n, .slice ai t.init.length ci, .slice ag t.goal.length cg, .slice ao t.ops.length co] 25)
  have HT := h.keeps0 (K1.alloc (.cells #[.int .i64 0, .int .i64 0] 28))
  have HB := (Four.new w (.int .i64 t.n) (.slice ai t.init.length ci) (.slice ag t.goal.length cg) (.slice ao t.ops.length co) 25).keeps0 ((Keeps.refl _ _).alloc (.cells #[.int .i64 0, .int .i64 0] 28))
  have HF : Flt w ((w.alloc (.cells #[.int .i64 t.n, .slice ai t.init.length ci, .slice ag t.goal.length cg, .slice ao t.ops.length co] 25)).alloc (.cells #[.int .i64 0, .int .i64 0] 28)) (w.heap.size + 1) 28 :=
    ⟨by have := heap_alloc_new (w.alloc (.cells #[.int .i64 t.n, .slice ai t.init.length ci, .slice ag t.goal.length cg, .slice ao t.ops.length co] 25)) (.cells #[.int .i64 0, .int .i64 0] 28); rwa [World.size_alloc] at this, by omega, K1.alloc _⟩
  replace HT := Lib.hid HT; replace HB := Lib.hid HB; replace HF := Lib.hid HF
  clear h K1
  go_enter Try.func13, Try.ntmps13
  go_upto_region 1 with fail
  generalize ((w.alloc (.cells #[.int .i64 t.n, .slice ai t.init.length ci, .slice ag t.goal.length cg, .slice ao t.ops.length co] 25)).alloc (.cells #[.int .i64 0, .int .i64 0] 28)) = w1 at HT HB HF ⊢
  have hbx := HB.out.lt
  obtain ⟨d0, d1, d2, d3⟩ := HB.out
  go_wp2_with fail
  refine (validate_any _ _ _ _ t HT.out).mono ?_; rintro e w2 ⟨rfl, hk⟩
  have K2 := Lib.hid hk
  have hbx2 := (HB.out.keeps0 hk).lt
  have l2 : w1.heap.size ≤ w2.heap.size := hk.size
  clear d0 d1 d2 d3 hk
  have KA := Lib.hid (K2.out.alloc (.cells #[.int .i64 (taskFault t).1, .int .i64 (taskFault t).2] 28))
  obtain ⟨d0, d1, d2, d3⟩ := HB.out.keeps0 K2.out
  by_cases hc : (taskFault t).1 = 0
  · have hok := taskFault_zero.1 hc
    have hft := taskFault_ok hok
    have OK := Lib.hid hok
    rw [hft] at KA ⊢
    clear hc hft hok
    go_wp2_with fail
    have HTA := Lib.hid (HT.out.keeps0 KA.out)
    refine (of_any _ _ _ _ t HTA.out OK.out).mono ?_; rintro e w3 ⟨b, v, rfl, hw, hk3⟩
    have KB := Lib.hid (KA.out.trans hk3)
    have HW := Lib.hid hw
    have hs3 : w1.heap.size ≤ w3.heap.size := KB.out.size
    have hstl := wd_lt32 (by have := OK.out.n1; omega : t.n ≤ 32) OK.out.init
    clear hk3 hw
    go_wp2_with fail
    refine (all_any w3 b (wd t.init) (wd t.goal) _ v (wordsOf t.ops) HW.out (wops_ok OK.out) (by unfold wordsOf; rw [List.length_map]; exact OK.out.few) hstl).mono ?_
    rintro e w4 ⟨hk4, hr⟩
    have KC := Lib.hid (KB.out.trans hk4)
    have HW4 := Lib.hid (HW.out.keeps0 hk4)
    clear hk4
    rcases hr with ⟨hr1, rfl⟩ | ⟨l, hr1, vl, out, rfl, hp, hown⟩
    · have HR := Lib.hid hr1
      obtain ⟨e0, e1, z0, z1, hF⟩ := (HF.out.keeps0 KC.out).cells
      clear hr1
      go_wp2_with fail
      refine bodyPost_ret (results_tmp2_cell _ _ (w.heap.size + 1) 28 #[.int .i64 10, .int .i64 (-7)] (0, 0) _ rfl rfl ((HF.out.keeps0 KC.out).set (.int .i64 10) (.int .i64 (-7))).1 Try.underlying28 rfl (by kernel_rfl)) rfl ?_
      exact ⟨((HF.out.keeps0 KC.out).set _ _).2, .inr (.inl ⟨OK.out, HR.out, rfl⟩)⟩
    · have HR := Lib.hid hr1
      obtain ⟨av, cv, hav⟩ := ownsRow_form1 hown
      subst hav
      have HO := Lib.hid hown; have HP := Lib.hid hp
      have hrl := reached_some hr1
      have hlen : out.length ≤ 2000 := by rw [hp.length_eq]; exact hrl.2.1
      clear hr1 hown hp hrl
      go_wp2_with fail
      refine (sort_any _ _ _ _ out HO.out (by omega)).mono ?_; rintro e w5 ⟨rfl, ws, hp2, hs2, hown2, hk5⟩
      have KD := Lib.hid (KC.out.trans' hk5 (fun i hi => .inr (by have := (World.ownsRow.lt HO.out i hi).1; omega)))
      have hvl : ∀ k, (Value.slice av out.length cv).ownBlock = some k → w3.heap.size ≤ k := fun k hk => (World.ownsRow.lt HO.out k hk).1
      have HW5 := Lib.hid (show WordsAt w5 w.heap.size b (wd t.init) (wd t.goal) v (wordsOf t.ops) from
        (HW4.out.keepsS hk5 (fun hs => by have := hvl b hs; have := lt_of_heap HW.out.blk; omega) (fun k hk hs => by have := hvl k hs; have := (World.ownsRow.lt HW.out.own k hk).2; omega)).mono (by have := KA.out.size; have := HF.out.keep.size; simp at *; omega))
      have HO5 := Lib.hid (ownsRow_mono hown2 (by have := KB.out.size; have := HF.out.keep.size; omega : w.heap.size ≤ w3.heap.size))
      have HP2 := Lib.hid (hp2.trans HP.out); have HS2 := Lib.hid hs2
      have HF5 := Lib.hid (HF.out.keeps0 KD.out)
      obtain ⟨e0, e1, z0, z1, hF⟩ := HF5.out.cells
      clear hp2 hs2 hown2 hk5 hvl
      go_wp2_with fail
      refine bodyPost_ret (results_tmp2_cell _ _ (w.heap.size + 1) 28 #[.int .i64 0, .int .i64 0] (0, 0) _ rfl rfl (HF5.out.set (.int .i64 0) (.int .i64 0)).1 Try.underlying28 rfl (by kernel_rfl)) rfl ?_
      have kS := keeps_pair (w := w5) (w.heap.size + 1) (.int .i64 0) (.int .i64 0)
      refine ⟨(HF5.out.set _ _).2, .inr (.inr ⟨OK.out, l, HR.out, b, v, _, ws, rfl, ?_, HP2.out, (HS2.out.imp (fun h => by first | exact h | omega)), ?_⟩)⟩
      · refine HW5.out.keepsS kS (fun e => ?_) (fun k hk e => ?_)
        · have h1 := HW5.out.blk; rw [e, HF5.out.blk] at h1; simp at h1
        · subst e
          have h1 := HF5.out.blk
          rcases HW5.out.own.2 with ⟨e, _⟩ | ⟨gq, cq, curq, e, _, hgq, _⟩
          · rw [e] at hk; simp [Value.ownBlock] at hk
          · rw [e] at hk; simp [Value.ownBlock] at hk; subst hk; rw [hgq] at h1; simp at h1
      · refine kS.ownsRow HO5.out (fun k hk e => ?_)
        subst e
        have h1 := HF5.out.blk
        rcases HO5.out.2 with ⟨e, _⟩ | ⟨gq, cq, curq, e, _, hgq, _⟩
        · rw [e] at hk; simp [Value.ownBlock] at hk
        · rw [e] at hk; simp [Value.ownBlock] at hk; subst hk; rw [hgq] at h1; simp at h1
  · have hc2 : ((taskFault t).1 == 0) = false := by simpa using hc
    have HC := Lib.hid hc
    obtain ⟨e0, e1, z0, z1, hF⟩ := (HF.out.keeps0 K2.out).cells
    have HFA := Lib.hid (HF.out.keeps0 KA.out)
    clear hc
    generalize hfe : taskFault t = f at hc2 HC HFA KA ⊢
    have HFE := Lib.hid hfe
    clear hfe
    go_wp2_with fail
    have HF2 := Lib.hid (HF.out.keeps0 K2.out)
    go_region
    all_goals
      go_wp2
      refine bodyPost_ret (results_tmp2_cell _ _ (w.heap.size + 1) 28 #[.int .i64 f.1, .int .i64 f.2] (0, 0) _ rfl rfl ((((Keeps.refl (fun _ => False) _).alloc _).drew).heap (HF2.out.set (.int .i64 f.1) (.int .i64 f.2)).1 (fun h => h)) Try.underlying28 rfl (by kernel_rfl)) rfl ?_
      refine ⟨((HF2.out.set (.int .i64 f.1) (.int .i64 f.2)).2.alloc _).drew, .inl ?_⟩
      rw [HFE.out]
      exact ⟨HC.out, rfl⟩

end Go.Proofs.Ytjcgkmodmjckjaa

namespace Go.Proofs.Ytjcgkmodmjckjaa
open Go.RowKit

/-! ### Explored -/
def expF (t : Tsk) : Int × Int := if (taskFault t).1 = 0 then (match explored t with | none => (10, -7) | some _ => (0, 0)) else taskFault t

theorem pair_cells {w : World} {B : Nat} {x y : Value} {T : TypeId} (h : w.heap[B]? = some (.cells #[x, y] T (0, 0))) : w.cell? ⟨B, 0, none⟩ = some x ∧ w.cell? ⟨B, 1, none⟩ = some y ∧ w.frozen? ⟨B, 0, none⟩ = false ∧ w.frozen? ⟨B, 1, none⟩ = false ∧ B < w.heap.size :=
  ⟨by rw [cell_of_blk h]; rfl, by rw [cell_of_blk h]; rfl, frozen_of_blk h, frozen_of_blk h, lt_of_heap h⟩

theorem Flt.keepsS {S : Nat → Prop} {w w1 w2 : World} {F : Nat} {T : TypeId} (h : Flt w w1 F T) (hk : Keeps S w1 w2) (hF : ¬ S F) (hS : ∀ i, S i → w.heap.size ≤ i) : Flt w w2 F T :=
  ⟨hk.heap h.blk hF, h.base, h.keep.trans' hk (fun i hi => .inr (hS i hi))⟩

/-! ### wayFault -/
/-! ### wide -/
end Go.Proofs.Ytjcgkmodmjckjaa

namespace Go.Proofs.Ytjcgkmodmjckjaa
open Go.RowKit

/-- v: a window on a row of one-cell elements, which reads as xs. -/
def Tail (w : World) (base : Nat) (e : TypeId) (v : Value) (xs : List Value) : Prop :=
  ∃ (g off cap : Nat) (cur : Array Value), v = .slice (some ⟨g, off, none⟩) xs.length cap ∧ base ≤ g ∧ w.heap[g]? = some (.cells cur e (0, 0)) ∧ xs.length ≤ cap ∧ cap ≤ maxLen ∧ off + cap ≤ cur.size ∧ (cur.toList.drop off).take xs.length = xs

section
variable {w w' : World} {base : Nat} {e : TypeId} {v : Value} {xs : List Value}
theorem Tail.keeps {S : Nat → Prop} (h : Tail w base e v xs) (hk : Keeps S w w') (hs : ∀ k, v.ownBlock = some k → ¬ S k) : Tail w' base e v xs := by
  obtain ⟨g, off, cap, cur, rfl, hb, hg, rest⟩ := h
  exact ⟨g, off, cap, cur, rfl, hb, hk.heap hg (hs g rfl), rest⟩
theorem Tail.lt (h : Tail w base e v xs) (k : Nat) (hk : v.ownBlock = some k) : base ≤ k ∧ k < w.heap.size := by
  obtain ⟨g, off, cap, cur, rfl, hb, hg, rest⟩ := h
  simp [Value.ownBlock] at hk; subst hk
  exact ⟨hb, lt_of_heap hg⟩
theorem Tail.block (h : Tail w base e v xs) (k : Nat) (hk : v.ownBlock = some k) : ∃ cur, w.heap[k]? = some (.cells cur e (0, 0)) := by
  obtain ⟨g, off, cap, cur, rfl, hb, hg, rest⟩ := h
  simp [Value.ownBlock] at hk; subst hk
  exact ⟨_, hg⟩
theorem Tail.not_deferred (h : Tail w base e v xs) (k : Nat) (hk : v.ownBlock = some k) : w.heap[k]? ≠ some (.deferred (some [])) := by
  obtain ⟨cur, hg⟩ := h.block k hk
  exact cells_not_deferred hg
theorem Tail.not_map {b : Nat} {kd : IntKind} {l : List (Int × Value)} (hm : IMap w b kd l) (h : Tail w base e v xs) : v.ownBlock ≠ some b := by
  intro e'
  obtain ⟨cur, hg⟩ := h.block b e'
  obtain ⟨es, c, hb, _⟩ := hm
  rw [hg] at hb; cases hb
theorem Tail.not_box {b : Nat} {t : TypeId} {u : Value} (h : Tail w base e v xs) (hx : w.heap[b]? = some (.cells #[u] t (0, 0))) (ht : t ≠ e) : v.ownBlock ≠ some b := by
  intro e'
  obtain ⟨cur, hg⟩ := h.block b e'
  rw [hg] at hx
  simp at hx
  exact ht hx.2.symm
theorem Tail.steady {row : Option Nat} (hg : w.grownBy w' row) (hr : ∀ r, row = some r → ∃ o : Obj, w.heap[r]? = some o ∧ o.isCells = false) (h : Tail w base e v xs) : Tail w' base e v xs := by
  obtain ⟨g, off, cap, cur, rfl, hb, hgg, rest⟩ := h
  exact ⟨g, off, cap, cur, rfl, hb, steady_heap hg hr hgg, rest⟩
theorem Tail.head {g off n cap : Nat} {x : Value} (h : Tail w base e (.slice (some ⟨g, off, none⟩) n cap) (x :: xs)) : w.cell? ⟨g, off, none⟩ = some x := by
  obtain ⟨g', off', cap', cur, hv, hb, hg, h1, h2, h3, h4⟩ := h
  simp only [Value.slice.injEq, Option.some.injEq, Addr.mk.injEq] at hv
  obtain ⟨⟨rfl, rfl, _⟩, rfl, rfl⟩ := hv
  rw [cell_of_blk hg]
  have := congrArg (fun l : List Value => l[0]?) h4
  simp only [List.getElem?_take, List.getElem?_drop] at this
  simpa using this
theorem Tail.form (h : Tail w base e v xs) : ∃ g off cap, v = .slice (some ⟨g, off, none⟩) xs.length cap ∧ xs.length ≤ cap ∧ cap ≤ maxLen ∧ base ≤ g ∧ g < w.heap.size := by
  obtain ⟨g, off, cap, cur, hv, hb, hg, h1, h2, _⟩ := h
  exact ⟨g, off, cap, hv, h1, h2, hb, lt_of_heap hg⟩

/-- The address behind the first element, as the machine tells it. -/
def cutAt (g off cap : Nat) : Addr := if cap = 1 then ⟨g, off, none⟩ else ⟨g, off + 1, none⟩
theorem cutAt_block (g off cap : Nat) : (cutAt g off cap).block = g := by unfold cutAt; split <;> rfl
theorem Tail.cut {g off n cap : Nat} {x : Value} (h : Tail w base e (.slice (some ⟨g, off, none⟩) (n + 1) cap) (x :: xs)) (hn : xs.length = n) : Tail w base e (.slice (some (cutAt g off cap)) n (cap - 1)) xs := by
  obtain ⟨g', off', cap', cur, hv, hb, hg, h1, h2, h3, h4⟩ := h
  simp only [Value.slice.injEq, Option.some.injEq, Addr.mk.injEq] at hv
  obtain ⟨⟨rfl, rfl, _⟩, _, rfl⟩ := hv
  have ht : (cur.toList.drop (off + 1)).take xs.length = xs := by
    have := congrArg (List.drop 1) h4
    rw [List.drop_take, List.drop_drop] at this
    simpa using this
  simp only [List.length_cons] at h1
  by_cases hc : cap = 1
  · have hz : xs = [] := List.length_eq_zero_iff.1 (by omega)
    subst hz
    refine ⟨g, off, cap - 1, cur, by simp [cutAt, hc, ← hn], hb, hg, by simp, by omega, by omega, by simp⟩
  · exact ⟨g, off + 1, cap - 1, cur, by simp [cutAt, hc, hn], hb, hg, by omega, by omega, by omega, ht⟩

theorem Tail.new (W : World) (base : Nat) (e : TypeId) (x : Value) (hb : base ≤ W.heap.size) : Tail (W.alloc (.cells #[x] e)) base e (.slice (some ⟨W.heap.size, 0, none⟩) 1 1) [x] :=
  ⟨W.heap.size, 0, 1, #[x], rfl, hb, heap_alloc_new W _, by simp, by unfold maxLen; omega, by simp, by simp⟩
end

section
variable {P : Program} (w : World)
theorem run_append_tail (base : Nat) (t ty e : TypeId) (i : TypeInfo) (z : Value) (bytes : Nat) (ht : P.underlying t = some (.slice e)) (hi : P.info? e = some i) (hz : i.zero = some z)
    (hsize : i.size = 1) (hby : i.bytes = bytes) (hzs : z.cells.size = 1)
    (v : Value) (xs : List Value) (hown : Tail w base e v xs) (ad : Addr) (c : Nat) (u : Value) (hnew : w.cell? ad = some u) (h1 : u.oneCell' = true)
    (h63 : xs.length + 1 ≤ maxLen) (hbytes : (xs.length + 1) * bytes ≤ 140737488355328) (hbase : base ≤ w.heap.size) :
    ∃ g off cap w', (Builtin.append_ #[t, t] ty #[v, .slice (some ad) 1 c]).run P w = .ok (.slice (some ⟨g, off, none⟩) (xs.length + 1) cap) w' ∧
      Tail w' base e (.slice (some ⟨g, off, none⟩) (xs.length + 1) cap) (xs ++ [u]) ∧ w.grownBy w' v.ownBlock ∧ (v.ownBlock = some g ∨ g = w.heap.size) ∧ g < w'.heap.size := by
  obtain ⟨g, off, cap, cur, rfl, hb, hg, hn, hcm, hcs, htake⟩ := hown
  have hnews : ∀ j u', [u][j]? = some u' → w.cell? (ad.add j) = some u' := by
    intro j u' hj
    cases j with
    | zero => simp at hj; subst hj; simpa [Addr.add] using hnew
    | succ j => simp at hj
  by_cases hroom : xs.length + 1 ≤ cap
  · have hsrc := Src.ofSlice (P := P) (size := i.size) w ht ad 1 c [u] (by rw [hsize]; rfl) hnews (by intro u' hu; simp at hu; subst hu; exact h1)
    have hr := run_append_room_src (P := P) w t t ty e i ht hi g off xs.length cap _ 1 [u] hsrc hroom
      (by
        intro j hj
        simp at hj
        subst hj
        rw [cell_of_blk hg, hsize, Nat.mul_one, Nat.add_zero]
        rw [Array.getElem?_eq_getElem (by omega)]; rfl)
      (by intro j hj; exact frozen_of_blk hg)
    rw [hsize, Nat.mul_one] at hr
    have hw' : w.setCells g (off + xs.length) [u] = w.setCell ⟨g, off + xs.length, none⟩ u := rfl
    rw [hw'] at hr
    refine ⟨g, off, cap, _, hr, ⟨g, off, cap, cur.setIfInBounds (off + xs.length) u, by simp, hb, blk_set_same hg u, by simpa using hroom, hcm, by simpa using hcs, ?_⟩, ?_, .inl rfl, ?_⟩
    · apply List.ext_getElem?
      intro j
      rw [List.length_append, List.length_singleton, List.getElem?_take]
      by_cases hj : j < xs.length + 1
      · rw [if_pos hj, List.getElem?_drop, Array.toList_setIfInBounds, List.getElem?_set]
        by_cases hj2 : j = xs.length
        · subst hj2
          simp; omega
        · have : ¬ off + xs.length = off + j := by omega
          rw [if_neg this, List.getElem?_append_left (by omega)]
          have h2 := congrArg (fun l : List Value => l[j]?) htake
          simp only [List.getElem?_take, List.getElem?_drop] at h2
          rw [if_pos (by omega)] at h2
          exact h2
      · rw [if_neg hj, List.getElem?_eq_none (by simp; omega)]
    · refine ⟨rfl, rfl, rfl, by simp, fun k hk hne => ?_⟩
      exact heap_setCell_other w ⟨g, off + xs.length, none⟩ k u (by rintro rfl; exact hne rfl)
    · have := lt_of_heap hg; simpa using this
  · have hold : ∀ j u', xs[j]? = some u' → w.cell? ((⟨g, off, none⟩ : Addr).add j) = some u' := by
      intro j u' hj
      have hadd : (⟨g, off, none⟩ : Addr).add j = ⟨g, off + j, none⟩ := by unfold Addr.add; split <;> simp_all
      rw [hadd, cell_of_blk hg]
      rw [← htake, List.getElem?_take] at hj
      split at hj
      · rw [List.getElem?_drop] at hj; simpa using hj
      · cases hj
    have hsmall : xs.length + 1 ≤ 9223372036854775807 := by simp only [maxLen] at h63; omega
    subst hby
    have hr := run_append_grow (P := P) w t ty e i z ht hi hz ⟨g, off, none⟩ xs.length cap xs (by rw [hsize, Nat.mul_one]) hold ad 1 c [u] (by rw [hsize]; rfl) hnews (by omega) (by omega) (growslice_fits (by omega) hbytes)
    have hge := grownCap_ge w (xs.length + 1) cap e
    have hcm2 : grownCap w (xs.length + 1) cap e ≤ maxLen := grownCap_le_maxLen w _ cap e h63
    refine ⟨w.heap.size, 0, _, _, hr, ⟨w.heap.size, 0, grownCap w (xs.length + 1) cap e, _, by simp, hbase, heap_alloc_new w.drew _, by simpa using hge, hcm2, ?_, ?_⟩, ⟨rfl, rfl, rfl, by simp, fun k hk _ => Below.heap_alloc w.drew _ k hk⟩, .inr rfl, by simp⟩
    · simp only [Array.size_append, List.size_toArray, size_zeroCells, hzs, List.length_singleton]
      omega
    · simp only [Array.toList_append, List.drop_zero]
      rw [List.take_left' (by simp)]

theorem wpListIn_append_tail {F : Fence} {n : Nat} {ops : Array Oper} {rest : List Oper} {o : Oper} {a : Act} {Q : Exit → Act → World → Prop}
    (hg : o.guard = none) (s x : Operand) (t : TypeId) (hop : o.op = Op.call { callee := Callee.builtin Builtin.append, args := #[s, x], argTypes := #[t, t] })
    (base : Nat) (e : TypeId) (i : TypeInfo) (z : Value) (bytes : Nat) (h1 : P.underlying t = some (.slice e)) (h2 : P.info? e = some i) (h3 : i.zero = some z) (h4 : i.size = 1) (h5 : i.bytes = bytes) (h6 : z.cells.size = 1)
    (v : Value) (xs : List Value) (hs : a.eval s = v) (hown : Tail w base e v xs) (ad : Addr) (c : Nat) (u : Value) (hx : a.eval x = .slice (some ad) 1 c)
    (hc : w.cell? ad = some u) (h1c : u.oneCell' = true) (k : Nat) (hk : xs.length = k) (b1 : k + 1 ≤ maxLen) (b2 : (k + 1) * bytes ≤ 140737488355328) (b3 : base ≤ w.heap.size) (H : Nat) (hH : w.heap.size = H)
    (hK : ∀ g off cap w', Tail w' base e (.slice (some ⟨g, off, none⟩) (k + 1) cap) (xs ++ [u]) → w.grownBy w' v.ownBlock → (v.ownBlock = some g ∨ g = H) → g < w'.heap.size → wpListIn F n P ops Q rest (a.put o.dst (.slice (some ⟨g, off, none⟩) (k + 1) cap)) w') :
    wpListIn F n P ops Q (o :: rest) a w := by
  refine wpListIn_plain hg fun K hK' => ?_
  subst hk
  obtain ⟨g, off, cap, w', hrun, r1, r2, r3, r4⟩ := run_append_tail (P := P) w base t o.type e i z bytes h1 h2 h3 h4 h5 h6 v xs hown ad c u hc h1c b1 b2 b3
  rw [hH] at r3
  unfold Oper.wpIn
  refine ⟨?_, ?_⟩
  · simp [Oper.about, hop, resolve, Target.leads, Sem.run_pure]
  · rw [Oper.semAt_plain F _ _ (by rw [hop]; intro c hc'; cases hc')]
    simp [execOp, hop, resolve, invoke, builtin, hs, hx, hrun, Result.andThen]
    exact hK' _ _ (hK g off cap w' r1 r2 r3 r4)
end

end Go.Proofs.Ytjcgkmodmjckjaa

namespace Go.Proofs.Ytjcgkmodmjckjaa
open Go.RowKit Go.Sort Go.Proofs

section
variable {α : Type} [Inhabited α] (enc : α → Value)
theorem holdsE_of_block {w : World} {g : Nat} {cur : Array Value} {e : TypeId} {ss : List α} (hb : w.heap[g]? = some (.cells cur e (0, 0))) (ht : cur.toList.take ss.length = ss.map enc) : Holds enc w g 0 ss.toArray := by
  intro j hj
  have hj' : j < ss.length := by simpa using hj
  refine ⟨?_, by simp [World.frozen?, hb]⟩
  have h1 : (cur.toList.take ss.length)[j]? = (ss.map enc)[j]? := by rw [ht]
  rw [List.getElem?_take_of_lt hj'] at h1
  simp only [World.cell?, hb, Nat.zero_add]
  simp only [Option.isSome_none, Bool.false_eq_true, if_false]
  rw [← Array.getElem?_toList, h1]
  simp [hj']
theorem take_putCellsE (cur : Array Value) (ts : List α) (h : ts.length ≤ cur.size) : (putCells enc 0 ts.toArray cur).toList.take ts.length = ts.map enc := by
  apply List.ext_getElem?
  intro j
  by_cases hj : j < ts.length
  · rw [List.getElem?_take_of_lt hj, Array.getElem?_toList]
    simp [putCells, hj, show j < cur.size by omega]
  · rw [List.getElem?_take_eq_none (by omega), List.getElem?_eq_none (by simp; omega)]
theorem heap_putE {w : World} {g n : Nat} {cur : Array Value} {e : TypeId} {fr : Nat × Nat} (d : Array α) (hb : w.heap[g]? = some (.cells cur e fr)) :
    (putRow enc (Sort.ahead w n) g 0 d).heap[g]? = some (.cells (putCells enc 0 d cur) e fr) := by
  simp [putRow, mapBlock, Sort.ahead, Array.getElem?_modify, hb, onCells]
theorem keeps_putE {w : World} {g n : Nat} (d : Array α) : Keeps (fun b => b = g) w (putRow enc (Sort.ahead w n) g 0 d) := by
  refine ⟨rfl, rfl, rfl, by simp [putRow, mapBlock, Sort.ahead], fun k hk hne => ?_⟩
  have : g ≠ k := fun e => hne e.symm
  simp [putRow, mapBlock, Sort.ahead, Array.getElem?_modify, this]
end

theorem reverse_any (w : World) (base : Nat) (T : TypeId) (v : Value) (l : List Int) (hown : w.ownsRow base T 1 v l.length (l.map (Value.int .i64))) (hlen : l.length ≤ 9223372036854775807) :
    Calls Try.prog 54 #[v] w fun e w' => e = .returned (.tuple #[]) ∧ w'.ownsRow base T 1 v l.length (l.reverse.map (Value.int .i64)) ∧ Keeps (fun b => v.ownBlock = some b) w w' := by
  rcases hown.2 with ⟨rfl, h0⟩ | ⟨g, cap, cur, rfl, hb, hg, hn, hm, hs, ht⟩
  · have hz : l = [] := List.length_eq_zero_iff.1 h0
    subst hz
    refine (Try.slices_Reverse_int_empty none 0 w).mono ?_
    rintro e w' ⟨rfl, rfl⟩
    exact ⟨rfl, World.ownsRow_nil _ _ _ _, Keeps.refl _ _⟩
  · have ht' : cur.toList.take l.length = l.map (Value.int .i64) := by simpa using ht
    refine (Try.slices_Reverse_int g 0 cap l w (holdsE_of_block (Value.int .i64) hg ht') hlen).mono ?_
    rintro e w' ⟨rfl, n, rfl⟩
    refine ⟨rfl, ⟨by simp, .inr ⟨g, cap, _, rfl, hb, heap_putE (Value.int .i64) _ hg, hn, hm, by simp [putCells, hs], ?_⟩⟩, (keeps_putE (Value.int .i64) _).mono (fun i _ h => by subst h; rfl)⟩
    have := take_putCellsE (Value.int .i64) cur l.reverse (by simp; omega)
    simpa using this

/-! ### space.Path -/
/-- The map of a tree. -/
def parL (T : List Ent) : List (Int × Value) := T.map fun e => ((e.to : Int), Value.agg #[.int .u32 (e.frm : Int), .int .i64 (e.op : Int)])
theorem parL_nodup {T : List Ent} (h : (keysT T).Nodup) : ((parL T).map Prod.fst).Nodup := by
  have e : (parL T).map Prod.fst = (keysT T).map fun x : Nat => (x : Int) := by unfold parL keysT; rw [List.map_map, List.map_map]; rfl
  rw [e]
  exact List.Pairwise.map _ (fun a b hab => by omega) h
theorem parL_mem {T : List Ent} {e : Ent} (h : e ∈ T) : ((e.to : Int), Value.agg #[.int .u32 (e.frm : Int), .int .i64 (e.op : Int)]) ∈ parL T := List.mem_map.2 ⟨e, h, rfl⟩
theorem parL_miss {T : List Ent} {x : Nat} (h : x ∉ keysT T) : ∀ p ∈ parL T, p.1 ≠ (x : Int) := by
  intro p hp e
  obtain ⟨y, hy, rfl⟩ := List.mem_map.1 hp
  have : y.to = x := by simp only at e; omega
  exact h (List.mem_map.2 ⟨y, hy, this⟩)

def intsP (p : List Nat) : List Int := p.map fun x : Nat => (x : Int)

set_option maxRecDepth 100000 in
set_option maxHeartbeats 1000000 in
theorem path_any (w : World) (m : Nat) (ops : List Wop) (s i : Nat) (T : List Ent) (k : Nat) (e : Ent) (ok : TreeOk ops s i T) (hm : IMap w m .u32 (parL T)) (he : T[k]? = some e) (few : T.length ≤ 100000) :
    Calls Try.prog 48 #[.map (some m), .int .u32 (s : Int), .int .u32 (e.to : Int)] w fun en w' => ∃ v, en = .returned v ∧ w'.ownsRow w.heap.size 3 1 v e.path.length ((intsP e.path).map (Value.int .i64)) ∧ Keeps (fun _ => False) w w' := by
  obtain ⟨i0, hi0, hz0, hz1, hz2⟩ := info_parts Try.info3
  have HM := Lib.hid hm; have OK := Lib.hid ok; have HE := Lib.hid he; have FEW := Lib.hid few
  have hkl := (List.getElem?_eq_some_iff.1 he).1
  clear hm ok he few
  go_enter Try.func48, Try.ntmps48
  go_wp2_with fail
  go_loopw [2, 7] (fun x v wr => ∃ (j : Nat) (f : Ent) (out : List Nat), T[j]? = some f ∧ out.length + j ≤ k ∧ e.path = f.path ++ out.reverse ∧ x = .int .u32 (f.to : Int) ∧ wr.ownsRow w.heap.size 3 1 v (intsP out).length ((intsP out).map (Value.int .i64)) ∧ Keeps (fun _ => False) w wr)
    (fun x _ _ => ((keysT T).idxOf (intOf x).toNat))
  case atStart => exact ⟨k, e, [], HE.out, by simp, by simp, rfl, World.ownsRow_nil _ _ _ _, Keeps.refl _ _⟩
  case round =>
    obtain ⟨j, f, out, hj, hjk, hp, rfl, hown, hkw⟩ := hrel
    have HO := Lib.hid hown; have KW := Lib.hid hkw; have HP := Lib.hid hp; have HJ := Lib.hid hj; have HJK := Lib.hid hjk
    have hmw := HM.out.keeps hkw (fun h => h)
    clear hown hkw hp hj hjk
    obtain ⟨av, cv, hv⟩ := ownsRow_form1 HO.out
    subst hv
    by_cases hne : f.to = s
    · have hb : ((f.to : Int) != (s : Int)) = false := by simp [hne]
      have hf : f.path = [] := by
        have h0 := OK.out.inj HJ.out OK.out.head hne
        subst h0
        have h1 := HJ.out
        rw [OK.out.head] at h1
        cases h1; rfl
      have HPE := Lib.hid (show (intsP out).reverse = intsP e.path by
        rw [HP.out, hf]; simp [intsP])
      clear hne hf
      go_wp2_with fail
      refine (reverse_any _ _ _ _ (intsP out) HO.out (by have := HJK.out; have := FEW.out; simp [intsP]; omega)).mono ?_
      rintro e' w5 ⟨rfl, hown2, hk5⟩
      have HO5 := Lib.hid hown2
      have K5 := Lib.hid (KW.out.trans' hk5 (fun b hb => .inr (World.ownsRow.lt HO.out b hb).1))
      clear hown2 hk5
      go_wp2_with fail
      go_ret
      refine ⟨_, rfl, ?_, K5.out⟩
      have h2 : (intsP out).length = e.path.length := by
        have := congrArg List.length HPE.out
        simpa [intsP] using this
      have h1 := HO5.out
      rw [HPE.out] at h1
      generalize (Value.slice av (intsP out).length cv) = v at h1
      rw [h2] at h1
      exact h1
    · have hb : ((f.to : Int) != (s : Int)) = true := by simp; omega
      have hj0 : 0 < j := by
        rcases Nat.eq_zero_or_pos j with h0 | h0
        · exfalso
          have h1 := HJ.out
          rw [h0, OK.out.head] at h1
          cases h1; exact hne rfl
        · exact h0
      obtain ⟨k2, g, h1, h2, h3, h4, h5, h6⟩ := OK.out.parent j f HJ.out hj0
      have HG := Lib.hid h3; have HFG := Lib.hid h4; have HPG := Lib.hid h5; have HKJ := Lib.hid h1
      have hlk := (hmw.run_lookup_hit (P := Try.prog) Try.underlying98 Try.underlying54 (parL_nodup OK.out.nodup) (parL_mem (List.mem_of_getElem? HJ.out))).2
      clear hne h1 h2 h3 h4 h5 h6 hj0
      have HB := Lib.hid (heap_alloc_new wr (.cells #[.int .u32 (f.frm : Int), .int .i64 (f.op : Int)] 97))
      have KA := Lib.hid ((Keeps.refl (fun _ => False) wr).alloc (.cells #[.int .u32 (f.frm : Int), .int .i64 (f.op : Int)] 97))
      go_upto_region 4 with fail
      generalize wr.alloc (.cells #[.int .u32 (f.frm : Int), .int .i64 (f.op : Int)] 97) = w3 at KA HB ⊢
      have c0 : w3.cell? ⟨wr.heap.size, 0, none⟩ = some (.int .u32 (f.frm : Int)) := by rw [cell_of_blk HB.out]; rfl
      have c1 : w3.cell? ⟨wr.heap.size, 1, none⟩ = some (.int .i64 (f.op : Int)) := by rw [cell_of_blk HB.out]; rfl
      have hO3 := KA.out.ownsRow HO.out (fun _ _ h => h)
      have hlen : (intsP out).length ≤ 100000 := by have := HJK.out; have := FEW.out; simp [intsP]; omega
      have hfew := FEW.out; have hs3 := KA.out.size; have hsw := KW.out.size
      go_wp2_with (at_builtin; refine wpList_append_d rfl _ _ _ rfl w.heap.size 3 i0 _ 1 8 Try.underlying22 hi0 hz0 hz1 hz2 rfl (by omega) _ (intsP out).length ((intsP out).map (Value.int .i64)) (by rfl) (World.ownsRow.alloc hO3 (.cells #[.int .i64 (f.op : Int)] 3)) ⟨w3.heap.size, 0, none⟩ 1 1 [.int .i64 (f.op : Int)] (by rfl) (by rfl) ?hnews ?hone (by omega) (by unfold maxLen; omega) (by omega) (by simp; omega) (w3.heap.size + 1) (by simp) ?_)
      case hnews => exact World.news_of_block (cs := #[.int .i64 (f.op : Int)]) (t := 3) (fr := (0, 0)) (heap_alloc_new _ _)
      case hone => simp [Value.oneCell']
      intro gg cap2 w4 hown hgrow hat hlt4 hd4
      have HN := Lib.hid (show w4.ownsRow w.heap.size 3 1 (.slice (some ⟨gg, 0, none⟩) ((intsP out).length + 1) cap2) (intsP (out ++ [f.op])).length ((intsP (out ++ [f.op])).map (Value.int .i64)) by
        have e1 : (intsP (out ++ [f.op])) = intsP out ++ [(f.op : Int)] := by simp [intsP]
        rw [e1, List.map_append, List.length_append]; exact hown)
      have HKN := Lib.hid (own_grown HO.out KW.out (KA.out.alloc (.cells #[.int .i64 (f.op : Int)] 3)) hgrow)
      have d0 : w4.cell? ⟨wr.heap.size, 0, none⟩ = some (.int .u32 (f.frm : Int)) := by
        have hb4 : w4.heap[wr.heap.size]? = _ := (steady_keeps hgrow).heap ((Below.heap_alloc w3 (.cells #[.int .i64 (f.op : Int)] 3) wr.heap.size (lt_of_heap HB.out)).trans HB.out) (fun e' => by have := (World.ownsRow.lt HO.out _ e').2; omega)
        rw [cell_of_blk hb4]; rfl
      clear hown hgrow hat hd4 c0 c1 hO3 hmw
      go_wp2_with fail
      go_roundw
      case rel =>
        refine ⟨k2, g, out ++ [f.op], HG.out, by have := HKJ.out; have := HJK.out; simp; omega, ?_, by rw [HFG.out], HN.out, HKN.out⟩
        rw [HP.out, HPG.out]; simp
      case measure =>
        have idx : ∀ (j : Nat) (x : Ent), T[j]? = some x → (keysT T).idxOf x.to = j := by
          intro j x hx
          have h1 : (keysT T)[j]? = some x.to := by unfold keysT; rw [List.getElem?_map, hx]; rfl
          obtain ⟨l1, g1⟩ := List.getElem?_eq_some_iff.1 h1
          rw [← g1]
          exact OK.out.nodup.idxOf_getElem j l1
        simp only [intOf, HFG.out, Int.toNat_natCast]
        rw [idx _ _ HG.out, idx _ _ HJ.out]
        exact HKJ.out

end Go.Proofs.Ytjcgkmodmjckjaa
