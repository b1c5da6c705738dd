/- The tree of a breadth-first search and the least of the shortest plans. Nothing here speaks of one program. -/
import Derived.Test.YtcfcmmajlkkabaaSteps
namespace Go.Proofs.Ytcfcmmajlkkabaa

/-! ### plans -/
/-- The word behind a list of operators, if all of them can be applied. -/
def runOps (ops : List Wop) : Nat → List Nat → Option Nat
  | x, [] => some x
  | x, o :: r => match ops[o]? with
    | none => none
    | some op => if op.can x = true then runOps ops (op.next x) r else none

theorem runOps_append (ops : List Wop) (p q : List Nat) : ∀ x, runOps ops x (p ++ q) = (runOps ops x p).bind fun y => runOps ops y q := by
  induction p with
  | nil => intro x; rfl
  | cons o r ih =>
    intro x
    rw [List.cons_append, runOps, runOps]
    cases ops[o]? with
    | none => rfl
    | some op =>
      simp only
      split
      · exact ih _
      · rfl

theorem runOps_snoc {ops : List Wop} {p : List Nat} {o x z : Nat} (h : runOps ops x (p ++ [o]) = some z) : ∃ y op, runOps ops x p = some y ∧ ops[o]? = some op ∧ op.can y = true ∧ z = op.next y := by
  rw [runOps_append] at h
  cases hp : runOps ops x p with
  | none => rw [hp] at h; cases h
  | some y =>
    rw [hp] at h
    simp only [Option.bind_some, runOps] at h
    cases ho : ops[o]? with
    | none => rw [ho] at h; cases h
    | some op =>
      rw [ho] at h; simp only at h
      split at h
      · rename_i hc; cases h; exact ⟨y, op, rfl, rfl, hc, rfl⟩
      · cases h

theorem runOps_snoc' {ops : List Wop} {p : List Nat} {o x y : Nat} {op : Wop} (h : runOps ops x p = some y) (ho : ops[o]? = some op) (hc : op.can y = true) : runOps ops x (p ++ [o]) = some (op.next y) := by
  rw [runOps_append, h]; simp [runOps, ho, hc]

/-! ### the order of plans: by length, then element by element -/
def lle : List Nat → List Nat → Prop
  | [], _ => True
  | _ :: _, [] => False
  | a :: p, b :: q => a < b ∨ (a = b ∧ lle p q)
def sle (p q : List Nat) : Prop := p.length < q.length ∨ (p.length = q.length ∧ lle p q)

theorem lle_refl : ∀ p, lle p p
  | [] => trivial
  | _ :: p => .inr ⟨rfl, lle_refl p⟩
theorem lle_trans : ∀ {p q r : List Nat}, lle p q → lle q r → lle p r
  | [], _, _, _, _ => trivial
  | _ :: _, [], _, h, _ => h.elim
  | _ :: _, _ :: _, [], _, h => h.elim
  | a :: p, b :: q, c :: r, h, k => by
    rcases h with h | ⟨h, h'⟩
    · rcases k with k | ⟨k, k'⟩
      · exact .inl (by omega)
      · exact .inl (by omega)
    · rcases k with k | ⟨k, k'⟩
      · exact .inl (by omega)
      · exact .inr ⟨by omega, lle_trans h' k'⟩
theorem lle_antisymm : ∀ {p q : List Nat}, lle p q → lle q p → p = q
  | [], [], _, _ => rfl
  | [], _ :: _, _, h => h.elim
  | _ :: _, [], h, _ => h.elim
  | a :: p, b :: q, h, k => by
    rcases h with h | ⟨h, h'⟩
    · rcases k with k | ⟨k, k'⟩ <;> omega
    · rcases k with k | ⟨k, k'⟩
      · omega
      · rw [h, lle_antisymm h' k']
theorem lle_append : ∀ {p q : List Nat} (r s : List Nat), lle p q → p.length = q.length → p ≠ q → lle (p ++ r) (q ++ s)
  | [], [], _, _, _, _, h => absurd rfl h
  | [], _ :: _, _, _, _, h, _ => by cases h
  | _ :: _, [], _, _, h, _, _ => h.elim
  | a :: p, b :: q, r, s, h, hl, hne => by
    rcases h with h | ⟨h, h'⟩
    · exact .inl h
    · refine .inr ⟨h, lle_append r s h' (by simpa using hl) (fun e => hne (by rw [h, e]))⟩
theorem lle_same : ∀ (p : List Nat) {r s : List Nat}, lle r s → lle (p ++ r) (p ++ s)
  | [], _, _, h => h
  | _ :: p, _, _, h => .inr ⟨rfl, lle_same p h⟩

theorem sle_refl (p : List Nat) : sle p p := .inr ⟨rfl, lle_refl p⟩
theorem sle_nil (p : List Nat) : sle [] p := by
  cases p with
  | nil => exact sle_refl _
  | cons a p => exact .inl (by simp)
theorem sle_trans {p q r : List Nat} (h : sle p q) (k : sle q r) : sle p r := by
  rcases h with h | ⟨h, h'⟩
  · rcases k with k | ⟨k, k'⟩
    · exact .inl (by omega)
    · exact .inl (by omega)
  · rcases k with k | ⟨k, k'⟩
    · exact .inl (by omega)
    · exact .inr ⟨by omega, lle_trans h' k'⟩
theorem sle_antisymm {p q : List Nat} (h : sle p q) (k : sle q p) : p = q := by
  rcases h with h | ⟨h, h'⟩
  · rcases k with k | ⟨k, k'⟩ <;> omega
  · rcases k with k | ⟨k, k'⟩
    · omega
    · exact lle_antisymm h' k'
theorem sle_snoc_ne {p q : List Nat} (a b : Nat) (h : sle p q) (hne : p ≠ q) : sle (p ++ [a]) (q ++ [b]) := by
  rcases h with h | ⟨h, h'⟩
  · exact .inl (by simp; omega)
  · exact .inr ⟨by simp; omega, lle_append _ _ h' h hne⟩
theorem sle_snoc_same (p : List Nat) {a b : Nat} (h : a ≤ b) : sle (p ++ [a]) (p ++ [b]) := by
  refine .inr ⟨by simp, lle_same p ?_⟩
  rcases Nat.lt_or_ge a b with h' | h'
  · exact .inl h'
  · exact .inr ⟨by omega, trivial⟩
theorem sle_snoc {p q : List Nat} (a : Nat) (h : sle p q) : sle (p ++ [a]) (q ++ [a]) := by
  by_cases e : p = q
  · rw [e]; exact sle_refl _
  · exact sle_snoc_ne a a h e

/-! ### the least plan -/
def Best (ops : List Wop) (s : Nat) (acc : Nat → Bool) : Option (List Nat) → Prop
  | some p => (∃ y, runOps ops s p = some y ∧ acc y = true) ∧ ∀ q y, runOps ops s q = some y → acc y = true → sle p q
  | none => ∀ q y, runOps ops s q = some y → acc y = false

theorem Best.unique {ops : List Wop} {s : Nat} {acc : Nat → Bool} {r r' : Option (List Nat)} (h : Best ops s acc r) (h' : Best ops s acc r') : r = r' := by
  cases r with
  | none =>
    cases r' with
    | none => rfl
    | some q =>
      obtain ⟨⟨y, h1, h2⟩, _⟩ := h'
      have := h q y h1
      rw [this] at h2; cases h2
  | some p =>
    obtain ⟨⟨y, h1, h2⟩, h3⟩ := h
    cases r' with
    | none => have := h' p y h1; rw [this] at h2; cases h2
    | some q =>
      obtain ⟨⟨z, k1, k2⟩, k3⟩ := h'
      rw [sle_antisymm (h3 q z k1 k2) (k3 p y h1 h2)]

/-! ### the tree -/
structure Ent where
  to : Nat
  frm : Nat
  op : Nat
  path : List Nat

def Ent.of (e : Ent) (x : Stp) : Ent := ⟨x.to, e.to, x.op, e.path ++ [x.op]⟩
def frs (e : Ent) : List Nat → List Stp → List Ent
  | _, [] => []
  | seen, x :: r => if x.to ∈ seen then frs e seen r else e.of x :: frs e (seen ++ [x.to]) r
def keysT (T : List Ent) : List Nat := T.map Ent.to

theorem frs_keys (e : Ent) (xs : List Stp) : ∀ seen, keysT (frs e seen xs) = freshs seen (xs.map Stp.to) := by
  induction xs with
  | nil => intro seen; rfl
  | cons x r ih =>
    intro seen
    rw [frs, List.map_cons, freshs]
    split
    · exact ih _
    · rw [← ih]; rfl

theorem frs_snoc (e : Ent) (xs : List Stp) (x : Stp) : ∀ seen, frs e seen (xs ++ [x]) = frs e seen xs ++ (if x.to ∈ seen ++ keysT (frs e seen xs) then [] else [e.of x]) := by
  induction xs with
  | nil =>
    intro seen
    rw [List.nil_append, frs]
    by_cases h : x.to ∈ seen <;> simp [h, frs, keysT]
  | cons y r ih =>
    intro seen
    rw [List.cons_append, frs, frs]
    by_cases h : y.to ∈ seen
    · rw [if_pos h, if_pos h, ih]
    · rw [if_neg h, if_neg h, ih]
      simp only [keysT, List.append_assoc, List.cons_append, List.nil_append, List.map_cons, Ent.of]

theorem mem_frs {e f : Ent} {xs : List Stp} : ∀ {seen}, f ∈ frs e seen xs → ∃ x ∈ xs, f = e.of x := by
  induction xs with
  | nil => intro seen h; cases h
  | cons x r ih =>
    intro seen h
    rw [frs] at h
    split at h
    · obtain ⟨y, h1, h2⟩ := ih h; exact ⟨y, by simp [h1], h2⟩
    · rcases List.mem_cons.1 h with rfl | h
      · exact ⟨x, by simp, rfl⟩
      · obtain ⟨y, h1, h2⟩ := ih h; exact ⟨y, by simp [h1], h2⟩

theorem frs_sorted {e : Ent} {xs : List Stp} (hs : xs.Pairwise fun a b => a.op < b.op) : ∀ seen, (frs e seen xs).Pairwise fun a b => sle a.path b.path := by
  induction xs with
  | nil => intro seen; exact List.Pairwise.nil
  | cons x r ih =>
    intro seen
    rw [List.pairwise_cons] at hs
    rw [frs]
    split
    · exact ih hs.2 _
    · rw [List.pairwise_cons]
      refine ⟨fun f hf => ?_, ih hs.2 _⟩
      obtain ⟨y, h1, rfl⟩ := mem_frs hf
      exact sle_snoc_same _ (by have := hs.1 y h1; omega)

theorem frs_first {e : Ent} {xs : List Stp} (hs : xs.Pairwise fun a b => a.op < b.op) : ∀ {seen} {x : Stp}, x ∈ xs → x.to ∈ seen ∨ ∃ f ∈ frs e seen xs, f.to = x.to ∧ ∃ o, o ≤ x.op ∧ f.path = e.path ++ [o] := by
  induction xs with
  | nil => intro seen x h; cases h
  | cons y r ih =>
    intro seen x h
    rw [List.pairwise_cons] at hs
    rw [frs]
    by_cases hy : y.to ∈ seen
    · rw [if_pos hy]
      rcases List.mem_cons.1 h with rfl | h
      · exact .inl hy
      · exact ih hs.2 h
    · rw [if_neg hy]
      rcases List.mem_cons.1 h with rfl | h
      · exact .inr ⟨e.of x, by simp, rfl, x.op, Nat.le_refl _, rfl⟩
      · rcases ih hs.2 (seen := seen ++ [y.to]) h with h1 | ⟨f, h1, h2, h3⟩
        · rcases List.mem_append.1 h1 with h1 | h1
          · exact .inl h1
          · simp at h1
            exact .inr ⟨e.of y, by simp, h1.symm, y.op, by have := hs.1 x h; omega, rfl⟩
        · exact .inr ⟨f, by simp [h1], h2, h3⟩

theorem wsteps_sorted (ops : List Wop) (s : Nat) : (wsteps ops s).Pairwise fun a b => a.op < b.op := by
  unfold wsteps
  have : ∀ i, (stepsFrom i ops s).Pairwise fun a b => a.op < b.op := by
    induction ops with
    | nil => intro i; exact List.Pairwise.nil
    | cons o r ih =>
      intro i
      rw [stepsFrom]
      split
      · rw [List.pairwise_cons]
        refine ⟨fun y hy => ?_, ih _⟩
        obtain ⟨k, o', _, _, rfl⟩ := stepsFrom_mem.1 hy
        show i < i + 1 + k
        omega
      · exact ih _
  exact this 0
theorem wsteps_mem {ops : List Wop} {s : Nat} {x : Stp} : x ∈ wsteps ops s ↔ ∃ o, ops[x.op]? = some o ∧ o.can s = true ∧ x.cost = o.cost ∧ x.to = o.next s := by
  unfold wsteps
  rw [stepsFrom_mem]
  constructor
  · rintro ⟨k, o, h1, h2, rfl⟩; exact ⟨o, by simpa using h1, h2, rfl, rfl⟩
  · rintro ⟨o, h1, h2, h3, h4⟩
    refine ⟨x.op, o, h1, h2, ?_⟩
    cases x; simp at *; exact ⟨h3, h4⟩

def tree (ops : List Wop) (s : Nat) : Nat → List Ent
  | 0 => [⟨s, s, 0, []⟩]
  | i + 1 => match (tree ops s i)[i]? with
    | none => tree ops s i
    | some e => tree ops s i ++ frs e (keysT (tree ops s i)) (wsteps ops e.to)

theorem tree_step {ops : List Wop} {s i : Nat} {e : Ent} (h : (tree ops s i)[i]? = some e) : tree ops s (i + 1) = tree ops s i ++ frs e (keysT (tree ops s i)) (wsteps ops e.to) := by
  rw [tree, h]

theorem tree_prefix (ops : List Wop) (s i : Nat) : ∀ k, tree ops s i <+: tree ops s (i + k)
  | 0 => List.prefix_refl _
  | k + 1 => by
    refine (tree_prefix ops s i k).trans ?_
    rw [← Nat.add_assoc, tree]
    split
    · exact List.prefix_refl _
    · exact List.prefix_append _ _

structure TreeOk (ops : List Wop) (s i : Nat) (T : List Ent) : Prop where
  nodup : (keysT T).Nodup
  head : T[0]? = some ⟨s, s, 0, []⟩
  run : ∀ e ∈ T, runOps ops s e.path = some e.to
  sorted : T.Pairwise fun a b => sle a.path b.path
  parent : ∀ (j : Nat) e, T[j]? = some e → 0 < j → ∃ (k : Nat) (f : Ent), k < j ∧ k < i ∧ T[k]? = some f ∧ e.frm = f.to ∧ e.path = f.path ++ [e.op] ∧ e.op < ops.length
  closed : ∀ (j : Nat) e, j < i → T[j]? = some e → ∀ x ∈ wsteps ops e.to, ∃ f ∈ T, f.to = x.to ∧ sle f.path (e.path ++ [x.op])
  reach : ∀ e ∈ T, Reach ops s e.to

theorem TreeOk.same {ops : List Wop} {s i : Nat} {T : List Ent} (h : TreeOk ops s i T) {e f : Ent} (he : e ∈ T) (hf : f ∈ T) (hef : e.path = f.path) : e.to = f.to := by
  have h1 := h.run e he
  have h2 := h.run f hf
  rw [hef, h2] at h1
  exact (Option.some.inj h1).symm

theorem pair_of {T : List Ent} {R : Ent → Ent → Prop} (h : T.Pairwise R) {j k : Nat} {e f : Ent} (hjk : j < k) (he : T[j]? = some e) (hf : T[k]? = some f) : R e f := by
  obtain ⟨h1, rfl⟩ := List.getElem?_eq_some_iff.1 he
  obtain ⟨h2, rfl⟩ := List.getElem?_eq_some_iff.1 hf
  exact List.pairwise_iff_getElem.1 h j k h1 h2 hjk

theorem TreeOk.inj {ops : List Wop} {s i : Nat} {T : List Ent} (h : TreeOk ops s i T) {j k : Nat} {e f : Ent} (he : T[j]? = some e) (hf : T[k]? = some f) (hef : e.to = f.to) : j = k := by
  have h1 : (keysT T)[j]? = some e.to := by unfold keysT; rw [List.getElem?_map, he]; rfl
  have h2 : (keysT T)[k]? = some f.to := by unfold keysT; rw [List.getElem?_map, hf]; rfl
  obtain ⟨l1, g1⟩ := List.getElem?_eq_some_iff.1 h1
  obtain ⟨l2, g2⟩ := List.getElem?_eq_some_iff.1 h2
  exact (List.getElem_inj h.nodup).1 (by rw [g1, g2, hef])

/-- What lies in the tree is no greater than what the entry at i adds. -/
theorem TreeOk.under {ops : List Wop} {s i : Nat} {T : List Ent} (h : TreeOk ops s i T) {e : Ent} (he : T[i]? = some e) {f : Ent} (hf : f ∈ T) (o : Nat) : sle f.path (e.path ++ [o]) := by
  obtain ⟨j, hj⟩ := List.mem_iff_getElem?.1 hf
  rcases Nat.eq_zero_or_pos j with rfl | hpos
  · rw [h.head] at hj; cases hj; exact sle_nil _
  · obtain ⟨k, g, hk, hki, hg, _, hp, _⟩ := h.parent j f hj hpos
    rw [hp]
    refine sle_snoc_ne _ _ (pair_of h.sorted hki hg he) (fun e' => ?_)
    have := h.inj hg he (h.same (List.mem_of_getElem? hg) (List.mem_of_getElem? he) e')
    omega

theorem tree_ok (ops : List Wop) (s : Nat) : ∀ i, TreeOk ops s i (tree ops s i)
  | 0 => by
    refine ⟨by simp [tree, keysT], rfl, fun e he => ?_, by simp [tree], fun j e hj h0 => ?_, fun j e hj => by omega, fun e he => ?_⟩
    · simp [tree] at he; subst he; rfl
    · cases j with
      | zero => omega
      | succ j => simp [tree] at hj
    · simp [tree] at he; subst he; exact .refl
  | i + 1 => by
    have ok := tree_ok ops s i
    rw [tree]
    cases hx : (tree ops s i)[i]? with
    | none =>
      refine ⟨ok.nodup, ok.head, ok.run, ok.sorted, fun j e hj h0 => ?_, fun j e hj he => ?_, ok.reach⟩
      · obtain ⟨k, f, h1, h2, h3⟩ := ok.parent j e hj h0
        exact ⟨k, f, h1, by omega, h3⟩
      · have he' : (tree ops s i)[j]? = some e := he
        have h1 := (List.getElem?_eq_some_iff.1 he').1
        have h2 := List.getElem?_eq_none_iff.1 hx
        exact ok.closed j e (by omega) he'
    | some e =>
      simp only
      have hil : i < (tree ops s i).length := (List.getElem?_eq_some_iff.1 hx).1
      have hem := List.mem_of_getElem? hx
      generalize hT : tree ops s i = T at *
      refine ⟨?_, ?_, fun f hf => ?_, ?_, fun j f hj h0 => ?_, fun j f hj hf x hxm => ?_, fun f hf => ?_⟩
      · have : keysT (T ++ frs e (keysT T) (wsteps ops e.to)) = keysT T ++ freshs (keysT T) ((wsteps ops e.to).map Stp.to) := by rw [← frs_keys e]; simp [keysT]
        rw [this]
        exact nodup_freshs ok.nodup
      · rw [List.getElem?_append_left (by omega)]; exact ok.head
      · rcases List.mem_append.1 hf with hf | hf
        · exact ok.run f hf
        · obtain ⟨x, h1, rfl⟩ := mem_frs hf
          obtain ⟨o, k1, k2, k3, k4⟩ := wsteps_mem.1 h1
          show runOps ops s (e.path ++ [x.op]) = some x.to
          rw [k4]
          exact runOps_snoc' (ok.run e hem) k1 k2
      · rw [List.pairwise_append]
        refine ⟨ok.sorted, frs_sorted (wsteps_sorted _ _) _, fun f hf g hg => ?_⟩
        obtain ⟨x, h1, rfl⟩ := mem_frs hg
        exact ok.under hx hf x.op
      · by_cases hjl : j < T.length
        · rw [List.getElem?_append_left hjl] at hj
          obtain ⟨k, g, h1, h2, h3, h4⟩ := ok.parent j f hj h0
          exact ⟨k, g, h1, by omega, by rw [List.getElem?_append_left (by have := (List.getElem?_eq_some_iff.1 h3).1; omega)]; exact h3, h4⟩
        · rw [List.getElem?_append_right (by omega)] at hj
          obtain ⟨x, h1, rfl⟩ := mem_frs (List.mem_of_getElem? hj)
          obtain ⟨o, k1, _⟩ := wsteps_mem.1 h1
          exact ⟨i, e, by omega, by omega, by rw [List.getElem?_append_left hil]; exact hx, rfl, rfl, (List.getElem?_eq_some_iff.1 k1).1⟩
      · by_cases hji : j < i
        · rw [List.getElem?_append_left (by omega)] at hf
          obtain ⟨g, h1, h2⟩ := ok.closed j f hji hf x hxm
          exact ⟨g, List.mem_append_left _ h1, h2⟩
        · have : j = i := by omega
          subst this
          rw [List.getElem?_append_left hil, hx] at hf
          cases hf
          rcases frs_first (e := e) (wsteps_sorted ops e.to) (seen := keysT T) hxm with h1 | ⟨g, h1, h2, o, h3, h4⟩
          · unfold keysT at h1
            obtain ⟨g, h2, h3⟩ := List.mem_map.1 h1
            exact ⟨g, List.mem_append_left _ h2, h3, ok.under hx h2 x.op⟩
          · refine ⟨g, List.mem_append_right _ h1, h2, ?_⟩
            rw [h4]
            exact sle_snoc_same _ h3
      · rcases List.mem_append.1 hf with hf | hf
        · exact ok.reach f hf
        · obtain ⟨x, h1, rfl⟩ := mem_frs hf
          refine .step (ok.reach e hem) ?_
          rw [← wsteps_nexts]
          exact List.mem_map.2 ⟨x, h1, rfl⟩

/-- Where all has been taken, all that can be reached lies in the tree. -/
theorem TreeOk.least {ops : List Wop} {s i : Nat} {T : List Ent} (h : TreeOk ops s i T) (hi : T.length ≤ i) (q : List Nat) : ∀ y, runOps ops s q = some y → ∃ f ∈ T, f.to = y ∧ sle f.path q := by
  suffices H : ∀ n (q : List Nat), q.length = n → ∀ y, runOps ops s q = some y → ∃ f ∈ T, f.to = y ∧ sle f.path q from H _ q rfl
  intro n
  induction n with
  | zero =>
    intro q hq y hy
    have : q = [] := List.length_eq_zero_iff.1 hq
    subst this
    simp [runOps] at hy
    subst hy
    exact ⟨_, List.mem_of_getElem? h.head, rfl, sle_refl _⟩
  | succ n ih =>
    intro q hq z hz
    have hne : q ≠ [] := by intro e; subst e; cases hq
    obtain ⟨p, o, rfl⟩ : ∃ p o, q = p ++ [o] := ⟨q.dropLast, q.getLast hne, (List.dropLast_concat_getLast hne).symm⟩
    obtain ⟨y, op, h1, h2, h3, rfl⟩ := runOps_snoc hz
    obtain ⟨f, hf, rfl, hp⟩ := ih p (by simpa using hq) y h1
    obtain ⟨j, hj⟩ := List.mem_iff_getElem?.1 hf
    have hjl := (List.getElem?_eq_some_iff.1 hj).1
    obtain ⟨g, k1, k2, k3⟩ := h.closed j f (by omega) hj ⟨o, op.cost, op.next f.to⟩ (wsteps_mem.2 ⟨op, h2, h3, rfl, rfl⟩)
    exact ⟨g, k1, k2, sle_trans k3 (sle_snoc _ hp)⟩

theorem tree_few {ops : List Wop} {s : Nat} {l : List Nat} (h : reached ops s = some l) (i : Nat) : (tree ops s i).length ≤ l.length := by
  have ok := tree_ok ops s i
  have := nodup_sub_length ok.nodup (b := l) (fun x hx => by
    unfold keysT at hx
    obtain ⟨e, he, rfl⟩ := List.mem_map.1 hx
    exact ((reached_some h).2.2.2 e.to).2 (ok.reach e he))
  unfold keysT at this
  rwa [List.length_map] at this

/-- The first accepted entry. -/
theorem tree_found {ops : List Wop} {s i : Nat} {l : List Nat} (h : reached ops s = some l) {acc : Nat → Bool} {e : Ent} (he : (tree ops s i)[i]? = some e) (ha : acc e.to = true)
    (hb : ∀ (j : Nat) f, j < i → (tree ops s i)[j]? = some f → acc f.to = false) : Best ops s acc (some e.path) := by
  refine ⟨⟨e.to, (tree_ok ops s i).run e (List.mem_of_getElem? he), ha⟩, fun q y hq hy => ?_⟩
  have hl := (List.getElem?_eq_some_iff.1 he).1
  have hle := tree_few h i
  have hle2 := tree_few h (i + l.length)
  have ok := tree_ok ops s (i + l.length)
  obtain ⟨f, hf, rfl, hp⟩ := ok.least (by omega) q y hq
  obtain ⟨j, hj⟩ := List.mem_iff_getElem?.1 hf
  obtain ⟨r, hr⟩ := tree_prefix ops s i l.length
  have get : ∀ k, k < (tree ops s i).length → (tree ops s (i + l.length))[k]? = (tree ops s i)[k]? := by
    intro k hk
    rw [← hr, List.getElem?_append_left hk]
  rcases Nat.lt_trichotomy j i with h1 | h1 | h1
  · have := hb j f h1 (by rw [← get j (by omega)]; exact hj)
    rw [this] at hy; cases hy
  · subst h1
    rw [get j hl, he] at hj
    cases hj; exact hp
  · exact sle_trans (pair_of ok.sorted h1 (by rw [get i hl]; exact he) hj) hp

theorem tree_none {ops : List Wop} {s i : Nat} {acc : Nat → Bool} (hi : (tree ops s i).length ≤ i) (hb : ∀ f ∈ tree ops s i, acc f.to = false) : Best ops s acc none := by
  intro q y hq
  obtain ⟨f, hf, rfl, _⟩ := (tree_ok ops s i).least hi q y hq
  exact hb f hf

end Go.Proofs.Ytcfcmmajlkkabaa
