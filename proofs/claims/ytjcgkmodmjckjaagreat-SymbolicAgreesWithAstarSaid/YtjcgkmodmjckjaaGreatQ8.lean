/- A search from both ends, in plain Lean: the way back from a state, the measure of the search, its start, and the best plan at its end. A search from both ends, in plain Lean: the state in the middle, and the costs of both parts. Cheapest ways, in plain Lean: the states of a price, and what symbolic's search for a plan knows. Literals as nodes, and what And with a row of them costs. symbolic's sets: before. symbolic's trace: what its steps find; the map of what is done. A map with words as keys, as a function that is not defined everywhere. bothends: a side in memory, and (*side).back. space.Path along a chain of parents that may have changed on the way. symbolic's trace. The queue's heap: what the slice of entries reads as; Less, Swap, Len walked. No condition beyond what each theorem says. -/
import Derived.Test.YtjcgkmodmjckjaaGreatQ5
import Derived.Test.YtjcgkmodmjckjaaGreatQ7
import Derived.Test.YtjcgkmodmjckjaaGreatQ6
import Derived.Test.YtjcgkmodmjckjaaGreatQ4
import Derived.Test.YtjcgkmodmjckjaaGreatProg
import Derived.Test.YtjcgkmodmjckjaaGreatQ1

namespace Go.Proofs.YtjcgkmodmjckjaaGreat

/-- The operators from a state back to the end of a side. -/
inductive Chain (par : Nat → Option SArc) : Nat → List Nat → Nat → Prop
  | nil {x : Nat} : par x = none → Chain par x [] x
  | cons {x : Nat} {a : SArc} {out : List Nat} {e : Nat} : par x = some a → Chain par a.to out e → Chain par x (a.op :: out) e

section
variable {G : Nat → List SArc} {S0 : Nat → Prop} {L : List Nat} {C : Int} {P : Nat → Option Int} {par : Nat → Option SArc} {A : List (Int × Int)} {s : Nat}
/-- Every state with a price has a way back; the states on it fall in price, so it is no longer than L. -/
theorem SideI.chain (h : SideI G S0 L C P par A s []) (hC : ∀ y, ∀ b ∈ G y, 1 ≤ b.price) [∀ x, Decidable (S0 x)] : ∀ (n : Nat) (x : Nat) (p : Int), P x = some p → p.toNat ≤ n →
    ∃ (out : List Nat) (e : Nat) (vs : List Nat), Chain par x out e ∧ S0 e ∧ vs.length = out.length ∧ vs.Nodup ∧ (∀ y ∈ vs, ∃ q, P y = some q ∧ q ≤ p ∧ y ∈ L)
  | n, x, p, hp, hn => by
    by_cases hs : S0 x
    · exact ⟨[], x, [], .nil (h.start x hs).2, hs, rfl, List.nodup_nil, by simp⟩
    · obtain ⟨a, ha, hg, q, hq, hle⟩ := h.from_ x p hp hs
      have h1 := hC _ _ hg
      simp only at h1
      have hq0 := (h.lo _ q hq).1
      cases n with
      | zero => omega
      | succ n =>
        obtain ⟨out, e, vs, hc, he, hl, hnd, hall⟩ := SideI.chain h hC n a.to q hq (by omega)
        refine ⟨a.op :: out, e, x :: vs, .cons ha hc, he, by simp [hl], List.nodup_cons.2 ⟨fun hx => ?_, hnd⟩, fun y hy => ?_⟩
        · obtain ⟨q', hq', hle', _⟩ := hall x hx
          rw [hp] at hq'; cases hq'; omega
        · rcases List.mem_cons.1 hy with rfl | hy
          · exact ⟨p, hp, Int.le_refl _, h.dom _ _ hp⟩
          · obtain ⟨q', hq', hle', hL⟩ := hall y hy
            exact ⟨q', hq', by omega, hL⟩
theorem SideI.back (h : SideI G S0 L C P par A s []) (hC : ∀ y, ∀ b ∈ G y, 1 ≤ b.price) [∀ x, Decidable (S0 x)] {x : Nat} {p : Int} (hp : P x = some p) : ∃ out e, Chain par x out e ∧ S0 e ∧ out.length ≤ L.length := by
  obtain ⟨out, e, vs, hc, he, hl, hnd, hall⟩ := h.chain hC p.toNat x p hp (Nat.le_refl _)
  exact ⟨out, e, hc, he, by rw [← hl]; exact nodup_sub_length hnd (fun y hy => (hall y hy).choose_spec.2.2)⟩
/-- From the front side: the way back, turned round, leads to the state, for no more than its price. -/
theorem SideI.chainF {ops : List Wop} (h : SideI G S0 L C P par A s []) (hG : ∀ y, ∀ b ∈ G y, ∃ o, ops[b.op]? = some o ∧ o.can y = true ∧ b.to = o.next y ∧ b.price = 4096 * o.cost + 1) {x e : Nat} {out : List Nat} (hc : Chain par x out e) : ∀ {p : Int}, P x = some p → runOps ops e out.reverse = some x ∧ wayN 4096 1 ops out.reverse ≤ p := by
  induction hc with
  | nil hn => intro p hp; exact ⟨rfl, by rw [List.reverse_nil, wayN_nil]; exact (h.lo _ p hp).1⟩
  | @cons x a out e ha hc ih =>
    intro p hp
    have hs : ¬ S0 x := fun hs => by rw [(h.start x hs).2] at ha; cases ha
    obtain ⟨a', ha', hg, q, hq, hle⟩ := h.from_ x p hp hs
    rw [ha] at ha'; cases ha'
    obtain ⟨o, h1, h2, h3, h4⟩ := hG _ _ hg
    simp only at h1 h2 h3 h4
    obtain ⟨i1, i2⟩ := ih hq
    rw [List.reverse_cons, wayN_append, wayN_one h1, runOps_append, i1]
    refine ⟨?_, by omega⟩
    simp only [Option.bind_some, runOps, h1, h2, if_true]
    rw [← h3]
/-! ### the measure -/
def weightB (L : List Nat) (m : Nat) (P : Nat → Option Int) : Nat := (L.map fun x => match P x with | some p => p.toNat | none => m).sum
theorem weightB_put {m x : Nat} {v : Int} (hv : v.toNat < m) : ∀ {L : List Nat}, x ∈ L → (∀ q, P x = some q → v.toNat < q.toNat) → weightB L m (putP P x v) < weightB L m P := by
  have one : ∀ y, (match putP P x v y with | some p => p.toNat | none => m) ≤ (match P y with | some p => p.toNat | none => m) ∨ y = x := fun y => by
    by_cases hy : y = x
    · exact .inr hy
    · rw [putP_other P v hy]; exact .inl (Nat.le_refl _)
  have hx0 : (∀ q, P x = some q → v.toNat < q.toNat) → (match putP P x v x with | some p => p.toNat | none => m) < (match P x with | some p => p.toNat | none => m) := fun h => by
    rw [putP_same]
    cases hq : P x with
    | none => exact hv
    | some q => exact h q hq
  have le : (∀ q, P x = some q → v.toNat < q.toNat) → ∀ L : List Nat, weightB L m (putP P x v) ≤ weightB L m P := fun h L => by
    induction L with
    | nil => exact Nat.le_refl _
    | cons y r ih =>
      unfold weightB at ih ⊢
      rw [List.map_cons, List.map_cons, List.sum_cons, List.sum_cons]
      rcases one y with h1 | rfl
      · omega
      · have := hx0 h; omega
  intro L
  induction L with
  | nil => intro h; simp at h
  | cons y r ih =>
    intro hx h
    have hle := le h r
    have hlt := hx0 h
    by_cases hy : y = x
    · subst hy
      unfold weightB at hle ⊢
      rw [List.map_cons, List.map_cons, List.sum_cons, List.sum_cons]; omega
    · have hxr : x ∈ r := by
        rcases List.mem_cons.1 hx with e | e
        · exact absurd e.symm hy
        · exact e
      have ih' := ih hxr h
      have h1 := one y
      unfold weightB at ih' ⊢
      rw [List.map_cons, List.map_cons, List.sum_cons, List.sum_cons]
      rcases h1 with h1 | h1
      · omega
      · exact absurd h1 hy
end

/-! ### the start -/
def startP (S : List Nat) : Nat → Option Int := fun x => if x ∈ S then some 0 else none
def startA (S : List Nat) : List (Int × Int) := S.foldl (fun A (x : Nat) => putA A (x : Int) 0) []
theorem startA_mem (S : List Nat) : ∀ z, z ∈ startA S ↔ ∃ x ∈ S, z = ((x : Int), 0) := by
  have key : ∀ (S : List Nat) (A : List (Int × Int)), (∀ z ∈ A, z.2 = 0) → ∀ z, z ∈ S.foldl (fun A (x : Nat) => putA A (x : Int) 0) A ↔ z ∈ A ∨ ∃ x ∈ S, z = ((x : Int), 0) := by
    intro S
    induction S with
    | nil => intro A _ z; simp
    | cons x r ih =>
      intro A hA z
      rw [List.foldl_cons, ih _ (fun z hz => by
        rcases mem_putA.1 hz with ⟨h, _⟩ | rfl
        · exact hA z h
        · rfl), mem_putA]
      constructor
      · rintro ((⟨h, _⟩ | rfl) | ⟨y, hy, rfl⟩)
        · exact .inl h
        · exact .inr ⟨x, by simp, rfl⟩
        · exact .inr ⟨y, by simp [hy], rfl⟩
      · rintro (h | ⟨y, hy, rfl⟩)
        · by_cases e : z.1 = (x : Int)
          · refine .inl (.inr ?_)
            have := hA z h
            cases z; simp at this e; rw [this, e]
          · exact .inl (.inl ⟨h, e⟩)
        · rcases List.mem_cons.1 hy with rfl | hy
          · exact .inl (.inr rfl)
          · exact .inr ⟨y, hy, rfl⟩
  intro z
  unfold startA
  rw [key S [] (by simp)]; simp
theorem SideI.init {G : Nat → List SArc} {L S : List Nat} {C : Int} (hC : 0 ≤ C) (hS : ∀ x ∈ S, x ∈ L) (s : Nat) : SideI G (fun x => x ∈ S) L C (startP S) (fun _ => none) (startA S) s [] := by
  have hP : ∀ {x : Nat} {p : Int}, startP S x = some p → x ∈ S ∧ p = 0 := fun {x p} h => by
    unfold startP at h
    split at h
    · cases h; exact ⟨by assumption, rfl⟩
    · cases h
  refine ⟨fun x p h => hS x (hP h).1, fun x p h => ?_, fun x hx => ⟨by unfold startP; rw [if_pos hx], rfl⟩, fun x p h hn => absurd (hP h).1 hn, fun z hz => ?_, fun x p h => .inl ?_⟩
  · rw [(hP h).2]; exact ⟨Int.le_refl _, Int.mul_nonneg hC (Int.natCast_nonneg _)⟩
  · obtain ⟨x, hx, rfl⟩ := (startA_mem S z).1 hz
    exact ⟨x, rfl, by unfold startP; rw [if_pos hx]⟩
  · rw [(hP h).2]; exact (startA_mem S _).2 ⟨x, (hP h).1, rfl⟩
end Go.Proofs.YtjcgkmodmjckjaaGreat

namespace Go.Proofs.YtjcgkmodmjckjaaGreat

theorem run_cut {ops : List Wop} {p : List Nat} {x y : Nat} (h : runOps ops x p = some y) (i : Nat) : ∃ z, runOps ops x (p.take i) = some z ∧ runOps ops z (p.drop i) = some y := by
  rw [← List.take_append_drop i p, runOps_append] at h
  cases hz : runOps ops x (p.take i) with
  | none => rw [hz] at h; cases h
  | some z => rw [hz] at h; exact ⟨z, rfl, h⟩
/-- Every run has one of no greater cost that is no longer than there are states. -/
theorem short_run {ops : List Wop} {L : List Nat} (h0 : ∀ o ∈ ops, 0 ≤ o.cost ∧ o.cost ≤ 100) {x : Nat} (hL : ∀ p y, runOps ops x p = some y → y ∈ L) : ∀ (n : Nat) {p : List Nat} {y : Nat}, p.length ≤ n → runOps ops x p = some y → ∃ q, runOps ops x q = some y ∧ costN ops q ≤ costN ops p ∧ q.length ≤ L.length
  | n, p, y, hn, hr => by
    by_cases hle : p.length ≤ L.length
    · exact ⟨p, hr, Int.le_refl _, hle⟩
    · have hrep : ∃ i j, i < j ∧ j ≤ p.length ∧ runOps ops x (p.take i) = runOps ops x (p.take j) := by
        refine Classical.byContradiction fun hno => hle ?_
        have hnd : ((List.range (p.length + 1)).map fun i => (runOps ops x (p.take i)).getD 0).Nodup := by
          unfold List.Nodup
          rw [List.pairwise_iff_getElem]
          intro i j hi hj hij e
          simp only [List.getElem_map, List.getElem_range] at e
          simp only [List.length_map, List.length_range] at hi hj
          obtain ⟨zi, hzi, _⟩ := run_cut hr i
          obtain ⟨zj, hzj, _⟩ := run_cut hr j
          rw [hzi, hzj] at e
          simp only [Option.getD_some] at e
          exact hno ⟨i, j, hij, by omega, by rw [hzi, hzj, e]⟩
        have := nodup_sub_length hnd (b := L) (fun z hz => by
          obtain ⟨i, _, rfl⟩ := List.mem_map.1 hz
          obtain ⟨zi, hzi, _⟩ := run_cut hr i
          rw [hzi]; exact hL _ _ hzi)
        rw [List.length_map, List.length_range] at this; omega
      obtain ⟨i, j, hij, hj, he⟩ := hrep
      obtain ⟨z, hz1, hz2⟩ := run_cut hr j
      have hrq : runOps ops x (p.take i ++ p.drop j) = some y := by rw [runOps_append, he, hz1]; exact hz2
      have hlen : (p.take i ++ p.drop j).length < p.length := by simp only [List.length_append, List.length_take, List.length_drop]; omega
      have hcost : costN ops (p.take i ++ p.drop j) ≤ costN ops p := by
        have e1 : costN ops p = costN ops (p.take j) + costN ops (p.drop j) := by rw [← costN_append, List.take_append_drop]
        have e2 : p.take j = p.take i ++ (p.take j).drop i := by
          have := List.take_append_drop i (p.take j)
          rw [List.take_take, Nat.min_eq_left (by omega)] at this
          exact this.symm
        have e3 : costN ops (p.take j) = costN ops (p.take i) + costN ops ((p.take j).drop i) := by rw [← costN_append, ← e2]
        have := (costN_bound h0 ((p.take j).drop i)).1
        rw [costN_append]; omega
      cases n with
      | zero => omega
      | succ n =>
        obtain ⟨q, h1, h2, h3⟩ := short_run h0 hL n (by omega) hrq
        exact ⟨q, h1, by omega, h3⟩

theorem wayN_split (ops : List Wop) (p : List Nat) : wayN 4096 1 ops p = 4096 * costN ops p + (p.length : Int) := by unfold wayN; omega

end Go.Proofs.YtjcgkmodmjckjaaGreat

namespace Go.Proofs.YtjcgkmodmjckjaaGreat

/-- n is the least price of a run to m. -/
def Pd (ops : List Wop) (s m n : Nat) : Prop := (∃ q, runOps ops s q = some m ∧ wayN 4096 1 ops q = (n : Int)) ∧ ∀ q, runOps ops s q = some m → (n : Int) ≤ wayN 4096 1 ops q
def CostsOk (ops : List Wop) : Prop := ∀ o ∈ ops, 0 ≤ o.cost ∧ o.cost ≤ 100
/-- The price of an operator. -/
def prcN (o : Wop) : Nat := 4096 * o.cost.toNat + 1
theorem prcN_int {ops : List Wop} (h0 : CostsOk ops) {i : Nat} {o : Wop} (h : ops[i]? = some o) : ((prcN o : Nat) : Int) = 4096 * o.cost + 1 := by
  have := h0 o (List.mem_of_getElem? h)
  unfold prcN; omega
theorem prcN_le {ops : List Wop} (h0 : CostsOk ops) {i : Nat} {o : Wop} (h : ops[i]? = some o) : 1 ≤ prcN o ∧ prcN o ≤ 409601 := by
  have := h0 o (List.mem_of_getElem? h)
  unfold prcN; omega
section
variable {ops : List Wop} {s : Nat}
theorem way_low (h0 : CostsOk ops) (q : List Nat) : 0 ≤ wayN 4096 1 ops q := wayN_low (by decide) (by decide) h0 q
theorem way_snoc {h0 : CostsOk ops} {q : List Nat} {i : Nat} {o : Wop} (h : ops[i]? = some o) : wayN 4096 1 ops (q ++ [i]) = wayN 4096 1 ops q + (prcN o : Int) := by
  rw [wayN_append, wayN_one h, prcN_int h0 h]
theorem way_cons {h0 : CostsOk ops} {q : List Nat} {i : Nat} {o : Wop} (h : ops[i]? = some o) : wayN 4096 1 ops (i :: q) = (prcN o : Int) + wayN 4096 1 ops q := by
  rw [show i :: q = [i] ++ q from rfl, wayN_append, wayN_one h, prcN_int h0 h]
theorem Pd.zero (h0 : CostsOk ops) : Pd ops s s 0 := ⟨⟨[], rfl, wayN_nil _ _ _⟩, fun q _ => way_low h0 q⟩
theorem Pd.start (h0 : CostsOk ops) {m : Nat} (h : Pd ops s m 0) : m = s := by
  obtain ⟨⟨q, h1, h2⟩, _⟩ := h
  have h3 := wayN_split ops q
  have h4 := (costN_bound h0 q).1
  have : q = [] := List.length_eq_zero_iff.1 (by omega)
  subst this
  exact (Option.some.inj h1).symm
theorem Pd.unique {m a b : Nat} (h : Pd ops s m a) (g : Pd ops s m b) : a = b := by
  obtain ⟨⟨p, h1, h2⟩, h3⟩ := h
  obtain ⟨⟨q, g1, g2⟩, g3⟩ := g
  have := h3 q g1; have := g3 p h1; omega
theorem Pd.least (h0 : CostsOk ops) {m : Nat} : ∀ (n : Nat) (q : List Nat), wayN 4096 1 ops q ≤ (n : Int) → runOps ops s q = some m → ∃ k : Nat, (k : Int) ≤ wayN 4096 1 ops q ∧ Pd ops s m k := by
  intro n
  induction n with
  | zero =>
    intro q hq h
    have h1 := way_low h0 q
    exact ⟨0, by omega, ⟨q, h, by omega⟩, fun p _ => way_low h0 p⟩
  | succ n ih =>
    intro q hq h
    have h1 := way_low h0 q
    by_cases hm : ∃ p, runOps ops s p = Option.some m ∧ wayN 4096 1 ops p < wayN 4096 1 ops q
    · obtain ⟨p, h2, h3⟩ := hm
      obtain ⟨k, h4, h5⟩ := ih p (by omega) h2
      exact ⟨k, by omega, h5⟩
    · exact ⟨(wayN 4096 1 ops q).toNat, by omega, ⟨q, h, by omega⟩, fun p hp => by
        have := Int.not_lt.1 (fun hlt => hm ⟨p, hp, hlt⟩)
        omega⟩
theorem Pd.of_run (h0 : CostsOk ops) {m : Nat} {q : List Nat} (h : runOps ops s q = some m) : ∃ k : Nat, (k : Int) ≤ wayN 4096 1 ops q ∧ Pd ops s m k := by
  have h1 := way_low h0 q
  exact Pd.least h0 (wayN 4096 1 ops q).toNat q (by omega) h
theorem Pd.prev (h0 : CostsOk ops) {m n : Nat} (h : Pd ops s m n) (hn : n ≠ 0) : ∃ (x i p : Nat) (op : Wop), Pd ops s x p ∧ ops[i]? = some op ∧ op.can x = true ∧ op.next x = m ∧ n = p + prcN op := by
  obtain ⟨⟨q, h1, h2⟩, h3⟩ := h
  have hne : q ≠ [] := fun e => by rw [e, wayN_nil] at h2; omega
  obtain ⟨p, o, rfl⟩ : ∃ p o, q = p ++ [o] := ⟨q.dropLast, q.getLast hne, (List.dropLast_concat_getLast hne).symm⟩
  obtain ⟨y, op, g1, g2, g3, g4⟩ := runOps_snoc h1
  rw [way_snoc (h0 := h0) g2] at h2
  have h4 := way_low h0 p
  refine ⟨y, o, (wayN 4096 1 ops p).toNat, op, ⟨⟨p, g1, by omega⟩, fun r hr => ?_⟩, g2, g3, g4.symm, by omega⟩
  have h5 := h3 (r ++ [o]) (by rw [g4]; exact runOps_snoc' hr g2 g3)
  rw [way_snoc (h0 := h0) g2] at h5
  omega
/-- A cheapest run is short. -/
theorem Pd.short (h0 : CostsOk ops) {l : List Nat} (hl : ∀ q y, runOps ops s q = some y → y ∈ l) (hfew : l.length ≤ 2000) {m n : Nat} (h : Pd ops s m n) {q : List Nat} (hr : runOps ops s q = some m) (hq : wayN 4096 1 ops q = (n : Int)) : q.length ≤ 2000 := by
  obtain ⟨q', h1, h2, h3⟩ := short_run h0 hl q.length (Nat.le_refl _) hr
  have h4 := h.2 q' h1
  have h5 := wayN_split ops q
  have h6 := wayN_split ops q'
  omega
theorem Pd.bound (h0 : CostsOk ops) {l : List Nat} (hl : ∀ q y, runOps ops s q = some y → y ∈ l) (hfew : l.length ≤ 2000) {m n : Nat} (h : Pd ops s m n) : n ≤ 819202000 := by
  obtain ⟨q, h1, h2⟩ := id h.1
  have h3 := h.short h0 hl hfew h1 h2
  have h4 := wayN_split ops q
  have h5 := costN_bound h0 q
  omega
theorem Pd.list {l : List Nat} (hd : l.Nodup) (hl : ∀ q y, runOps ops s q = Option.some y → y ∈ l) (P : Nat → Prop) : ∃ S : List Nat, S.Nodup ∧ ∀ x, x ∈ S ↔ ∃ n, P n ∧ Pd ops s x n := by
  refine ⟨l.filter fun x => @decide (∃ n, P n ∧ Pd ops s x n) (Classical.propDecidable _), hd.filter _, fun x => ?_⟩
  rw [List.mem_filter]
  constructor
  · rintro ⟨_, h⟩; exact @of_decide_eq_true _ (Classical.propDecidable _) h
  · intro h
    obtain ⟨_, _, ⟨q, g1, _⟩, _⟩ := id h
    exact ⟨hl q x g1, @decide_eq_true _ (Classical.propDecidable _) h⟩
end

/-- What before says. -/
theorem before_iff {o : Opr} {L : Nat} (hL : L ≤ 24) (ho : o.Ok (L : Int)) {f : Nat → Bool} {x : Nat} (hx : x < 2 ^ L) : litS true o.pre (exsT (o.add ++ o.del) (litS false o.del (litS true o.add f))) x = true ↔ o.word.can x = true ∧ f (o.word.next x) = true := by
  have ha := (isSet_iff.1 ho.add).1
  have hd := (isSet_iff.1 ho.del).1
  have hdj := disj_iff.1 ho.disj
  have hpow : ∀ {y : Nat}, y < 2 ^ L → ∀ i, L ≤ i → y.testBit i = false := fun {y} hy i hi => Nat.testBit_lt_two_pow (Nat.lt_of_lt_of_le hy (Nat.pow_le_pow_right (by omega) hi))
  rw [litS_iff, exsT_iff, ← symCan ho x]
  constructor
  · rintro ⟨⟨y, hy, hag⟩, hc⟩
    rw [litS_iff, litS_iff] at hy
    obtain ⟨⟨h1, h2⟩, h3⟩ := hy
    refine ⟨hc, ?_⟩
    have e : y = o.word.next x := by
      apply Nat.eq_of_testBit_eq
      intro i
      by_cases hi : i < 32
      · rw [symNext ho x hi]
        by_cases q1 : (i : Int) ∈ o.add
        · have := h2 _ q1
          simp at this
          simp [q1, this]
        · by_cases q2 : (i : Int) ∈ o.del
          · have := h3 _ q2
            simp at this
            simp [q1, q2, this]
          · rw [hag i (fun p hp e => by
              rcases List.mem_append.1 hp with h | h
              · have := (ha p h).1; exact q1 (by rw [e, show ((p.toNat : Nat) : Int) = p from by omega]; exact h)
              · have := (hd p h).1; exact q2 (by rw [e, show ((p.toNat : Nat) : Int) = p from by omega]; exact h))]
            simp [q1, q2]
      · rw [hpow (symNextLt ho hx) i (by omega), hag i (fun p hp e => by
          rcases List.mem_append.1 hp with h | h
          · have := ha p h; omega
          · have := hd p h; omega), hpow hx i (by omega)]
    rw [← e]; exact h1
  · rintro ⟨hc, hf⟩
    refine ⟨⟨o.word.next x, ?_, fun i hi => ?_⟩, hc⟩
    · rw [litS_iff, litS_iff]
      refine ⟨⟨hf, fun p hp => ?_⟩, fun p hp => ?_⟩
      · have hb := ha p hp
        rw [symNext ho x (by omega), show ((p.toNat : Nat) : Int) = p from by omega]
        simp [hp]
      · have hb := hd p hp
        have hna : p ∉ o.add := fun h => hdj p h hp
        rw [symNext ho x (by omega), show ((p.toNat : Nat) : Int) = p from by omega]
        simp [hp, hna]
    · by_cases h32 : i < 32
      · rw [symNext ho x h32]
        have h1 : (i : Int) ∉ o.add := fun h => hi _ (List.mem_append.2 (.inl h)) (by omega)
        have h2 : (i : Int) ∉ o.del := fun h => hi _ (List.mem_append.2 (.inr h)) (by omega)
        simp [h1, h2]
      · rw [hpow (symNextLt ho hx) i (by omega), hpow hx i (by omega)]

/-- What the search knows between its steps: pr p, that the price p has been worked on; ds p its states; c those of all such prices; ws p what waits at p; A the queue. ob p i: the operator i has been applied to p's states. -/
structure PlI (L : Nat) (ops : List Wop) (s : Nat) (pr : Nat → Prop) (ob : Nat → Nat → Prop) (ds ws : Nat → Nat → Bool) (c : Nat → Bool) (A : List (Int × Int)) : Prop where
  it : ∀ a ∈ A, a.1 = a.2 ∧ 0 ≤ a.1
  lt : ∀ p, pr p → ∀ a ∈ A, (p : Int) < a.1
  dn : ∀ p m, pr p → m < 2 ^ L → (ds p m = true ↔ Pd ops s m p)
  cl : ∀ m, m < 2 ^ L → (c m = true ↔ ∃ p, pr p ∧ Pd ops s m p)
  re : ∀ p m, m < 2 ^ L → ws p m = true → ∃ q, runOps ops s q = some m ∧ wayN 4096 1 ops q = (p : Int)
  z : pr 0 ∨ ((0 : Int), (0 : Int)) ∈ A
  ws0 : ws 0 s = true
  ex : ∀ p x i op, pr p → Pd ops s x p → ops[i]? = some op → op.can x = true → ob p i → ws (p + prcN op) (op.next x) = true ∧ (pr (p + prcN op) ∨ (((p + prcN op : Nat) : Int), ((p + prcN op : Nat) : Int)) ∈ A)
section
variable {L : Nat} {ops : List Wop} {s : Nat} {pr : Nat → Prop} {ob : Nat → Nat → Prop} {ds ws : Nat → Nat → Bool} {c : Nat → Bool} {A : List (Int × Int)}
theorem PlI.below (h0 : CostsOk ops) (h : PlI L ops s pr (fun _ _ => True) ds ws c A) : ∀ (p : Nat) {x : Nat}, Pd ops s x p → ¬ pr p → ∃ a ∈ A, a.1 ≤ (p : Int) := by
  intro p
  induction p using Nat.strongRecOn with
  | _ p ih =>
    intro x hx hp
    by_cases hz : p = 0
    · subst hz
      rcases h.z with h1 | h1
      · exact absurd h1 hp
      · exact ⟨_, h1, by simp⟩
    · obtain ⟨y, i, k, op, hy, hi, hc, he, hpk⟩ := hx.prev h0 hz
      have hb := (prcN_le h0 hi).1
      by_cases hk : pr k
      · obtain ⟨_, h2⟩ := h.ex k y i op hk hy hi hc trivial
        rw [← hpk] at h2
        rcases h2 with h2 | h2
        · exact absurd h2 hp
        · exact ⟨_, h2, Int.le_refl _⟩
      · obtain ⟨a, h1, h2⟩ := ih k (by omega) hy hk
        exact ⟨a, h1, by omega⟩
/-- The states of the least price that waits. -/
theorem PlI.layer (h0 : CostsOk ops) (h : PlI L ops s pr (fun _ _ => True) ds ws c A) {p : Nat} (hm : ∀ a ∈ A, (p : Int) ≤ a.1) (hp : ∃ a ∈ A, a.1 = (p : Int)) :
    (∀ m, m < 2 ^ L → ((ws p m && !c m) = true ↔ Pd ops s m p)) ∧ (∀ k x, Pd ops s x k → k < p → pr k) ∧ ¬ pr p ∧ ∀ k, pr k → k < p := by
  have hlow : ∀ k x, Pd ops s x k → k < p → pr k := fun k x hx hk => Classical.byContradiction fun hn => by
    obtain ⟨a, h1, h2⟩ := h.below h0 k hx hn
    have := hm a h1; omega
  obtain ⟨a, ha, hap⟩ := hp
  have hnp : ¬ pr p := fun hpp => by have := h.lt p hpp a ha; omega
  refine ⟨fun m hm => ?_, hlow, hnp, fun k hk => by have := h.lt k hk a ha; omega⟩
  rw [Bool.and_eq_true]
  constructor
  · rintro ⟨h1, h2⟩
    obtain ⟨q, h3, h4⟩ := h.re p m hm h1
    obtain ⟨k, h5, h6⟩ := Pd.of_run h0 h3
    by_cases hk : k < p
    · have h7 := (h.cl m hm).2 ⟨k, hlow k m h6 hk, h6⟩
      rw [h7] at h2; cases h2
    · have : k = p := by omega
      rw [← this]; exact h6
  · intro hx
    refine ⟨?_, ?_⟩
    · by_cases hz : p = 0
      · subst hz
        rw [hx.start h0]; exact h.ws0
      · obtain ⟨y, i, k, op, hy, hi, hc, he, hpk⟩ := hx.prev h0 hz
        have hb := (prcN_le h0 hi).1
        have h1 := (h.ex k y i op (hlow k y hy (by omega)) hy hi hc trivial).1
        rw [← hpk, he] at h1; exact h1
    · cases hcm : c m with
      | false => rfl
      | true =>
        obtain ⟨k, h1, h2⟩ := (h.cl m hm).1 hcm
        have := h2.unique hx
        subst this
        exact absurd h1 hnp
/-- The price p has been taken out. -/
theorem PlI.take (h : PlI L ops s pr (fun _ _ => True) ds ws c A) {p : Nat} {ds' : Nat → Nat → Bool} {c' : Nat → Bool} {pr' : Nat → Prop} (hm : ∀ a ∈ A, (p : Int) ≤ a.1)
    (hpr : ∀ k, pr' k ↔ pr k ∨ k = p) (hd1 : ∀ k, k ≠ p → ds' k = ds k) (hd2 : ∀ m, m < 2 ^ L → (ds' p m = true ↔ Pd ops s m p)) (hc : ∀ m, m < 2 ^ L → (c' m = true ↔ c m = true ∨ ds' p m = true)) :
    PlI L ops s pr' (fun k i => k = p → i < 0) ds' ws c' (A.filter fun a => a.1 != (p : Int)) := by
  have hin : ∀ a, a ∈ A.filter (fun a => a.1 != (p : Int)) ↔ a ∈ A ∧ a.1 ≠ (p : Int) := fun a => by rw [List.mem_filter]; simp
  refine ⟨fun a ha => h.it a ((hin a).1 ha).1, fun k hk a ha => ?_, fun k m hk hml => ?_, fun m hml => ?_, h.re, ?_, h.ws0, fun k x i op hk hx hi hcn hob => ?_⟩
  · obtain ⟨h1, h2⟩ := (hin a).1 ha
    rcases (hpr k).1 hk with h3 | rfl
    · exact h.lt k h3 a h1
    · have := hm a h1; omega
  · by_cases hkp : k = p
    · subst hkp; exact hd2 m hml
    · rw [hd1 k hkp]
      exact h.dn k m (((hpr k).1 hk).resolve_right hkp) hml
  · rw [hc m hml, h.cl m hml, hd2 m hml]
    constructor
    · rintro (⟨k, h1, h2⟩ | h1)
      · exact ⟨k, (hpr k).2 (.inl h1), h2⟩
      · exact ⟨p, (hpr p).2 (.inr rfl), h1⟩
    · rintro ⟨k, h1, h2⟩
      rcases (hpr k).1 h1 with h3 | rfl
      · exact .inl ⟨k, h3, h2⟩
      · exact .inr h2
  · rcases h.z with h1 | h1
    · exact .inl ((hpr 0).2 (.inl h1))
    · by_cases hp0 : p = 0
      · exact .inl ((hpr 0).2 (.inr hp0.symm))
      · exact .inr ((hin _).2 ⟨h1, by simp; omega⟩)
  · have hkp : k ≠ p := fun e => by have := hob e; omega
    obtain ⟨h1, h2⟩ := h.ex k x i op (((hpr k).1 hk).resolve_right hkp) hx hi hcn trivial
    refine ⟨h1, ?_⟩
    rcases h2 with h2 | h2
    · exact .inl ((hpr _).2 (.inl h2))
    · by_cases he : k + prcN op = p
      · exact .inl ((hpr _).2 (.inr he))
      · exact .inr ((hin _).2 ⟨h2, by simp only; omega⟩)
/-- An operator that leads nowhere from the price p. -/
theorem PlI.dead {p j : Nat} {o : Wop} (h : PlI L ops s pr (fun k i => k = p → i < j) ds ws c A) (hj : ops[j]? = some o) (hd : ∀ x, Pd ops s x p → o.can x = true → False) : PlI L ops s pr (fun k i => k = p → i < j + 1) ds ws c A := by
  refine ⟨h.it, h.lt, h.dn, h.cl, h.re, h.z, h.ws0, fun k x i op hk hx hi hcn hob => ?_⟩
  by_cases hij : k = p ∧ i = j
  · obtain ⟨rfl, rfl⟩ := hij
    rw [hj] at hi; cases hi
    exact (hd x hx hcn).elim
  · exact h.ex k x i op hk hx hi hcn (fun e => by have := hob e; have : i ≠ j := fun e2 => hij ⟨e, e2⟩; omega)
/-- An operator that leads somewhere. -/
theorem PlI.grow (h0 : CostsOk ops) (hst : ∀ q y, runOps ops s q = some y → y < 2 ^ L) {p j : Nat} {o : Wop} (h : PlI L ops s pr (fun k i => k = p → i < j) ds ws c A) (hj : ops[j]? = some o) {ws' : Nat → Nat → Bool} {A' : List (Int × Int)} (hp : pr p) (hmx : ∀ k, pr k → k ≤ p)
    (hw1 : ∀ k, k ≠ p + prcN o → ws' k = ws k) (hw2 : ∀ m, m < 2 ^ L → (ws' (p + prcN o) m = true ↔ ws (p + prcN o) m = true ∨ ∃ x, x < 2 ^ L ∧ ds p x = true ∧ o.can x = true ∧ o.next x = m))
    (hA1 : (((p + prcN o : Nat) : Int), ((p + prcN o : Nat) : Int)) ∈ A') (hA2 : ∀ a ∈ A, a ∈ A') (hA3 : ∀ a ∈ A', a ∈ A ∨ a = (((p + prcN o : Nat) : Int), ((p + prcN o : Nat) : Int))) : PlI L ops s pr (fun k i => k = p → i < j + 1) ds ws' c A' := by
  have hb := (prcN_le h0 hj).1
  have hup : ∀ k m, m < 2 ^ L → ws k m = true → ws' k m = true := fun k m hm hk => by
    by_cases e : k = p + prcN o
    · subst e; exact (hw2 m hm).2 (.inl hk)
    · rw [hw1 k e]; exact hk
  refine ⟨fun a ha => ?_, fun k hk a ha => ?_, h.dn, h.cl, fun k m hm hw => ?_, h.z.imp (fun h => h) (hA2 _), ?_, fun k x i op hk hx hi hcn hob => ?_⟩
  · rcases hA3 a ha with h1 | rfl
    · exact h.it a h1
    · exact ⟨rfl, by simp only; omega⟩
  · rcases hA3 a ha with h1 | rfl
    · exact h.lt k hk a h1
    · have := hmx k hk; simp only; omega
  · by_cases e : k = p + prcN o
    · subst e
      rcases (hw2 m hm).1 hw with h1 | ⟨x, hx, h1, h2, h3⟩
      · exact h.re _ m hm h1
      · obtain ⟨⟨q, g1, g2⟩, _⟩ := (h.dn p x hp hx).1 h1
        refine ⟨q ++ [j], by rw [← h3]; exact runOps_snoc' g1 hj h2, ?_⟩
        rw [way_snoc (h0 := h0) hj, g2]; omega
    · rw [hw1 k e] at hw; exact h.re k m hm hw
  · exact hup 0 s (hst [] s rfl) h.ws0
  · obtain ⟨⟨q, g1, g2⟩, _⟩ := id hx
    have hxl := hst q x g1
    have hnl := hst (q ++ [i]) _ (runOps_snoc' g1 hi hcn)
    by_cases hij : k = p ∧ i = j
    · obtain ⟨rfl, rfl⟩ := hij
      rw [hj] at hi; cases hi
      exact ⟨(hw2 _ hnl).2 (.inr ⟨x, hxl, (h.dn k x hk hxl).2 hx, hcn, rfl⟩), .inr hA1⟩
    · obtain ⟨h1, h2⟩ := h.ex k x i op hk hx hi hcn (fun e => by have := hob e; have : i ≠ j := fun e2 => hij ⟨e, e2⟩; omega)
      exact ⟨hup _ _ hnl h1, h2.imp (fun h => h) (hA2 _)⟩
/-- All operators have been applied. -/
theorem PlI.done {p : Nat} (h : PlI L ops s pr (fun k i => k = p → i < ops.length) ds ws c A) : PlI L ops s pr (fun _ _ => True) ds ws c A :=
  { h with ex := fun k x i op hk hx hi hcn _ => h.ex k x i op hk hx hi hcn (fun _ => (List.getElem?_eq_some_iff.1 hi).1) }
theorem PlI.empty (h0 : CostsOk ops) (h : PlI L ops s pr (fun _ _ => True) ds ws c []) {x p : Nat} (hx : Pd ops s x p) : pr p := Classical.byContradiction fun hn => by
  obtain ⟨a, h1, _⟩ := h.below h0 p hx hn
  cases h1
theorem PlI.start (hs : ∀ m, m < 2 ^ L → (ws 0 m = true ↔ m = s)) (hsl : s < 2 ^ L) (hw : ∀ p, p ≠ 0 → ∀ m, ws p m = false) (hc : ∀ m, c m = false) (hpr : ∀ p, ¬ pr p) : PlI L ops s pr (fun _ _ => True) ds ws c [(0, 0)] := by
  refine ⟨fun a ha => ?_, fun p hp => absurd hp (hpr p), fun p m hp => absurd hp (hpr p), fun m hm => ?_, fun p m hm hp => ?_, .inr (by simp), (hs s hsl).2 rfl, fun p _ _ _ hp => absurd hp (hpr p)⟩
  · rcases List.mem_singleton.1 ha with rfl; exact ⟨rfl, Int.le_refl _⟩
  · rw [hc m]
    exact ⟨fun h => Bool.noConfusion h, fun ⟨p, hp, _⟩ => absurd hp (hpr p)⟩
  · by_cases h : p = 0
    · subst h
      rw [(hs m hm).1 hp]
      exact ⟨[], rfl, wayN_nil _ _ _⟩
    · rw [hw p h m] at hp; cases hp
end

/-- trace, between its steps: from all states of f, of the price p, the steps of out lead back to T. -/
structure TrI (L : Nat) (ops : List Wop) (s : Nat) (T : Nat → Bool) (p0 : Nat) (f : Nat → Bool) (p : Nat) (out : List Nat) : Prop where
  some_ : ∃ m, m < 2 ^ L ∧ f m = true
  pd : ∀ m, m < 2 ^ L → f m = true → Pd ops s m p
  run : ∀ m, m < 2 ^ L → f m = true → ∃ y, y < 2 ^ L ∧ T y = true ∧ runOps ops m out.reverse = some y
  sum : wayN 4096 1 ops out.reverse + (p : Int) = (p0 : Int)
section
variable {L : Nat} {ops : List Wop} {s : Nat} {T f : Nat → Bool} {p0 p : Nat} {out : List Nat}
theorem TrI.start (h : ∃ m, m < 2 ^ L ∧ T m = true) (hT : ∀ m, m < 2 ^ L → T m = true → Pd ops s m p0) : TrI L ops s T p0 T p0 [] :=
  ⟨h, hT, fun m hm hf => ⟨m, hm, hf, rfl⟩, by rw [List.reverse_nil, wayN_nil]; omega⟩
theorem TrI.few (h0 : CostsOk ops) {l : List Nat} (hl : ∀ q y, runOps ops s q = some y → y ∈ l) (hfew : l.length ≤ 2000) (hT : ∀ m, m < 2 ^ L → T m = true → Pd ops s m p0) (h : TrI L ops s T p0 f p out) : out.length ≤ 2000 ∧ (p ≠ 0 → out.length < 2000) := by
  obtain ⟨m, hm, hf⟩ := h.some_
  obtain ⟨⟨q, h1, h2⟩, _⟩ := h.pd m hm hf
  obtain ⟨y, hy, hTy, hr⟩ := h.run m hm hf
  have h3 : runOps ops s (q ++ out.reverse) = some y := by rw [runOps_append, h1]; exact hr
  have h4 := (hT y hy hTy).short h0 hl hfew h3 (by rw [wayN_append, h2]; have := h.sum; omega)
  rw [List.length_append, List.length_reverse] at h4
  refine ⟨by omega, fun hp => ?_⟩
  have : q ≠ [] := fun e => by rw [e, wayN_nil] at h2; omega
  have := List.length_pos_iff.2 this
  omega
theorem TrI.next (h0 : CostsOk ops) {m i p' : Nat} {o : Wop} {f' : Nat → Bool} (h : TrI L ops s T p0 f p out) (hm : m < 2 ^ L) (hf : f m = true) (hi : ops[i]? = some o) (hp : p = p' + prcN o) (hs : ∃ z, z < 2 ^ L ∧ f' z = true) (hf' : ∀ z, z < 2 ^ L → f' z = true → o.can z = true ∧ o.next z = m ∧ Pd ops s z p') : TrI L ops s T p0 f' p' (out ++ [i]) := by
  refine ⟨hs, fun z hz h1 => (hf' z hz h1).2.2, fun z hz h1 => ?_, ?_⟩
  · obtain ⟨h2, h3, _⟩ := hf' z hz h1
    obtain ⟨y, hy, hTy, hr⟩ := h.run m hm hf
    refine ⟨y, hy, hTy, ?_⟩
    rw [List.reverse_append, List.reverse_singleton, List.singleton_append, runOps, hi]
    simp only [h2, if_true]
    rw [h3]; exact hr
  · rw [List.reverse_append, List.reverse_singleton, List.singleton_append, way_cons (h0 := h0) hi]
    have := h.sum; omega
theorem TrI.last (h0 : CostsOk ops) (h : TrI L ops s T p0 f 0 out) : ∃ y, y < 2 ^ L ∧ T y = true ∧ runOps ops s out.reverse = some y ∧ wayN 4096 1 ops out.reverse = (p0 : Int) := by
  obtain ⟨m, hm, hf⟩ := h.some_
  obtain ⟨y, hy, hTy, hr⟩ := h.run m hm hf
  rw [(h.pd m hm hf).start h0] at hr
  exact ⟨y, hy, hTy, hr, by have := h.sum; omega⟩
end

end Go.Proofs.YtjcgkmodmjckjaaGreat

namespace Go.Proofs.YtjcgkmodmjckjaaGreat

theorem dv_none {L : Nat} {N : List Dn} (ok : DgOk L N) : ∀ (k : Nat), k < N.length + 2 → k ≠ 1 → ∃ m, (∀ j, j < lev L N k → m.testBit j = false) ∧ dv N k m = false := by
  intro k
  induction k using Nat.strongRecOn with
  | _ k ih =>
    intro hk h0
    by_cases h2 : k < 2
    · have : k = 0 := by omega
      subst this
      exact ⟨0, fun j _ => Nat.zero_testBit j, dv_zero 0⟩
    · obtain ⟨i, rfl⟩ : ∃ i, k = i + 2 := ⟨k - 2, by omega⟩
      obtain ⟨n, hn⟩ : ∃ n, N[i]? = some n := ⟨N[i]'(by omega), List.getElem?_eq_getElem (by omega)⟩
      have a1 := ok.lo _ _ hn; have a2 := ok.hi _ _ hn; have a3 := ok.llo _ _ hn; have a4 := ok.lhi _ _ hn; have a5 := ok.ne _ _ hn
      rw [lev_node hn]
      by_cases hl : n.lo = 1
      · obtain ⟨m, g2, g3⟩ := ih n.hi (by omega) (by omega) (by omega)
        have e : (m ||| 2 ^ n.lv).testBit n.lv = true := by simp
        refine ⟨m ||| 2 ^ n.lv, fun j hj => ?_, ?_⟩
        · rw [Nat.testBit_or, g2 j (by omega), Nat.testBit_two_pow_of_ne (by omega)]; rfl
        · rw [dv_node ok hn, e]
          simp only [if_true]
          rw [← g3]
          refine dv_indep ok n.hi (by omega) (fun j h1 _ => ?_)
          rw [Nat.testBit_or, Nat.testBit_two_pow_of_ne (by omega), Bool.or_false]
      · obtain ⟨m, g2, g3⟩ := ih n.lo (by omega) (by omega) hl
        refine ⟨m, fun j hj => g2 j (by omega), ?_⟩
        rw [dv_node ok hn, g2 n.lv a3]
        exact g3

/-- A node that says the same of all sets is one of the first two. -/
theorem dv_const {L : Nat} {N : List Dn} (ok : DgOk L N) {k : Nat} (hk : k < N.length + 2) {v : Bool} (h : ∀ m, dv N k m = v) : k < 2 := by
  by_cases h0 : k = 0
  · omega
  · by_cases h1 : k = 1
    · omega
    · obtain ⟨m, _, _, g⟩ := dv_some ok k hk h0
      obtain ⟨m', _, g'⟩ := dv_none ok k hk h1
      rw [h] at g g'
      rw [g] at g'; cases g'

theorem lit_node {L : Nat} {N : List Dn} (ok : DgOk L N) {k p : Nat} {pos : Bool} (hk : k < N.length + 2) (hl : p ≤ lev L N k) (h : ∀ m, dv N k m = (m.testBit p == pos)) : LitN N p k := by
  by_cases h2 : k < 2
  · exact .inl h2
  · obtain ⟨i, rfl⟩ : ∃ i, k = i + 2 := ⟨k - 2, by omega⟩
    obtain ⟨n, hn⟩ : ∃ n, N[i]? = some n := ⟨N[i]'(by omega), List.getElem?_eq_getElem (by omega)⟩
    have a1 := ok.lo _ _ hn; have a2 := ok.hi _ _ hn; have a3 := ok.llo _ _ hn; have a4 := ok.lhi _ _ hn
    rw [lev_node hn] at hl
    have e1 : n.lv = p := by
      refine Nat.le_antisymm (Nat.le_of_not_lt fun hlt => ?_) hl
      have h3 := dv_indep ok (i + 2) hk (m := 2 ^ p) (m' := 0) (fun j h4 _ => by
        rw [lev_node hn] at h4
        rw [Nat.testBit_two_pow_of_ne (by omega), Nat.zero_testBit])
      rw [h, h, Nat.zero_testBit, Nat.testBit_two_pow_self] at h3
      cases pos <;> simp at h3
    refine .inr ⟨n, by rw [Nat.add_sub_cancel]; exact hn, e1, ?_, ?_⟩
    · refine dv_const ok (k := n.lo) (v := (false == pos)) (by omega) fun m => ?_
      have h4 : ∀ j, (m >>> (p + 1) <<< (p + 1)).testBit j = (decide (p + 1 ≤ j) && m.testBit j) := fun j => by
        rw [Nat.testBit_shiftLeft, Nat.testBit_shiftRight]
        by_cases hj : p + 1 ≤ j
        · rw [show p + 1 + (j - (p + 1)) = j from by omega]
        · simp [hj]
      have h5 := h (m >>> (p + 1) <<< (p + 1))
      rw [dv_node ok hn, e1, h4 p] at h5
      simp only [show ¬ (p + 1 ≤ p) from by omega, decide_false, Bool.false_and, Bool.false_eq_true, if_false] at h5
      rw [← h5]
      exact dv_indep ok n.lo (by omega) fun j hj _ => by rw [h4]; simp [show p + 1 ≤ j from by omega]
    · refine dv_const ok (k := n.hi) (v := (true == pos)) (by omega) fun m => ?_
      have h5 := h (m ||| 2 ^ p)
      rw [dv_node ok hn, e1, show (m ||| 2 ^ p).testBit p = true from by simp] at h5
      simp only [if_true] at h5
      rw [← h5]
      exact dv_indep ok n.hi (by omega) fun j hj _ => by rw [Nat.testBit_or, Nat.testBit_two_pow_of_ne (by omega), Bool.or_false]

/-- What And with the literal of p costs, the literal's node with it. -/
def litK (p : Int) : Nat := if p < 16 then 65536 else 524288
theorem litB_litK {L x : Nat} : litB L x 0 + 1 ≤ litK (x : Int) := by
  unfold litB litK
  split
  · have := Nat.pow_le_pow_right (show 0 < 2 from by omega) (show min (min L 19) (x + 1) - 0 ≤ 16 from by omega)
    have := Nat.pow_pos (n := min (min L 19) (x + 1) - 0) (show 0 < 2 from by omega)
    omega
  · have := Nat.pow_le_pow_right (show 0 < 2 from by omega) (show min (min L 19) (x + 1) - 0 ≤ 19 from by omega)
    have := Nat.pow_pos (n := min (min L 19) (x + 1) - 0) (show 0 < 2 from by omega)
    omega
def litC (ps : List Int) : Nat := (ps.map litK).sum
theorem litC_snoc (ps : List Int) (p : Int) : litC (ps ++ [p]) = litC ps + litK p := by unfold litC; simp
theorem litC_take {ps : List Int} {j : Nat} {p : Int} (h : ps[j]? = some p) : litC (ps.take (j + 1)) = litC (ps.take j) + litK p := by rw [take_getS h, litC_snoc]
theorem litC_mono (ps : List Int) (j : Nat) : litC (ps.take j) ≤ litC ps := by
  have : litC ps = litC (ps.take j) + litC (ps.drop j) := by
    unfold litC; rw [← List.sum_append, ← List.map_append, List.take_append_drop]
  omega
theorem litC_split (ps : List Int) : litC ps = ps.length * 65536 + (ps.filter fun p => decide (16 ≤ p)).length * 458752 := by
  induction ps with
  | nil => rfl
  | cons p ps ih =>
    have e : litC (p :: ps) = litK p + litC ps := by unfold litC; simp
    rw [e, ih, List.filter_cons]
    unfold litK
    by_cases h : p < 16
    · rw [if_pos h, if_neg (by simp; omega)]; simp only [List.length_cons]; omega
    · rw [if_neg h, if_pos (by simp; omega)]; simp only [List.length_cons]; omega
theorem litC_le {ps : List Int} {L : Nat} (hd : ps.Nodup) (hr : ∀ p ∈ ps, 0 ≤ p ∧ p < (L : Int)) (hL : L ≤ 24) : litC ps ≤ 5242880 := by
  rw [litC_split]
  have h1 : ps.length ≤ 24 := by
    have := nodup_sub (r := (List.range 24).map fun i : Nat => (i : Int)) hd (fun p hp => by
      obtain ⟨h1, h2⟩ := hr p hp
      exact List.mem_map.2 ⟨p.toNat, List.mem_range.2 (by omega), by omega⟩)
    simpa using this
  have h2 : (ps.filter fun p => decide (16 ≤ p)).length ≤ 8 := by
    have := nodup_sub (r := (List.range 8).map fun i : Nat => ((i : Int) + 16)) (hd.filter (fun p => decide (16 ≤ p))) (fun p hp => by
      rw [List.mem_filter] at hp
      obtain ⟨h1, h2⟩ := hr p hp.1
      have h3 : 16 ≤ p := by simpa using hp.2
      exact List.mem_map.2 ⟨(p - 16).toNat, List.mem_range.2 (by omega), by omega⟩)
    simpa using this
  omega

end Go.Proofs.YtjcgkmodmjckjaaGreat

namespace Go.Proofs.YtjcgkmodmjckjaaGreat
open Go.RowKit


set_option maxRecDepth 100000 in
set_option maxHeartbeats 4000000 in
theorem before_any (w0 w : World) (ss sb L : Nat) (N : List Dn) (G : Nat → Prop) (n : Int) (vi vg vo : Value) (gk : Nat) (a i : Nat) (ops : List Opr) (o : Opr) (h : StS w0 w ss sb L N G n vi vg vo gk) (hL : L ≤ 24) (hop : OpsAt w0 vo ops) (ho : ops[i]? = some o) (hfew : ops.length ≤ 40) (ha : a < N.length + 2) (hrp : ∀ p ∈ o.pre, 0 ≤ p ∧ p < (L : Int)) (hra : ∀ p ∈ o.add, 0 ≤ p ∧ p < (L : Int)) (hrd : ∀ p ∈ o.del, 0 ≤ p ∧ p < (L : Int)) (hlp : o.pre.length ≤ 24) (hla : o.add.length ≤ 24) (hld : o.del.length ≤ 24) (hbig : low N + ((o.add.length + o.del.length) * (1 + opC a) + (o.add.length + o.del.length) * opC a + litC o.pre) + 2 ≤ 5800000000000) :
    Calls Tryz.prog 77 #[.pointer (some ⟨ss, 0, none⟩), .int .i64 (a : Int), .int .i64 (i : Int)] w (StR w0 w ss sb L N G n vi vg vo gk ((o.add.length + o.del.length) * (1 + opC a) + (o.add.length + o.del.length) * opC a + litC o.pre) False (litS true o.pre (exsT (o.add ++ o.del) (litS false o.del (litS true o.add (dv N a)))))) := by
  have hil : i < ops.length := (List.getElem?_eq_some_iff.1 ho).1
  obtain ⟨aw, cw, hvo, hmo⟩ := hop.form
  subst hvo
  obtain ⟨bo, oo, hao, hcell⟩ := hop.cell rfl (by omega)
  cases hao
  obtain ⟨vp, va, vd, p0, p1, p2, p3, i1, i2, i3⟩ := hcell i o ho
  obtain ⟨ap, cp, hvp, mp⟩ := i1.form
  obtain ⟨aa, ca, hva, ma⟩ := i2.form
  obtain ⟨ad, cd, hvd, md⟩ := i3.form
  subst hvp hva hvd
  have HIP := Lib.hid i1; have HIA := Lib.hid i2; have HID := Lib.hid i3
  have HRP := Lib.hid hrp; have HRA := Lib.hid hra; have HRD := Lib.hid hrd; have HLN := Lib.hid (And.intro hlp (And.intro hla hld))
  have hk0 := h.k0
  have r0 := hk0.cell p0 (fun h => h); have r1 := hk0.cell p1 (fun h => h); have r2 := hk0.cell p2 (fun h => h); have r3 := hk0.cell p3 (fun h => h)
  have c4 : w.cell? ⟨ss, 4, none⟩ = some (.slice (some ⟨bo, oo, none⟩) ops.length cw) := (cell_of_blk h.blk).trans rfl
  have l0 := lt_of_heap h.blk
  have KB := (Keeps.refl (fun _ => False) w).alloc (.cells #[.slice ap o.pre.length cp, .slice aa o.add.length ca, .slice ad o.del.length cd, .int .i64 o.cost] 72)
  have HXB := Lib.hid (heap_alloc_new w (.cells #[.slice ap o.pre.length cp, .slice aa o.add.length ca, .slice ad o.del.length cd, .int .i64 o.cost] 72))
  have HBN := Lib.hid (show ¬ G w.heap.size from fun h' => by have := h.dg.bnd _ h'; omega)
  have HPA := Lib.hid (show DgPost L N N a 0 0 (dv N a) from .same h.dg.ok ha (fun _ => rfl) (Nat.zero_le _))
  have HS0 := Lib.hid (h.keeps0 KB); have HKB := Lib.hid (KB.mono (S' := G) (fun _ _ h => h.elim))
  have HBIG := Lib.hid hbig; have HAL := Lib.hid ha
  have j0 : (0 : Int) ≤ (i : Int) := by omega
  have j1 : (i : Int) < (ops.length : Int) := by omega
  clear h hop ho hfew hrp hra hrd hlp hla hld hbig ha KB hcell i1 i2 i3 p0 p1 p2 p3 hk0 hil
  go_enter Tryz.func77, Tryz.ntmps77
  go_upto_region 2 with fail
  generalize (w.alloc (.cells #[.slice ap o.pre.length cp, .slice aa o.add.length ca, .slice ad o.del.length cd, .int .i64 o.cost] 72)) = w1 at HXB HS0 HKB ⊢
  generalize w.heap.size = bx at HBN HXB ⊢
  clear r0 r1 r2 r3 c4 l0
  have KD := (Keeps.refl (fun _ => False) w1).drew
  have HSD := Lib.hid (HS0.out.keeps0 KD); have HXD := Lib.hid (KD.heap HXB.out (fun h => h)); have HKD := Lib.hid (HKB.out.trans (KD.mono (S' := G) (fun _ _ h => h.elim)))
  have HC1 := Lib.hid (set_any w0 w1.drew ss sb L N G n vi vg _ gk a (.slice ap o.pre.length cp) _ _ o.cost o.add o.del HSD.out hL HAL.out HIA.out HID.out HRA.out HRD.out (by have h3 := HBIG.out; omega))
  have dp0 : w1.drew.cell? ⟨bx, 0, none⟩ = some (.slice ap o.pre.length cp) := (cell_of_blk HXD.out).trans rfl; have dp1 : w1.drew.cell? ⟨bx, 1, none⟩ = some (.slice aa o.add.length ca) := (cell_of_blk HXD.out).trans rfl; have dp2 : w1.drew.cell? ⟨bx, 2, none⟩ = some (.slice ad o.del.length cd) := (cell_of_blk HXD.out).trans rfl; have dp3 : w1.drew.cell? ⟨bx, 3, none⟩ = some (.int .i64 o.cost) := (cell_of_blk HXD.out).trans rfl
  clear KD
  go_upto_region 2 with fail
  go_region_held3 (fun w' => w'.cell? ⟨bx, 0, none⟩ = some (.slice ap o.pre.length cp) ∧ w'.cell? ⟨bx, 1, none⟩ = some (.slice aa o.add.length ca) ∧ w'.cell? ⟨bx, 2, none⟩ = some (.slice ad o.del.length cd) ∧ w'.cell? ⟨bx, 3, none⟩ = some (.int .i64 o.cost))
    (go_keep)
    (first
      | (go_at_call 69; refine HC2.out.mono ?_; rintro en w6 ⟨k2, N2, G2, rfl, hp2, hz2, hs2, hk2, hn2⟩; have HP2 := Lib.hid hp2; have HS2 := Lib.hid hs2; have HK2 := Lib.hid hk2; have HN2 := Lib.hid hn2; have HX6 := Lib.hid (hk2.heap HX5.out HBN2.out); have sp0 : w6.cell? ⟨bx, 0, none⟩ = some (.slice ap o.pre.length cp) := (cell_of_blk HX6.out).trans rfl; have sp1 : w6.cell? ⟨bx, 1, none⟩ = some (.slice aa o.add.length ca) := (cell_of_blk HX6.out).trans rfl; have sp2 : w6.cell? ⟨bx, 2, none⟩ = some (.slice ad o.del.length cd) := (cell_of_blk HX6.out).trans rfl; have sp3 : w6.cell? ⟨bx, 3, none⟩ = some (.int .i64 o.cost) := (cell_of_blk HX6.out).trans rfl; clear hp2 hz2 hs2 hk2 hn2)
      | (go_at_call 68; refine HC1.out.mono ?_; rintro en w5 ⟨k1, N1, G1, rfl, hp1, hz1, hs1, hk1, hn1⟩; have HP1 := Lib.hid hp1; have HZ1 := Lib.hid hz1; have HS1 := Lib.hid hs1; have HK1 := Lib.hid hk1; have HN1 := Lib.hid hn1; have HX5 := Lib.hid (hk1.heap HXD.out HBN.out); have HBN2 := Lib.hid (show ¬ G1 bx from fun h => (HN1.out _ h).elim HBN.out (fun h => by have := lt_of_heap HXD.out; omega)); have HM2 := Lib.hid (show (o.add.length + o.del.length) * opC k1 ≤ (o.add.length + o.del.length) * opC a from Nat.mul_le_mul_left _ (opC_mono hz1)); have HC2 := Lib.hid (free_any w0 w5 ss sb L N1 G1 n vi vg _ gk k1 (.slice ap o.pre.length cp) _ _ o.cost o.add o.del hs1 hL hp1.lt HIA.out HID.out HRA.out HRD.out (by have := HLN.out; omega) (by have h3 := HBIG.out; have h4 := hp1.cnt; have h5 := HM2.out; omega)); have tp0 : w5.cell? ⟨bx, 0, none⟩ = some (.slice ap o.pre.length cp) := (cell_of_blk HX5.out).trans rfl; have tp1 : w5.cell? ⟨bx, 1, none⟩ = some (.slice aa o.add.length ca) := (cell_of_blk HX5.out).trans rfl; have tp2 : w5.cell? ⟨bx, 2, none⟩ = some (.slice ad o.del.length cd) := (cell_of_blk HX5.out).trans rfl; have tp3 : w5.cell? ⟨bx, 3, none⟩ = some (.int .i64 o.cost) := (cell_of_blk HX5.out).trans rfl; clear hp1 hz1 hs1 hk1 hn1))
  all_goals
    have HK12 := Lib.hid (HK1.out.trans' HK2.out HN1.out)
    have HN12 := Lib.hid (news HN1.out HN2.out HK1.out.size)
    have e1 : dv N1 k1 = litS false o.del (litS true o.add (dv N a)) := funext fun m => HP1.out.val m
    have HP0 := Lib.hid (show DgPost L N N2 k2 ((o.add.length + o.del.length) * (1 + opC a) + (o.add.length + o.del.length) * opC a) 0 (exsT (o.add ++ o.del) (litS false o.del (litS true o.add (dv N a)))) from (HP1.out.trans HP2.out).weak (by have h2 := HM2.out; omega) (Nat.zero_le _) (fun m => by rw [e1]))
    clear e1 HP1 HP2 HZ1 HS1 HSD HXD HX5 HBN2 HM2 HC1 HC2 HBN dp0 dp1 dp2 dp3 tp0 tp1 tp2 tp3 sp1 sp2 sp3
    have xl := lt_of_heap HX6.out
    go_wp2_with fail
    go_loopw [1, 28] (fun av iv wr => ∃ (j k : Nat) (N' : List Dn) (G' : Nat → Prop), iv = .int .i64 (j : Int) ∧ j ≤ o.pre.length ∧ av = .int .i64 (k : Int) ∧ DgPost L N N' k (((o.add.length + o.del.length) * (1 + opC a) + (o.add.length + o.del.length) * opC a) + litC (o.pre.take j)) 0 (litS true (o.pre.take j) (exsT (o.add ++ o.del) (litS false o.del (litS true o.add (dv N a))))) ∧ StS w0 wr ss sb L N' G' n vi vg (.slice (some ⟨bo, oo, none⟩) ops.length cw) gk ∧ Keeps G w1.drew wr ∧ ∀ q, G' q → G q ∨ w1.drew.heap.size ≤ q) (fun _ iv _ => o.pre.length - (intOf iv).toNat)
    case atStart => exact ⟨0, _, _, _, rfl, Nat.zero_le _, rfl, HP0.out.weak (by omega) (Nat.zero_le _) (fun m => by rw [List.take_zero, litS_nil]), HS2.out, HK12.out, HN12.out⟩
    case round =>
      obtain ⟨j, k, N', G', rfl, hj, rfl, hp, hs, hk, hn⟩ := hrel
      have HP := Lib.hid hp; have HS := Lib.hid hs; have HK := Lib.hid hk; have HN := Lib.hid hn
      clear hp hs hk hn
      by_cases hlt : j < o.pre.length
      · obtain ⟨bb, bo, hao, hcell⟩ := HIP.out.cell rfl (by omega)
        cases hao
        obtain ⟨p, hp⟩ : ∃ p, o.pre[j]? = some p := ⟨_, List.getElem?_eq_getElem hlt⟩
        have hpr := HRP.out p (List.mem_of_getElem? hp)
        obtain ⟨x, rfl⟩ := Int.eq_ofNat_of_zero_le hpr.1
        have hxL : x < L := by have := hpr.2; omega
        have HX := Lib.hid hp
        have hc := HS.out.k0.cell (hcell j _ hp) (fun h => h)
        have i0' : (0 : Int) ≤ (j : Int) := by omega
        have i1' : (j : Int) < (o.pre.length : Int) := by omega
        have HLT := Lib.hid hlt
        have HCST := Lib.hid (show low N' ≤ low N + (((o.add.length + o.del.length) * (1 + opC a) + (o.add.length + o.del.length) * opC a) + litC (o.pre.take j)) from HP.out.cnt)
        have HMUL := Lib.hid (show litC (o.pre.take j) + litK (x : Int) ≤ litC o.pre from by rw [← litC_take hp]; exact litC_mono _ _)
        have HS1 := Lib.hid HS.out.drew
        have HC1 := Lib.hid (literal_any wr.drew sb L N' G' x true HS1.out.dg hL hxL (by have h1 := HCST.out; have h2 := HMUL.out; have h3 := HBIG.out; omega))
        have c1 := HS1.out.c0.1
        obtain ⟨c0, l0⟩ := HS.out.c0
        clear hcell hp hpr hlt
        go_upto_region 6 with fail
        go_region_held3 (fun w' => w'.cell? ⟨ss, 0, none⟩ = some (.pointer (some ⟨sb, 0, none⟩)))
          (go_keep)
          (first
            | (go_at_call 40; refine HC2.out.mono ?_; rintro en w8 ⟨k4, N4, G4, rfl, hp4, hd4, hk4, hn4⟩; have HP4 := Lib.hid hp4; have HS4 := Lib.hid (HS3.out.op hd4 hk4 hn4); have HK4 := Lib.hid hk4; have HN4 := Lib.hid hn4; have u1 := HS4.out.c0.1; clear hp4 hd4 hk4 hn4)
            | (go_at_call 63; refine HC1.out.mono ?_; rintro en w7 ⟨k3, N3, G3, rfl, hp3, hd3, hk3, hn3⟩; have HP3 := Lib.hid hp3; have HS3 := Lib.hid (HS1.out.op hd3 hk3 hn3); have HK3 := Lib.hid hk3; have HN3 := Lib.hid hn3; have t1 := HS3.out.c0.1; have HC2 := Lib.hid (andLit_any w7 sb L N3 G3 k k3 x hd3 hL (by have := hp3.le.len; have := HP.out.lt; omega) hp3.lt (lit_node hp3.ok hp3.lt hp3.lev hp3.val) (by have h1 := hp3.cnt; have h2 := nb_le x; have h3 := HCST.out; have h4 := HMUL.out; have h5 := HBIG.out; have h6 := litB_litK (L := L) (x := x); omega)); clear hp3 hd3 hk3 hn3))
        all_goals
          go_wp2_with fail
          go_roundw
          case rel =>
            have h6 := litB_litK (L := L) (x := x)
            have h7 := litB_anti (L := L) (p := x) (Nat.zero_le (min (lev L N3 k) (lev L N3 k3)))
            have h8 := litC_take HX.out
            have h9 := nb_le x
            refine ⟨j + 1, k4, N4, G4, by go_num, HLT.out, rfl, (lit_step HP.out HP3.out (HP4.out.weak (Nat.le_refl _) (Nat.zero_le _) (fun _ => rfl)) HX.out).weak (by omega) (Nat.zero_le _) (fun _ => rfl), HS4.out, (HK.out.trans' (Keeps.trans ((Keeps.refl G' wr).drew) HK3.out) HN.out).trans' HK4.out (news HN.out HN3.out HK.out.size), news (news HN.out HN3.out HK.out.size) HN4.out (HK.out.trans' (Keeps.trans ((Keeps.refl G' wr).drew) HK3.out) HN.out).size⟩
          case measure => simp [intOf]; have := HLT.out; omega
      · have hje : j = o.pre.length := by omega
        subst hje
        clear hlt
        go_wp2_with fail
        go_ret
        have hpf := HP.out
        rw [List.take_of_length_le (Nat.le_refl _)] at hpf
        exact ⟨k, N', G', rfl, hpf, fun h => h.elim, HS.out, HKD.out.trans HK.out, fun q hq => (HN.out q hq).imp (fun h => h) (fun h => Nat.le_trans HKD.out.size h)⟩

end Go.Proofs.YtjcgkmodmjckjaaGreat

namespace Go.Proofs.YtjcgkmodmjckjaaGreat
open Go.RowKit

set_option maxRecDepth 100000 in
theorem sprice_any (w : World) (c : Int) (hc : 0 ≤ c ∧ c ≤ 1000000) : Calls Tryz.prog 43 #[.int .i64 c] w fun e w' => e = .returned (.int .i64 (4096 * c + 1)) ∧ w = w' := by
  go_enter Tryz.func43, Tryz.ntmps43
  go_wp2_with fail
  go_ret
  exact ⟨by simp [Int.mul_comm], rfl⟩

theorem NMap.look_neg {α : Type} {w : World} {b : Nat} {enc : α → Value} {f : Nat → Option α} {P : Program} {t k e : TypeId} (h : NMap w b enc f) (ht : P.underlying t = some (.map k e)) (hk : P.underlying k = some (.int .i64)) {z : Value} (hz : (zeroValue e).run P w = .ok z w) {x : Int} (hx : x < 0) :
    (Instr.lookup t (.map (some b)) (.int .i64 x) true).run P w = .ok (.tuple #[z, .bool false]) w ∧ (Instr.lookup t (.map (some b)) (.int .i64 x) false).run P w = .ok z w := by
  obtain ⟨l, h1, _, h3⟩ := h
  exact h1.run_lookup_miss ht hk hz (fun p hp e => by
    obtain ⟨q, hq, rfl⟩ := List.mem_map.1 hp
    simp only at e; omega)

/-- A map of nodes in a block of its own. -/
def DmS (w : World) (db : Nat) (D : Nat → Option Nat) (G : Nat → Prop) : Prop := NMap w db natV D ∧ ¬ G db
section
variable {w w' : World} {db : Nat} {D : Nat → Option Nat} {G G' : Nat → Prop}
theorem DmS.op (h : DmS w db D G) (hk : Keeps G w w') (hn : ∀ q, G' q → G q ∨ w.heap.size ≤ q) : DmS w' db D G' :=
  ⟨h.1.keeps hk h.2, fun h' => (hn _ h').elim h.2 (fun hs => by have := h.1.lt; omega)⟩
theorem DmS.keeps {S : Nat → Prop} (h : DmS w db D G) (hk : Keeps S w w') (hs : ¬ S db) : DmS w' db D G := ⟨h.1.keeps hk hs, h.2⟩
theorem DmS.keeps0 (h : DmS w db D G) (hk : Keeps (fun _ => False) w w') : DmS w' db D G := h.keeps hk (fun h => h)
/-- What a look at the map says. -/
def LookIs (D : Nat → Option Nat) (x : Int) (k : Nat) : Prop := (∃ p : Nat, x = (p : Int) ∧ D p = some k) ∨ (k = 0 ∧ ∀ p : Nat, x = (p : Int) → D p = none)
theorem look_is (D : Nat → Option Nat) (x : Int) : ∃ k, LookIs D x k := by
  by_cases hx : x < 0
  · exact ⟨0, .inr ⟨rfl, fun p e => by omega⟩⟩
  · cases hd : D x.toNat with
    | none => exact ⟨0, .inr ⟨rfl, fun p e => by rw [show p = x.toNat from by omega]; exact hd⟩⟩
    | some k => exact ⟨k, .inl ⟨x.toNat, by omega, hd⟩⟩
theorem DmS.look (h : DmS w db D G) {x : Int} {k : Nat} (hk : LookIs D x k) : (Instr.lookup 73 (.map (some db)) (.int .i64 x) false).run Tryz.prog w = .ok (.int .i64 (k : Int)) w := by
  have hz : (zeroValue 3).run Tryz.prog w = .ok (.int .i64 0) w := by kernel_rfl
  rcases hk with ⟨p, rfl, hp⟩ | ⟨rfl, hn⟩
  · exact (h.1.look_some Tryz.underlying73 Tryz.underlying3 hp).2
  · by_cases hx : x < 0
    · exact (h.1.look_neg Tryz.underlying73 Tryz.underlying3 hz hx).2
    · obtain ⟨p, rfl⟩ := Int.eq_ofNat_of_zero_le (show 0 ≤ x by omega)
      exact (h.1.look_none Tryz.underlying73 Tryz.underlying3 hz (hn p rfl)).2
end
/-- The map holds the states of the prices that have been worked on: of all those below p0. -/
structure DoneI (L : Nat) (N : List Dn) (ops : List Wop) (s : Nat) (D : Nat → Option Nat) (p0 : Nat) : Prop where
  lt : ∀ p k, D p = some k → k < N.length + 2
  ok : ∀ p k, D p = some k → ∀ m, m < 2 ^ L → (dv N k m = true ↔ Pd ops s m p)
  all : ∀ x p, Pd ops s x p → p < p0 → ∃ k, D p = some k
section
variable {L : Nat} {N N' : List Dn} {ops : List Wop} {s : Nat} {D : Nat → Option Nat} {p0 : Nat}
theorem DoneI.le (h : DoneI L N ops s D p0) (ok : DgOk L N) (hl : DgLe N N') : DoneI L N' ops s D p0 :=
  ⟨fun p k hk => by have := h.lt p k hk; have := hl.len; omega, fun p k hk m hm => by rw [hl.dv ok (h.lt p k hk)]; exact h.ok p k hk m hm, h.all⟩
theorem DoneI.look (h : DoneI L N ops s D p0) {x : Int} {k : Nat} (hk : LookIs D x k) : k < N.length + 2 := by
  rcases hk with ⟨p, _, hp⟩ | ⟨rfl, _⟩
  · exact h.lt p k hp
  · omega
/-- What trace tries for an operator: the states from which it leads to m, with the price x. -/
def tryS (L m : Nat) (o : Opr) : Nat → Bool := litS true o.pre (exsT (o.add ++ o.del) (litS false o.del (litS true o.add (cubeS L m 0))))
theorem try_iff (hL : L ≤ 24) {o : Opr} (ho : o.Ok (L : Int)) {m z : Nat} (hm : m < 2 ^ L) (hz : z < 2 ^ L) : tryS L m o z = true ↔ o.word.can z = true ∧ o.word.next z = m := by
  unfold tryS
  rw [before_iff hL ho hz, cube_iff hm (symNextLt ho hz)]
theorem tr_hit (hL : L ≤ 24) {o : Opr} (ho : o.Ok (L : Int)) {m : Nat} (hm : m < 2 ^ L) {Nx : List Dn} {x k : Nat} {fr : Int} (h : DoneI L N ops s D p0) (okx : DgOk L Nx) (hx : x < Nx.length + 2) (h0 : x ≠ 0) (hv : ∀ z, dv Nx x z = (tryS L m o z && dv N k z)) (hk : LookIs D fr k) :
    ∃ p' : Nat, fr = (p' : Int) ∧ (∃ z, z < 2 ^ L ∧ dv Nx x z = true) ∧ ∀ z, z < 2 ^ L → dv Nx x z = true → o.word.can z = true ∧ o.word.next z = m ∧ Pd ops s z p' := by
  obtain ⟨z0, hz0, _, hz1⟩ := dv_some okx x hx h0
  rcases hk with ⟨p, rfl, hp⟩ | ⟨rfl, _⟩
  · refine ⟨p, rfl, ⟨z0, hz0, hz1⟩, fun z hz h1 => ?_⟩
    rw [hv, Bool.and_eq_true, try_iff hL ho hm hz, h.ok p k hp z hz] at h1
    exact ⟨h1.1.1, h1.1.2, h1.2⟩
  · rw [hv, dv_zero, Bool.and_false] at hz1; cases hz1
theorem tr_miss (hL : L ≤ 24) {o : Opr} (ho : o.Ok (L : Int)) {m p : Nat} (hm : m < 2 ^ L) {Nx : List Dn} {k : Nat} {fr : Int} (h : DoneI L N ops s D p0) (hp : p ≤ p0) (hst : ∀ q y, runOps ops s q = some y → y < 2 ^ L) (hfr : fr = (p : Int) - (prcN o.word : Int)) (hv : ∀ z, dv Nx 0 z = (tryS L m o z && dv N k z)) (hk : LookIs D fr k) :
    ∀ z p', Pd ops s z p' → o.word.can z = true → o.word.next z = m → p = p' + prcN o.word → False := by
  intro z p' hz hc hn he
  have hzl : z < 2 ^ L := by obtain ⟨⟨q, g1, _⟩, _⟩ := id hz; exact hst q z g1
  have hb : 1 ≤ prcN o.word := by unfold prcN; omega
  obtain ⟨k', hk'⟩ := h.all z p' hz (by omega)
  have hkk : k = k' := by
    rcases hk with ⟨p2, h1, h2⟩ | ⟨_, h2⟩
    · have : p2 = p' := by omega
      subst this; rw [hk'] at h2; cases h2; rfl
    · rw [h2 p' (by omega)] at hk'; cases hk'
  subst hkk
  have h1 := hv z
  rw [dv_zero, (try_iff hL ho hm hzl).2 ⟨hc, hn⟩, (h.ok p' k hk' z hzl).2 hz] at h1
  cases h1
end
theorem words_at {os : List Opr} {i : Nat} {op : Wop} (h : (wordsOf os)[i]? = some op) : ∃ o, os[i]? = some o ∧ op = o.word := by
  unfold wordsOf at h
  rw [List.getElem?_map] at h
  cases ho : os[i]? with
  | none => rw [ho] at h; cases h
  | some o => rw [ho] at h; cases h; exact ⟨o, rfl, rfl⟩
theorem words_of {os : List Opr} {i : Nat} {o : Opr} (h : os[i]? = some o) : (wordsOf os)[i]? = some o.word := by unfold wordsOf; rw [List.getElem?_map, h]; rfl
theorem sym_costs {t : Tsk} (ok : t.Ok) : CostsOk (wordsOf t.ops) := fun o ho => by
  unfold wordsOf at ho
  obtain ⟨o', ho', rfl⟩ := List.mem_map.1 ho
  exact ⟨(ok.ops o' ho').cost0, (ok.ops o' ho').cost1⟩
theorem bef_cost {a d c x : Nat} (h : a + d ≤ 24) (hc : c ≤ 524287) (hx : x ≤ 5242880) : (a + d) * (1 + c) + (a + d) * c + x ≤ 30408680 := by
  have h1 : (a + d) * (1 + c) ≤ 24 * 524288 := Nat.mul_le_mul h (by omega)
  have h2 : (a + d) * c ≤ 24 * 524287 := Nat.mul_le_mul h hc
  omega

end Go.Proofs.YtjcgkmodmjckjaaGreat

namespace Go.Proofs.YtjcgkmodmjckjaaGreat
open Go.RowKit

def FMap {α : Type} (w : World) (b : Nat) (enc : α → Value) (f : Nat → Option α) : Prop :=
  ∃ l : List (Nat × α), IMap w b .u32 (l.map fun p => ((p.1 : Int), enc p.2)) ∧ (l.map Prod.fst).Nodup ∧ ∀ x v, f x = some v ↔ (x, v) ∈ l

section
variable {α : Type} {w : World} {b : Nat} {enc : α → Value} {f : Nat → Option α}
theorem FMap.keeps {S : Nat → Prop} {w' : World} (h : FMap w b enc f) (hk : Keeps S w w') (hs : ¬ S b) : FMap w' b enc f := by
  obtain ⟨l, h1, h2⟩ := h; exact ⟨l, h1.keeps hk hs, h2⟩
theorem FMap.lt (h : FMap w b enc f) : b < w.heap.size := by obtain ⟨l, h1, _⟩ := h; exact h1.lt
theorem FMap.map_block (h : FMap w b enc f) : ∃ es c, w.heap[b]? = some (.map es c) := by obtain ⟨l, ⟨es, c, hb, _⟩, _⟩ := h; exact ⟨es, c, hb⟩
theorem FMap.ne_cells (h : FMap w b enc f) {g : Nat} {cs : Array Value} {T : TypeId} {fr : Nat × Nat} (hg : w.heap[g]? = some (.cells cs T fr)) : b ≠ g := fun e => by
  obtain ⟨es, c, hb⟩ := h.map_block
  rw [e, hg] at hb; cases hb
theorem FMap.made (w : World) (enc : α → Value) : FMap (w.alloc (.map #[] 0)) w.heap.size enc (fun _ => none) :=
  ⟨[], IMap.made w .u32, by simp, fun x v => by simp⟩
theorem fkeys_nodup {l : List (Nat × α)} (h : (l.map Prod.fst).Nodup) : ((l.map fun p => ((p.1 : Int), enc p.2)).map Prod.fst).Nodup := by
  rw [List.map_map]
  have : (l.map ((Prod.fst : Int × Value → Int) ∘ fun p => ((p.1 : Int), enc p.2))) = (l.map Prod.fst).map fun x : Nat => (x : Int) := by rw [List.map_map]; rfl
  rw [this]
  unfold List.Nodup at h ⊢
  rw [List.pairwise_map]
  exact h.imp fun hne e => hne (by omega)
theorem fkeys_miss {l : List (Nat × α)} (hl : ∀ x v, f x = some v ↔ (x, v) ∈ l) {x : Nat} (hx : f x = none) : ∀ p ∈ l.map (fun p => ((p.1 : Int), enc p.2)), p.1 ≠ (x : Int) := fun p hp e => by
  obtain ⟨q, hq, rfl⟩ := List.mem_map.1 hp
  have : q.1 = x := by simp only at e; omega
  have h2 := (hl q.1 q.2).2 hq
  rw [this, hx] at h2; cases h2
variable {P : Program} {t k e : TypeId}
theorem FMap.look_some (h : FMap w b enc f) (ht : P.underlying t = some (.map k e)) (hk : P.underlying k = some (.int .u32)) {x : Nat} {v : α} (hx : f x = some v) :
    (Instr.lookup t (.map (some b)) (.int .u32 (x : Int)) true).run P w = .ok (.tuple #[enc v, .bool true]) w ∧ (Instr.lookup t (.map (some b)) (.int .u32 (x : Int)) false).run P w = .ok (enc v) w := by
  obtain ⟨l, h1, h2, h3⟩ := h
  exact h1.run_lookup_hit ht hk (fkeys_nodup h2) (List.mem_map.2 ⟨(x, v), (h3 x v).1 hx, rfl⟩)
theorem FMap.look_none (h : FMap w b enc f) (ht : P.underlying t = some (.map k e)) (hk : P.underlying k = some (.int .u32)) {z : Value} (hz : (zeroValue e).run P w = .ok z w) {x : Nat} (hx : f x = none) :
    (Instr.lookup t (.map (some b)) (.int .u32 (x : Int)) true).run P w = .ok (.tuple #[z, .bool false]) w ∧ (Instr.lookup t (.map (some b)) (.int .u32 (x : Int)) false).run P w = .ok z w := by
  obtain ⟨l, h1, _, h3⟩ := h
  exact h1.run_lookup_miss ht hk hz (fkeys_miss h3 hx)
/-- A store. -/
theorem FMap.put (h : FMap w b enc f) (ht : P.underlying t = some (.map k e)) (hk : P.underlying k = some (.int .u32)) (x : Nat) (v : α) :
    ∃ w', (Instr.mapUpdate t (.map (some b)) (.int .u32 (x : Int)) (enc v)).run P w = .ok () w' ∧ FMap w' b enc (putP f x v) ∧ Keeps (fun j => j = b) w w' := by
  obtain ⟨l, h1, h2, h3⟩ := h
  cases hx : f x with
  | none =>
    obtain ⟨w', hr, hi, hk'⟩ := h1.run_update_new ht hk (fkeys_miss h3 hx) (enc v)
    refine ⟨w', hr, ⟨l ++ [(x, v)], by rw [List.map_append]; exact hi, ?_, fun y u => ?_⟩, hk'⟩
    · rw [List.map_append, List.nodup_append]
      refine ⟨h2, by simp, fun a ha c hc hac => ?_⟩
      simp only [List.map_cons, List.map_nil, List.mem_singleton] at hc
      obtain ⟨q, hq, rfl⟩ := List.mem_map.1 ha
      have h4 := (h3 q.1 q.2).2 hq
      rw [hac, hc, hx] at h4; cases h4
    · by_cases hy : y = x
      · subst hy
        rw [putP_same, List.mem_append]
        constructor
        · intro h; cases h; exact .inr (by simp)
        · rintro (h | h)
          · have := (h3 y u).2 h; rw [hx] at this; cases this
          · simp at h; rw [h]
      · rw [putP_other f v hy, h3 y u, List.mem_append]
        constructor
        · exact .inl
        · rintro (h | h)
          · exact h
          · simp at h; exact absurd h.1 hy
  | some u0 =>
    obtain ⟨j, hj⟩ := List.mem_iff_getElem?.1 ((h3 x u0).1 hx)
    obtain ⟨w', hr, hi, hk'⟩ := h1.run_update_old ht hk (fkeys_nodup h2) (x := (x : Int)) (u := enc u0) (j := j) (by rw [List.getElem?_map, hj]; rfl) (enc v)
    have hjl := (List.getElem?_eq_some_iff.1 hj).1
    have hkeys : (l.set j (x, v)).map Prod.fst = l.map Prod.fst := by
      apply List.ext_getElem?
      intro n
      rw [List.getElem?_map, List.getElem?_map]
      by_cases hn : n = j
      · subst hn; rw [List.getElem?_set_self hjl, hj]; rfl
      · rw [List.getElem?_set_ne (fun e => hn e.symm)]
    refine ⟨w', hr, ⟨l.set j (x, v), by rw [List.map_set]; exact hi, by rw [hkeys]; exact h2, fun y u => ?_⟩, hk'⟩
    have uniq : ∀ n q, l[n]? = some q → q.1 = x → n = j := fun n q hq hqx => by
      have e1 : (l.map Prod.fst)[n]? = some x := by rw [List.getElem?_map, hq]; simp [hqx]
      have e2 : (l.map Prod.fst)[j]? = some x := by rw [List.getElem?_map, hj]; rfl
      exact nodup_ix h2 e1 e2
    by_cases hy : y = x
    · subst hy
      rw [putP_same]
      constructor
      · intro h; cases h
        exact List.mem_of_getElem? (List.getElem?_set_self hjl)
      · intro h
        obtain ⟨n, hn⟩ := List.mem_iff_getElem?.1 h
        by_cases hnj : n = j
        · subst hnj; rw [List.getElem?_set_self hjl] at hn; cases hn; rfl
        · rw [List.getElem?_set_ne (fun e => hnj e.symm)] at hn
          exact absurd (uniq n _ hn rfl) hnj
    · rw [putP_other f v hy, h3 y u]
      constructor
      · intro h
        obtain ⟨n, hn⟩ := List.mem_iff_getElem?.1 h
        have hnj : n ≠ j := fun e => by subst e; rw [hj] at hn; cases hn; exact hy rfl
        exact List.mem_of_getElem? (i := n) (by rw [List.getElem?_set_ne (fun e => hnj e.symm)]; exact hn)
      · intro h
        obtain ⟨n, hn⟩ := List.mem_iff_getElem?.1 h
        by_cases hnj : n = j
        · subst hnj; rw [List.getElem?_set_self hjl] at hn; cases hn; exact absurd rfl hy
        · rw [List.getElem?_set_ne (fun e => hnj e.symm)] at hn
          exact List.mem_of_getElem? hn
end

end Go.Proofs.YtjcgkmodmjckjaaGreat

namespace Go.Proofs.YtjcgkmodmjckjaaGreat
open Go.RowKit

def lenV : Value → Nat
  | .slice _ n _ => n
  | _ => 0
end Go.Proofs.YtjcgkmodmjckjaaGreat

namespace Go.Proofs.YtjcgkmodmjckjaaGreat
open Go.RowKit Go.Sort Go.Proofs

def backV (a : SArc) : Value := .agg #[.int .u32 (a.to : Int), .int .i64 (a.op : Int)]

theorem Chain.at_end {par : Nat → Option SArc} {x e : Nat} {out : List Nat} (h : Chain par x out e) (hx : par x = none) : out = [] ∧ x = e := by
  cases h with
  | nil _ => exact ⟨rfl, rfl⟩
  | cons ha _ => rw [hx] at ha; cases ha
theorem Chain.more {par : Nat → Option SArc} {x e : Nat} {out : List Nat} (h : Chain par x out e) (hx : x ≠ e) : ∃ a r, par x = some a ∧ out = a.op :: r ∧ Chain par a.to r e := by
  cases h with
  | nil _ => exact absurd rfl hx
  | cons ha hc => exact ⟨_, _, ha, rfl, hc⟩

set_option maxRecDepth 100000 in
set_option maxHeartbeats 1000000 in
theorem pathC_any (w : World) (m s x : Nat) (par f : Nat → Option SArc) (out : List Nat) (hm : FMap w m backV f) (hf : ∀ y a, par y = some a → f y = some a) (h0 : par s = none) (hc : Chain par x out s) (few : out.length ≤ 100000) :
    Calls Tryz.prog 86 #[.map (some m), .int .u32 (s : Int), .int .u32 (x : Int)] w fun en w' => ∃ v, en = .returned v ∧ w'.ownsRow w.heap.size 3 1 v out.length ((intsP out.reverse).map (Value.int .i64)) ∧ Keeps (fun _ => False) w w' := by
  obtain ⟨i0, hi0, hz0, hz1, hz2⟩ := info_parts Tryz.info3
  have HM := Lib.hid hm; have HF := Lib.hid hf; have H0 := Lib.hid h0; have HC := Lib.hid hc
  clear hm hf h0 hc
  go_enter Tryz.func86, Tryz.ntmps86
  go_wp2_with fail
  go_loopw [2, 7] (fun z v wr => ∃ (dn rest : List Nat) (y : Nat), out = dn ++ rest ∧ Chain par y rest s ∧ z = .int .u32 (y : Int) ∧ lenV v = dn.length ∧ wr.ownsRow w.heap.size 3 1 v (intsP dn).length ((intsP dn).map (Value.int .i64)) ∧ Keeps (fun _ => False) w wr)
    (fun _ v _ => out.length - lenV v)
  case atStart => exact ⟨[], out, x, rfl, HC.out, rfl, rfl, World.ownsRow_nil _ _ _ _, Keeps.refl _ _⟩
  case round =>
    obtain ⟨dn, rest, y, hout, hch, rfl, hlv, hown, hkw⟩ := hrel
    have HO := Lib.hid hown; have KW := Lib.hid hkw; have HOUT := Lib.hid hout; have HCH := Lib.hid hch; have HLV := Lib.hid hlv
    have hmw := HM.out.keeps hkw (fun h => h)
    clear hown hkw hout hch hlv
    obtain ⟨av, cv, hv⟩ := ownsRow_form1 HO.out
    subst hv
    by_cases hne : y = s
    · have hb : ((y : Int) != (s : Int)) = false := by simp [hne]
      have HPE := Lib.hid (show out = dn by
        have h1 := (HCH.out.at_end (by rw [hne]; exact H0.out)).1
        rw [HOUT.out, h1, List.append_nil])
      clear hne
      go_wp2_with fail
      refine (reverse_any _ _ _ _ (intsP dn) HO.out (by have h1 := HPE.out; subst h1; simp [intsP]; omega)).mono ?_
      rintro e' w5 ⟨rfl, hown2, hk5⟩
      have HO5 := Lib.hid hown2
      have K5 := Lib.hid (KW.out.trans' hk5 (fun b hb => .inr (World.ownsRow.lt HO.out b hb).1))
      clear hown2 hk5
      go_wp2_with fail
      go_ret
      refine ⟨_, rfl, ?_, K5.out⟩
      have h1 := HO5.out
      have h2 : (intsP dn).length = out.length := by rw [HPE.out]; simp [intsP]
      have h3 : (intsP dn).reverse = intsP out.reverse := by rw [HPE.out]; simp [intsP]
      rw [h3] at h1
      generalize (Value.slice av (intsP dn).length cv) = v at h1
      rw [h2] at h1
      exact h1
    · have hb : ((y : Int) != (s : Int)) = true := by simp; omega
      obtain ⟨a, r, hpa, hro, hcr⟩ := HCH.out.more hne
      have HCR := Lib.hid hcr
      have HOR := Lib.hid (show out = (dn ++ [a.op]) ++ r by rw [HOUT.out, hro, List.append_assoc]; rfl)
      have hlk := (hmw.look_some (P := Tryz.prog) Tryz.underlying139 Tryz.underlying60 (HF.out _ _ hpa)).2
      unfold backV at hlk
      clear hne hpa hro hcr
      have HB := Lib.hid (heap_alloc_new wr (.cells #[.int .u32 (a.to : Int), .int .i64 (a.op : Int)] 138))
      have KA := Lib.hid ((Keeps.refl (fun _ => False) wr).alloc (.cells #[.int .u32 (a.to : Int), .int .i64 (a.op : Int)] 138))
      go_upto_region 4 with fail
      generalize wr.alloc (.cells #[.int .u32 (a.to : Int), .int .i64 (a.op : Int)] 138) = w3 at KA HB ⊢
      have c0 : w3.cell? ⟨wr.heap.size, 0, none⟩ = some (.int .u32 (a.to : Int)) := by rw [cell_of_blk HB.out]; rfl
      have c1 : w3.cell? ⟨wr.heap.size, 1, none⟩ = some (.int .i64 (a.op : Int)) := by rw [cell_of_blk HB.out]; rfl
      have hO3 := KA.out.ownsRow HO.out (fun _ _ h => h)
      have hdl : (intsP dn).length < out.length := by rw [HOR.out]; simp [intsP]
      have hs3 := KA.out.size; have hsw := KW.out.size
      go_wp2_with (at_builtin; refine wpList_append_d rfl _ _ _ rfl w.heap.size 3 i0 _ 1 8 Tryz.underlying22 hi0 hz0 hz1 hz2 rfl (by omega) _ (intsP dn).length ((intsP dn).map (Value.int .i64)) (by rfl) (World.ownsRow.alloc hO3 (.cells #[.int .i64 (a.op : Int)] 3)) ⟨w3.heap.size, 0, none⟩ 1 1 [.int .i64 (a.op : Int)] (by rfl) (by rfl) ?hnews ?hone (by omega) (by unfold maxLen; omega) (by omega) (by simp; omega) (w3.heap.size + 1) (by simp) ?_)
      case hnews => exact World.news_of_block (cs := #[.int .i64 (a.op : Int)]) (t := 3) (fr := (0, 0)) (heap_alloc_new _ _)
      case hone => simp [Value.oneCell']
      intro gg cap2 w4 hown hgrow hat hlt4 hd4
      have HN := Lib.hid (show w4.ownsRow w.heap.size 3 1 (.slice (some ⟨gg, 0, none⟩) ((intsP dn).length + 1) cap2) (intsP (dn ++ [a.op])).length ((intsP (dn ++ [a.op])).map (Value.int .i64)) by
        have e1 : (intsP (dn ++ [a.op])) = intsP dn ++ [(a.op : Int)] := by simp [intsP]
        rw [e1, List.map_append, List.length_append]; exact hown)
      have HKN := Lib.hid (own_grown HO.out KW.out (KA.out.alloc (.cells #[.int .i64 (a.op : Int)] 3)) hgrow)
      have d0 : w4.cell? ⟨wr.heap.size, 0, none⟩ = some (.int .u32 (a.to : Int)) := by
        have hb4 : w4.heap[wr.heap.size]? = _ := (steady_keeps hgrow).heap ((Below.heap_alloc w3 (.cells #[.int .i64 (a.op : Int)] 3) wr.heap.size (lt_of_heap HB.out)).trans HB.out) (fun e' => by have := (World.ownsRow.lt HO.out _ e').2; omega)
        rw [cell_of_blk hb4]; rfl
      clear hown hgrow hat hd4 c0 c1 hO3 hmw
      go_wp2_with fail
      go_roundw
      case rel =>
        exact ⟨dn ++ [a.op], r, a.to, HOR.out, HCR.out, rfl, by simp [lenV, intsP], HN.out, HKN.out⟩
      case measure =>
        simp only [lenV] at *
        have h1 : (intsP dn).length = dn.length := by simp [intsP]
        omega

end Go.Proofs.YtjcgkmodmjckjaaGreat

namespace Go.Proofs.YtjcgkmodmjckjaaGreat
open Go.RowKit

/-- What trace hands back. -/
def TrPost (t : Tsk) (L : Nat) (T : Nat → Bool) (p0 : Nat) (w0 : World) (e : Ending) (w' : World) : Prop := Keeps (fun _ => False) w0 w' ∧ ∃ v q y, e = .returned v ∧ Ints w' v (intsP q) ∧ runOps (wordsOf t.ops) (wd t.init) q = some y ∧ y < 2 ^ L ∧ T y = true ∧ wayN 4096 1 (wordsOf t.ops) q = (p0 : Int) ∧ ∀ k, v.ownBlock = some k → w0.heap.size ≤ k

set_option maxRecDepth 100000 in
set_option maxHeartbeats 8000000 in
theorem trace_any (w0 w : World) (ss sb L : Nat) (N : List Dn) (G : Nat → Prop) (n : Int) (vi vg vo : Value) (gk : Nat) (t : Tsk) (l : List Nat) (db : Nat) (D : Nat → Option Nat) (at0 p0 : Nat) (h : StS w0 w ss sb L N G n vi vg vo gk) (hL : L ≤ 24) (hLn : t.n = (L : Int)) (hop : OpsAt w0 vo t.ops) (ok : t.Ok) (hx : explored t = some l) (hd : DmS w db D G) (hDI : DoneI L N (wordsOf t.ops) (wd t.init) D p0) (ha : at0 < N.length + 2) (h0 : at0 ≠ 0) (hT : ∀ m, m < 2 ^ L → dv N at0 m = true → Pd (wordsOf t.ops) (wd t.init) m p0) (hp0 : p0 ≤ 1000000000) (hbig : low N + 2475000000000 ≤ 5800000000000) :
    Calls Tryz.prog 42 #[.pointer (some ⟨ss, 0, none⟩), .map (some db), .int .i64 (at0 : Int), .int .i64 (p0 : Int)] w (TrPost t L (dv N at0) p0 w0) := by
  obtain ⟨j0, hj0, jz0, jz1, jz2⟩ := info_parts Tryz.info3
  obtain ⟨aw, cw, hvo, hmo⟩ := hop.form
  subst hvo
  have HOP := Lib.hid hop; have OK := Lib.hid ok; have HX := Lib.hid hx; have HTP := Lib.hid hT
  have HC0 := Lib.hid (show CostsOk (wordsOf t.ops) from sym_costs ok)
  have HRS := Lib.hid (reached_some (ops := wordsOf t.ops) (s := wd t.init) (l := l) hx)
  have HRE := Lib.hid (show ∀ q y, runOps (wordsOf t.ops) (wd t.init) q = some y → y ∈ l from fun q y h => (HRS.out.2.2.2 y).2 (reach_run q .refl h))
  have HLT2 := Lib.hid (show ∀ q y, runOps (wordsOf t.ops) (wd t.init) q = some y → y < 2 ^ L from fun q y h => by
    obtain ⟨g1, g2⟩ := good_explored OK.out HX.out y (HRE.out q y h)
    rw [← g2]; exact wd_lt (fun x hx => by have := (isSet_iff.1 g1).1 x hx; omega))
  have HTR := Lib.hid (show TrI L (wordsOf t.ops) (wd t.init) (dv N at0) p0 (dv N at0) p0 [] from by
    obtain ⟨z0, hz0, _, hz1⟩ := dv_some h.dg.ok at0 ha h0
    exact TrI.start ⟨z0, hz0, hz1⟩ hT)
  have HLY := Lib.hid (show LyS w0 w w.heap.size ss sb L n vi vg (.slice aw t.ops.length cw) gk N G (.slice none 0 0) (intsP []) from ⟨h, World.ownsRow_nil _ _ _ _, fun k h => absurd h (by simp [Value.ownBlock]), h.c0.2, h.k0.size⟩)
  have HDM := Lib.hid hd; have HDI := Lib.hid hDI; have HAT := Lib.hid ha; have HBG := Lib.hid hbig
  have h40 := ok.few
  have HDB := Lib.hid hd.1.lt
  clear h hop ok hx hT hd hDI ha hbig h0
  go_enter Tryz.func42, Tryz.ntmps42
  go_wp2_with fail
  go_loopw [2, 3, 9] (fun av pv ov wr => ∃ (a p : Nat) (out : List Nat) (N' : List Dn) (G' : Nat → Prop), av = .int .i64 (a : Int) ∧ pv = .int .i64 (p : Int) ∧ LyS w0 wr w.heap.size ss sb L n vi vg (.slice aw t.ops.length cw) gk N' G' ov (intsP out) ∧ DmS wr db D G' ∧ DoneI L N' (wordsOf t.ops) (wd t.init) D p0 ∧ a < N'.length + 2 ∧ TrI L (wordsOf t.ops) (wd t.init) (dv N at0) p0 (dv N' a) p out ∧ low N' ≤ low N + out.length * 1237400000 ∧ w.heap.size ≤ wr.heap.size) (fun _ pv _ _ => (intOf pv).toNat)
  case atStart => exact ⟨at0, p0, [], N, G, rfl, rfl, HLY.out, HDM.out, HDI.out, HAT.out, HTR.out, by simp, Nat.le_refl _⟩
  case round =>
    obtain ⟨a, p, out, N', G', rfl, rfl, hly, hdm, hdi, hal, htr, hlo, hsz⟩ := hrel
    obtain ⟨ar, cr, har⟩ := ownsRow_form1 hly.row
    subst har
    have HLR := Lib.hid hly; have HDR := Lib.hid hdm; have HDJ := Lib.hid hdi; have HAL := Lib.hid hal; have HTI := Lib.hid htr; have HLO := Lib.hid hlo
    have hpp : p ≤ p0 := by have h1 := htr.sum; have h2 := way_low HC0.out out.reverse; omega
    have hfew := htr.few HC0.out HRE.out HRS.out.2.1 HTP.out
    have HFW := Lib.hid hfew
    have hil : (intsP out).length = out.length := by simp [intsP]
    clear hly hdm hdi hal htr hlo HLY HDM HDI HAT HTR hfew
    by_cases hz : p = 0
    · subst hz
      clear hil
      go_wp2_with fail
      refine (reverse_any _ _ _ _ (intsP out) HLR.out.row (by have h1 := HFW.out.1; simp [intsP]; omega)).mono ?_
      rintro e' w5 ⟨rfl, hown2, hk5⟩
      have HO5 := Lib.hid hown2
      have K5 := Lib.hid (HLR.out.st.k0.trans' hk5 (fun b hb => .inr (by have h1 := (World.ownsRow.lt HLR.out.row b hb).1; have h2 := HLR.out.low; omega)))
      clear hown2 hk5
      go_wp2_with fail
      go_ret
      obtain ⟨y, g1, g2, g3, g4⟩ := HTI.out.last HC0.out
      refine ⟨K5.out, _, out.reverse, y, rfl, ?_, g3, g1, g2, g4, fun k hk => Nat.le_trans HLR.out.low (World.ownsRow.lt HLR.out.row k hk).1⟩
      have h1 := HO5.out
      have h3 : (intsP out).reverse = intsP out.reverse := by simp [intsP]
      have h2 : (intsP out).length = (intsP out.reverse).length := by simp [intsP]
      rw [h3] at h1
      generalize (Value.slice ar (intsP out).length cr) = v at h1 ⊢
      rw [h2] at h1
      exact Sl.of_own h1
    · have q1 : decide ((0 : Int) < (p : Int)) = true := by simp; omega
      have q1' : decide (0 < p) = true := by simp; omega
      have HPZ := Lib.hid hz
      obtain ⟨m0, hm0, hm1⟩ := HTI.out.some_
      have hne : a ≠ 0 := fun e => by subst e; rw [dv_zero] at hm1; cases hm1
      have HC1 := Lib.hid (pick_any wr sb L N' G' a HLR.out.st.dg hL HAL.out hne)
      obtain ⟨c0, c0l⟩ := HLR.out.st.c0
      have HIL := Lib.hid hil
      clear m0 hm0 hm1 hne hz hil
      go_wp2_with fail
      refine HC1.out.mono ?_; rintro e w5 ⟨v, lo, rfl, hv, hlb, hll, hdv, hk5⟩
      obtain ⟨av, cv, rfl, _⟩ := hv.form
      have HV := Lib.hid hv
      have HML := Lib.hid (show wd (intsP lo) < 2 ^ L from wd_lt (fun x hx => by
        obtain ⟨y, hy, rfl⟩ := List.mem_map.1 hx
        have := hlb y hy; omega))
      have HMV := Lib.hid hdv
      have HL5 := Lib.hid (HLR.out.keeps0 hk5); have HD5 := Lib.hid (HDR.out.keeps0 hk5)
      have hs5 := Nat.le_trans hsz hk5.size
      have HLB := Lib.hid (show ∀ x ∈ intsP lo, 0 ≤ x ∧ x < 32 from fun x hx => by
        obtain ⟨y, hy, rfl⟩ := List.mem_map.1 hx
        have := hlb y hy; omega)
      clear hv hlb hll hdv hk5 c0 c0l HLR HDR HC1 q1 q1'
      obtain ⟨c0, c0l⟩ := HL5.out.st.c0
      go_upto_region 4 with fail
      have KD := (Keeps.refl (fun _ => False) w5).drew
      have HLD := Lib.hid (HL5.out.keeps0 KD); have HDD := Lib.hid (HD5.out.keeps0 KD)
      have HC1 := Lib.hid (word_any w5.drew _ (intsP lo) (HV.out.keeps0 KD) HLB.out)
      have HC2 := Lib.hid (cube_any w5.drew sb L (wd (intsP lo)) N' G' HLD.out.st.dg hL (by have h1 := HLO.out; have h2 := HBG.out; have h3 := HFW.out.1; omega))
      have e0 := KD.cell c0 (fun h => h)
      have hsD := Nat.le_trans hs5 KD.size
      clear KD
      go_region_held3 (fun w' => w'.cell? ⟨ss, 0, none⟩ = some (.pointer (some ⟨sb, 0, none⟩)))
        (go_keep)
        (first
          | (go_at_call 26; refine HC1.out.mono ?_; rintro en w6 ⟨rfl, hw6⟩; rw [← hw6]; clear hw6 w6)
          | (go_at_call 25; refine HC2.out.mono ?_; rintro en w6 ⟨k1, N1, G1, rfl, hp1, hd1, hk1, hn1⟩; have HP1 := Lib.hid hp1; have HL6 := Lib.hid (HLD.out.op hd1 hk1 hn1); have HD6 := Lib.hid (HDD.out.op hk1 hn1); have HS6 := Lib.hid (Nat.le_trans hsD hk1.size); have t0 := HL6.out.st.c0.1; clear hp1 hd1 hk1 hn1))
      all_goals
        have HDI1 := Lib.hid (HDJ.out.le HLD.out.st.dg.ok HP1.out.le)
        have HV1 := Lib.hid (show dv N1 k1 = cubeS L (wd (intsP lo)) 0 from funext fun z => HP1.out.val z)
        have HLW1 := Lib.hid (show low N1 ≤ low N + out.length * 1237400000 + 24 from by have h1 := HP1.out.cnt; have h2 := HLO.out; omega)
        have HK1 := Lib.hid (show k1 < N1.length + 2 from HP1.out.lt)
        generalize wd (intsP lo) = m at HML HMV HV1
        clear t0 c0 c0l e0 HC1 HC2 HV HLB HP1 HLD HDD HL5 HD5 hs5 hsD
        have c4 : w6.cell? ⟨ss, 4, none⟩ = some (.slice aw t.ops.length cw) := (cell_of_blk HL6.out.st.blk).trans rfl
        have c4l := HL6.out.st.c0.2
        go_wp2_with fail
        go_loopw [2, 3, 9, 40] (fun av2 pv2 ov2 iv wq => ∃ (j : Nat) (N2 : List Dn) (G2 : Nat → Prop), av2 = .int .i64 (k1 : Int) ∧ pv2 = .int .i64 (p : Int) ∧ ov2 = .slice ar (intsP out).length cr ∧ iv = .int .i64 (j : Int) ∧ j ≤ t.ops.length ∧ LyS w0 wq w.heap.size ss sb L n vi vg (.slice aw t.ops.length cw) gk N2 G2 (.slice ar (intsP out).length cr) (intsP out) ∧ DmS wq db D G2 ∧ DgLe N1 N2 ∧ low N2 ≤ low N1 + j * 30932967 ∧ (∀ i, i < j → ∀ o, t.ops[i]? = some o → ∀ z p', Pd (wordsOf t.ops) (wd t.init) z p' → o.word.can z = true → o.word.next z = m → p = p' + prcN o.word → False) ∧ w.heap.size ≤ wq.heap.size) (fun _ _ _ iv _ => t.ops.length - (intOf iv).toNat)
        case atStart => exact ⟨0, N1, G1, rfl, rfl, rfl, rfl, Nat.zero_le _, HL6.out, HD6.out, DgLe.refl _, by omega, fun i hi => by omega, HS6.out⟩
        case round =>
          obtain ⟨j, N2, G2, rfl, rfl, rfl, rfl, hj, hlq, hdq, hle, hlow2, hms, hszq⟩ := hrel
          have HLQ := Lib.hid hlq; have HDQ := Lib.hid hdq; have HLE := Lib.hid hle; have HLW := Lib.hid hlow2; have HMS := Lib.hid hms
          clear hlq hdq hle hlow2 hms
          by_cases hlt : j < t.ops.length
          · obtain ⟨bo, oo, hao, hcell⟩ := HOP.out.cell rfl (by omega)
            cases hao
            obtain ⟨o, ho⟩ : ∃ o, t.ops[j]? = some o := ⟨_, List.getElem?_eq_getElem hlt⟩
            have hok := OK.out.ops o (List.mem_of_getElem? ho)
            rw [hLn] at hok
            have hcst : 0 ≤ o.cost ∧ o.cost ≤ 100 := HC0.out o.word (List.mem_of_getElem? (words_of ho))
            have HPR := Lib.hid (show ((prcN o.word : Nat) : Int) = 4096 * o.cost + 1 from prcN_int HC0.out (words_of ho))
            obtain ⟨f1, f2, f3, f4⟩ := opr_few hL hok
            have HCO := Lib.hid (bef_cost f4 (opC_le k1) (litC_le ((isSet_iff.1 hok.pre).2.imp (fun h => by omega)) (isSet_iff.1 hok.pre).1 hL))
            obtain ⟨va, vb, vc, u0, u1, u2, u3, i1, i2, i3⟩ := hcell j o ho
            have r0 := HLQ.out.st.k0.cell u0 (fun h => h); have r1 := HLQ.out.st.k0.cell u1 (fun h => h); have r2 := HLQ.out.st.k0.cell u2 (fun h => h); have r3 := HLQ.out.st.k0.cell u3 (fun h => h)
            obtain ⟨a1, c1, g1, _⟩ := i1.form
            obtain ⟨a2, c2, g2, _⟩ := i2.form
            obtain ⟨a3, c3, g3, _⟩ := i3.form
            subst g1 g2 g3
            have K7 := (Keeps.refl (fun _ => False) wr).alloc (.cells #[.slice a1 o.pre.length c1, .slice a2 o.add.length c2, .slice a3 o.del.length c3, .int .i64 o.cost] 72)
            have HX7 := Lib.hid (heap_alloc_new wr (.cells #[.slice a1 o.pre.length c1, .slice a2 o.add.length c2, .slice a3 o.del.length c3, .int .i64 o.cost] 72))
            have HL7 := Lib.hid (HLQ.out.keeps0 K7); have HD7 := Lib.hid (HDQ.out.keeps0 K7)
            have HOK := Lib.hid hok; have HJ := Lib.hid ho; have HLT3 := Lib.hid hlt
            have HFF := Lib.hid (And.intro f1 (And.intro f2 f3))
            have hs7 := Nat.le_trans hszq K7.size
            have hpb : p ≤ 1000000000 := by omega
            clear hcell u0 u1 u2 u3 i1 i2 i3 K7 ho hok f1 f2 f3 f4 hlt c4 c4l
            go_upto_region 8 with fail
            generalize (wr.alloc (.cells #[.slice a1 o.pre.length c1, .slice a2 o.add.length c2, .slice a3 o.del.length c3, .int .i64 o.cost] 72)) = w7 at HX7 HL7 HD7 hs7 ⊢
            generalize wr.heap.size = bx at HX7 ⊢
            have x3 : w7.cell? ⟨bx, 3, none⟩ = some (.int .i64 o.cost) := (cell_of_blk HX7.out).trans rfl
            have xl := lt_of_heap HX7.out
            clear r0 r1 r2 r3
            go_wp2_with fail
            refine (sprice_any _ _ ⟨hcst.1, by omega⟩).mono ?_; rintro e w8 ⟨rfl, hw8⟩
            rw [← hw8]; clear hw8 w8
            go_upto_region 9 with fail
            obtain ⟨fr, hfr⟩ : ∃ fr : Int, (p : Int) - (4096 * o.cost + 1) = fr := ⟨_, rfl⟩
            rw [hfr]
            have HFR := Lib.hid (show fr = (p : Int) - (prcN o.word : Int) from by have h1 := HPR.out; omega)
            obtain ⟨kd, hkd⟩ := look_is D fr
            have HKD := Lib.hid hkd
            have KD := (Keeps.refl (fun _ => False) w7).drew
            have HL8 := Lib.hid (HL7.out.keeps0 KD); have HD8 := Lib.hid (HD7.out.keeps0 KD)
            have hs8 := Nat.le_trans hs7 KD.size
            have HKL := Lib.hid (show k1 < N2.length + 2 ∧ kd < N2.length + 2 from ⟨by have h1 := HLE.out.len; have h2 := HK1.out; omega, (HDI1.out.le HL6.out.st.dg.ok HLE.out).look hkd⟩)
            have HLB := Lib.hid (show low N2 + 31000000 ≤ 5800000000000 from by have h1 := HLW.out; have h2 := HLW1.out; have h3 := HFW.out.2 HPZ.out; have h4 := HBG.out; omega)
            have HC2 := Lib.hid (before_any w0 w7.drew ss sb L N2 G2 n vi vg _ gk k1 j t.ops o HL8.out.st hL HOP.out HJ.out h40 HKL.out.1 (isSet_iff.1 HOK.out.pre).1 (isSet_iff.1 HOK.out.add).1 (isSet_iff.1 HOK.out.del).1 HFF.out.1 HFF.out.2.1 HFF.out.2.2 (by have h1 := HCO.out; have h2 := HLB.out; omega))
            have e0 := HL8.out.st.c0.1
            have hlk0 := HD8.out.look HKD.out
            clear hkd KD x3 xl hfr hcst hpb
            go_region_held3 (fun w' => w'.cell? ⟨ss, 0, none⟩ = some (.pointer (some ⟨sb, 0, none⟩)))
              (go_keep)
              (first
                | (go_at_call 40; refine HC3.out.mono ?_; rintro en w11 ⟨x, N4, G4, rfl, hp4, hd4, hk4, hn4⟩; have HP4 := Lib.hid hp4; have HL11 := Lib.hid (HL10.out.op hd4 hk4 hn4); have HD11 := Lib.hid (HD10.out.op hk4 hn4); have HS11 := Lib.hid (Nat.le_trans HS10.out hk4.size); have t1 := HL11.out.st.c0.1; clear hp4 hd4 hk4 hn4)
                | (go_at_call 77; refine HC2.out.mono ?_; rintro en w10 ⟨k2, N3, G3, rfl, hp3, hz3, hs3, hk3, hn3⟩; have HP3 := Lib.hid hp3; have HL10 := Lib.hid (HL8.out.opS hs3 hk3 hn3); have HD10 := Lib.hid (HD8.out.op hk3 hn3); have HS10 := Lib.hid (Nat.le_trans hs8 hk3.size); have hlk := HD10.out.look HKD.out; have t0 := HL10.out.st.c0.1; have HC3 := Lib.hid (and_any w10 sb L N3 G3 k2 kd hs3.dg hL hp3.lt (by have h1 := hp3.le.len; have h2 := HKL.out.2; omega) (by have h1 := hp3.cnt; have h2 := HCO.out; have h3 := HLB.out; have h4 := lowB_le L (min (lev L N3 k2) (lev L N3 kd)); omega)); clear hp3 hz3 hs3 hk3 hn3))
            all_goals
              have HVX := Lib.hid (show ∀ z, dv N4 x z = (tryS L m o z && dv N1 kd z) from fun z => by
                have e1 : dv N2 k1 = cubeS L m 0 := by rw [← HV1.out]; exact funext fun z => HLE.out.dv HL6.out.st.dg.ok HK1.out z
                have e2 : dv N3 kd z = dv N1 kd z := by rw [HP3.out.le.dv HL8.out.st.dg.ok HKL.out.2, HLE.out.dv HL6.out.st.dg.ok (HDI1.out.look HKD.out)]
                rw [HP4.out.val, HP3.out.val, e1, e2]; rfl)
              have HLE4 := Lib.hid ((HLE.out.trans HP3.out.le).trans HP4.out.le)
              have HLW4 := Lib.hid (show low N4 ≤ low N1 + (j + 1) * 30932967 from by have h1 := HP3.out.cnt; have h2 := HCO.out; have h3 := HP4.out.cnt; have h4 := lowB_le L (min (lev L N3 k2) (lev L N3 kd)); have h5 := HLW.out; omega)
              have HXL := Lib.hid (show x < N4.length + 2 from HP4.out.lt)
              clear hlk hlk0 t0 t1 e0 HC2 HC3 HP3 HP4 HL10 HD10 HS10 HL8 HD8 HX7 HL7 HD7
              by_cases hx0 : x = 0
              · subst hx0
                have HM2 := Lib.hid (tr_miss hL HOK.out HML.out HDI1.out hpp HLT2.out HFR.out HVX.out HKD.out)
                go_wp2_with fail
                go_roundw
                case rel =>
                  refine ⟨j + 1, N4, G4, rfl, rfl, rfl, by go_num, HLT3.out, HL11.out, HD11.out, HLE4.out, HLW4.out, fun i hi o' ho' => ?_, HS11.out⟩
                  by_cases hij : i = j
                  · subst hij
                    have := HJ.out.symm.trans ho'
                    cases this
                    exact HM2.out
                  · exact HMS.out i (by omega) o' ho'
                case measure => simp [intOf]; have := HLT3.out; omega
              · have q1 : ((x : Int) != 0) = true := by simpa using hx0
                obtain ⟨p', hfp, hsm, hall⟩ := tr_hit hL HOK.out HML.out HDI1.out HL11.out.st.dg.ok HXL.out hx0 HVX.out HKD.out
                subst hfp
                have HTN := Lib.hid (HTI.out.next HC0.out HML.out HMV.out (words_of HJ.out) (show p = p' + prcN o.word from by have h1 := HFR.out; omega) hsm hall)
                have HPP := Lib.hid (show p' < p from by have h1 := HFR.out; have h2 := HPR.out; unfold prcN at h1; omega)
                have hx11 := HS11.out
                have hol : (intsP out).length ≤ 2000 := by have h1 := HIL.out; have h2 := HFW.out.1; omega
                have KA := (Keeps.refl (fun _ => False) w11).alloc (.cells #[.int .i64 (j : Int)] 3)
                clear HVX HKD hsm hall hx0
                go_wp2_with (at_builtin; refine wpList_append_lies _ rfl _ _ _ rfl w.heap.size 3 j0 _ 1 8 Tryz.underlying22 hj0 jz0 jz1 jz2 rfl (by omega) _ (intsP out).length ((intsP out).map (Value.int .i64)) (by rfl) (World.ownsRow.alloc (o := .cells #[.int .i64 (j : Int)] 3) HL11.out.row) ⟨w11.heap.size, 0, none⟩ 1 1 [.int .i64 (j : Int)] (by rfl) (by rfl) ?hnews ?hone (by omega) (by unfold maxLen; omega) (by omega) (by simp; omega) (w11.heap.size + 1) (by simp) ?_)
                case hnews => exact World.news_of_block (cs := #[.int .i64 (j : Int)]) (t := 3) (fr := (0, 0)) (heap_alloc_new _ _)
                case hone => simp [Value.oneCell']
                intro g cap2 w12 hown hgrow hat hlt12
                have e1 : intsP (out ++ [j]) = intsP out ++ [(j : Int)] := by simp [intsP]
                have HL12 := Lib.hid (LyS.grow (HL11.out.keeps0 KA) (steady_keeps hgrow) (ov' := .slice (some ⟨g, 0, none⟩) ((intsP out).length + 1) cap2) (out' := intsP (out ++ [j])) (by rw [e1, List.length_append, List.map_append]; exact hown) (fun k hk => by cases hk; exact hat.imp (fun h => h) (fun h => by simp; omega)))
                have HD12 := Lib.hid (DmS.keeps (HD11.out.keeps0 KA) (steady_keeps hgrow) (fun e => by have h1 := (World.ownsRow.lt HL11.out.row db e).1; have h2 := HDB.out; omega))
                have HS12 := Lib.hid (show w.heap.size ≤ w12.heap.size from by have h1 := (steady_keeps hgrow).size; simp at h1; omega)
                clear hown hgrow hat hlt12 KA hx11 hol e1
                go_wp2_with fail
                go_roundw
                case rel =>
                  refine ⟨x, p', out ++ [j], N4, G4, rfl, rfl, HL12.out, HD12.out, HDI1.out.le HL6.out.st.dg.ok HLE4.out, HXL.out, HTN.out, ?_, HS12.out⟩
                  rw [List.length_append, List.length_singleton]
                  have h1 := HLW4.out; have h2 := HLW1.out; have h3 := HLT3.out
                  omega
                case measure => simp [intOf]; have := HPP.out; omega
          · exfalso
            obtain ⟨x, i, p', op, g1, g2, g3, g4, g5⟩ := (HTI.out.pd m HML.out HMV.out).prev HC0.out HPZ.out
            obtain ⟨o, g6, rfl⟩ := words_at g2
            have hil := (List.getElem?_eq_some_iff.1 g6).1
            exact HMS.out i (by omega) o g6 x p' g1 g3 g4 g5

end Go.Proofs.YtjcgkmodmjckjaaGreat

namespace Go.Proofs.YtjcgkmodmjckjaaGreat.V
open Go.RowKit

structure Ent where
  blk : Nat
  item : Int
  key : Int
  time : Int

def Ent.ptr (e : Ent) : Value := .pointer (some ⟨e.blk, 0, none⟩)

def lessE (a b : Ent) : Bool := decide (a.key < b.key) || (a.key == b.key && decide (a.time < b.time))

/-- The slice v of entries reads as L in w. -/
structure HRep (w : World) (v : Value) (L : List Ent) : Prop where
  row : w.ownsRow 0 118 1 v L.length (L.map Ent.ptr)
  ent : ∀ (i : Nat) (e : Ent), L[i]? = some e → w.heap[e.blk]? = some (.cells #[.int .i64 e.item, .int .i64 e.key, .int .i64 e.time, .int .i64 (i : Int)] 121 (0, 0))
  small : L.length ≤ 1000000

theorem HRep.form {w : World} {v : Value} {L : List Ent} (h : HRep w v L) (hn : 0 < L.length) :
    ∃ H cap cur, v = .slice (some ⟨H, 0, none⟩) L.length cap ∧ w.heap[H]? = some (.cells cur 118 (0, 0)) ∧ cur.size = cap ∧ L.length ≤ cap ∧ ∀ (i : Nat) (e : Ent), L[i]? = some e → cur[i]? = some e.ptr := by
  rcases h.row.2 with ⟨_, h0⟩ | ⟨g, cap, cur, hv, _, hg, hn, hm, hs, ht⟩
  · omega
  · refine ⟨g, cap, cur, hv, hg, by omega, hn, fun i e he => ?_⟩
    have hi : i < L.length := (List.getElem?_eq_some_iff.1 he).1
    have : (cur.toList.take (L.length * 1))[i]? = some e.ptr := by rw [ht, List.getElem?_map, he]; rfl
    rw [List.getElem?_take, if_pos (by omega)] at this
    simpa using this

theorem HRep.cell {w : World} {v : Value} {L : List Ent} (h : HRep w v L) {H cap : Nat} (hv : v = .slice (some ⟨H, 0, none⟩) L.length cap) {i : Nat} {e : Ent} (hi : L[i]? = some e) :
    w.cell? ⟨H, i, none⟩ = some (.pointer (some ⟨e.blk, 0, none⟩)) := by
  have hl : i < L.length := (List.getElem?_eq_some_iff.1 hi).1
  obtain ⟨H', cap', cur, hv', hb, hs, hc, hcur⟩ := h.form (by omega)
  rw [hv] at hv'
  simp only [Value.slice.injEq, Option.some.injEq, Addr.mk.injEq] at hv'
  obtain ⟨⟨rfl, _⟩, _⟩ := hv'
  rw [cell_of_blk hb, hcur i e hi]; rfl

theorem HRep.e1 {w : World} {v : Value} {L : List Ent} (h : HRep w v L) {i : Nat} {e : Ent} (hi : L[i]? = some e) : w.cell? ⟨e.blk, 1, none⟩ = some (.int .i64 e.key) := by rw [cell_of_blk (h.ent i e hi)]; rfl
theorem HRep.e2 {w : World} {v : Value} {L : List Ent} (h : HRep w v L) {i : Nat} {e : Ent} (hi : L[i]? = some e) : w.cell? ⟨e.blk, 2, none⟩ = some (.int .i64 e.time) := by rw [cell_of_blk (h.ent i e hi)]; rfl
theorem HRep.e3 {w : World} {v : Value} {L : List Ent} (h : HRep w v L) {i : Nat} {e : Ent} (hi : L[i]? = some e) : w.cell? ⟨e.blk, 3, none⟩ = some (.int .i64 (i : Int)) := by rw [cell_of_blk (h.ent i e hi)]; rfl

set_option maxRecDepth 100000 in
set_option maxHeartbeats 1000000 in
theorem less_any (w : World) (v : Value) (L : List Ent) (h : HRep w v L) (i k : Nat) (ei ek : Ent) (hi : L[i]? = some ei) (hk : L[k]? = some ek) :
    Calls Tryz.prog 192 #[v, .int .i64 (i : Int), .int .i64 (k : Int)] w fun e w' => e = .returned (.bool (lessE ei ek)) ∧ ∃ n, w' = w.drewN n := by
  have li : i < L.length := (List.getElem?_eq_some_iff.1 hi).1
  have lk : k < L.length := (List.getElem?_eq_some_iff.1 hk).1
  have hsm := h.small
  obtain ⟨H, cap, cur, hv, -, -, -, -⟩ := h.form (by omega)
  have ci := h.cell hv hi
  have ck := h.cell hv hk
  have ci1 := h.e1 hi
  have ck1 := h.e1 hk
  have ci2 := h.e2 hi
  have ck2 := h.e2 hk
  subst hv
  clear h hi hk
  have i0 : (0 : Int) ≤ (i : Int) := by omega
  have k0 : (0 : Int) ≤ (k : Int) := by omega
  have il : (i : Int) < (L.length : Int) := by omega
  have kl : (k : Int) < (L.length : Int) := by omega
  by_cases h1 : ei.key < ek.key
  · have hr : lessE ei ek = true := by simp [lessE, h1]
    have HR := Lib.hid hr; clear hr
    have h1' : decide (ei.key < ek.key) = true := by simpa using h1
    go_enter Tryz.func192, Tryz.ntmps192
    go_wp2
    go_quiet (fail)
    go_wp2
    go_ret
    exact ⟨congrArg (fun b => Ending.returned (Value.bool b)) HR.out.symm, nq, rfl⟩
  · by_cases h2 : ei.key = ek.key
    · have hr : lessE ei ek = decide (ei.time < ek.time) := by simp [lessE, h2]
      have HR := Lib.hid hr; clear hr
      have h1' : decide (ei.key < ek.key) = false := by simpa using h1
      have h2' : (ei.key == ek.key) = true := by simpa using h2
      have H2 := Lib.hid h2; clear h2
      go_enter Tryz.func192, Tryz.ntmps192
      go_wp2
      go_quiet (fail)
      go_wp2
      go_ret
      exact ⟨congrArg (fun b => Ending.returned (Value.bool b)) HR.out.symm, nq, rfl⟩
    · have hr : lessE ei ek = false := by simp [lessE, h1, h2]
      have HR := Lib.hid hr; clear hr
      have h1' : decide (ei.key < ek.key) = false := by simpa using h1
      have h2' : (ei.key == ek.key) = false := by simpa using h2
      go_enter Tryz.func192, Tryz.ntmps192
      go_wp2
      go_quiet (fail)
      go_wp2
      go_ret
      exact ⟨congrArg (fun b => Ending.returned (Value.bool b)) HR.out.symm, nq, rfl⟩

/-! ### Swap -/
def swp (L : List Ent) (i k : Nat) : List Ent :=
  match L[i]?, L[k]? with
  | some a, some b => (L.set i b).set k a
  | _, _ => L

theorem swp_eq {L : List Ent} {i k : Nat} {a b : Ent} (hi : L[i]? = some a) (hk : L[k]? = some b) : swp L i k = (L.set i b).set k a := by simp [swp, hi, hk]

theorem length_swp (L : List Ent) (i k : Nat) : (swp L i k).length = L.length := by
  unfold swp; split <;> simp

theorem get_swp {L : List Ent} {i k : Nat} {a b : Ent} (hi : L[i]? = some a) (hk : L[k]? = some b) (j : Nat) :
    (swp L i k)[j]? = if j = k then some a else if j = i then some b else L[j]? := by
  have li : i < L.length := (List.getElem?_eq_some_iff.1 hi).1
  have lk : k < L.length := (List.getElem?_eq_some_iff.1 hk).1
  rw [swp_eq hi hk, List.getElem?_set]
  by_cases h : k = j
  · subst h; simp [lk]
  · rw [if_neg h, if_neg (fun e => h e.symm), List.getElem?_set]
    by_cases h' : i = j
    · subst h'; simp [li]
    · rw [if_neg h', if_neg (fun e => h' e.symm)]

theorem swp_self {L : List Ent} {i : Nat} {a : Ent} (hi : L[i]? = some a) : swp L i i = L := by
  apply List.ext_getElem?
  intro j
  rw [get_swp hi hi]
  by_cases h : j = i
  · subst h; simp [hi]
  · simp [h]

def hfoot (v : Value) (L : List Ent) (b : Nat) : Prop := v.ownBlock = some b ∨ ∃ e ∈ L, e.blk = b

theorem mem_swp {L : List Ent} {i k : Nat} {e : Ent} : e ∈ swp L i k → e ∈ L := by
  intro h
  cases hi : L[i]? with
  | none => simpa [swp, hi] using h
  | some a =>
    cases hk : L[k]? with
    | none => simpa [swp, hi, hk] using h
    | some b =>
      obtain ⟨j, hj⟩ := List.mem_iff_getElem?.1 h
      rw [get_swp hi hk] at hj
      split at hj
      · exact (Option.some.inj hj) ▸ List.mem_of_getElem? hi
      · split at hj
        · exact (Option.some.inj hj) ▸ List.mem_of_getElem? hk
        · exact List.mem_of_getElem? hj

theorem HRep.inj {w : World} {v : Value} {L : List Ent} (h : HRep w v L) {i k : Nat} {a b : Ent} (hi : L[i]? = some a) (hk : L[k]? = some b) (e : a.blk = b.blk) : i = k := by
  have x := h.ent i a hi
  rw [e, h.ent k b hk] at x
  simp at x
  omega

theorem HRep.ne_row {w : World} {v : Value} {L : List Ent} (h : HRep w v L) {i : Nat} {a : Ent} (hi : L[i]? = some a) {g : Nat} (hg : v.ownBlock = some g) : a.blk ≠ g := by
  have hl : i < L.length := (List.getElem?_eq_some_iff.1 hi).1
  obtain ⟨H, cap, cur, hv, hb, _⟩ := h.form (by omega)
  rw [hv] at hg
  obtain rfl : H = g := by simpa [Value.ownBlock] using hg
  rintro rfl
  rw [h.ent i a hi] at hb
  simp at hb

theorem HRep.lt {w : World} {v : Value} {L : List Ent} (h : HRep w v L) {b : Nat} (hb : hfoot v L b) : b < w.heap.size := by
  rcases hb with hb | ⟨e, he, rfl⟩
  · exact (h.row.lt b hb).2
  · obtain ⟨j, hj⟩ := List.mem_iff_getElem?.1 he
    exact lt_of_heap (h.ent j e hj)

theorem HRep.keeps {S : Nat → Prop} {w w' : World} {v : Value} {L : List Ent} (h : HRep w v L) (hk : Keeps S w w') (hs : ∀ b, hfoot v L b → ¬ S b) : HRep w' v L :=
  ⟨hk.ownsRow h.row (fun b hb => hs b (.inl hb)), fun i e hi => hk.heap (h.ent i e hi) (hs _ (.inr ⟨e, List.mem_of_getElem? hi, rfl⟩)), h.small⟩

theorem HRep.drewN {w : World} {v : Value} {L : List Ent} (h : HRep w v L) (n : Nat) : HRep (w.drewN n) v L := ⟨h.row, h.ent, h.small⟩

structure SwapPost (w : World) (v : Value) (L : List Ent) (i k : Nat) (w' : World) : Prop where
  rep : HRep w' v (swp L i k)
  keeps : Keeps (hfoot v L) w w'

theorem swap_post {w : World} {H n cap : Nat} {L : List Ent} (h : HRep w (.slice (some ⟨H, 0, none⟩) n cap) L) {i k : Nat} {ei ek : Ent} (hi : L[i]? = some ei) (hk : L[k]? = some ek) (hne : i ≠ k) :
    SwapPost w (.slice (some ⟨H, 0, none⟩) n cap) L i k
      ((((w.setCell ⟨H, i, none⟩ (.pointer (some ⟨ek.blk, 0, none⟩))).setCell ⟨H, k, none⟩ (.pointer (some ⟨ei.blk, 0, none⟩))).setCell ⟨ek.blk, 3, none⟩ (.int .i64 (i : Int))).setCell ⟨ei.blk, 3, none⟩ (.int .i64 (k : Int))).drew.drew := by
  have li : i < L.length := (List.getElem?_eq_some_iff.1 hi).1
  have lk : k < L.length := (List.getElem?_eq_some_iff.1 hk).1
  have nH : ∀ (j : Nat) (e : Ent), L[j]? = some e → e.blk ≠ H := fun j e hj => h.ne_row hj rfl
  have hn : n = L.length := by
    have := h.row.2
    rcases this with ⟨hv, _⟩ | ⟨_, _, _, hv, _⟩ <;> simp at hv
    omega
  subst hn
  refine ⟨⟨?_, ?_, ?_⟩, ?_⟩
  · have r1 := h.row.stored i (.pointer (some ⟨ek.blk, 0, none⟩))
    have r2 := r1.1.stored k (.pointer (some ⟨ei.blk, 0, none⟩))
    have r3 : ((((w.setCell ⟨H, i, none⟩ (.pointer (some ⟨ek.blk, 0, none⟩))).setCell ⟨H, k, none⟩ (.pointer (some ⟨ei.blk, 0, none⟩))).setCell ⟨ek.blk, 3, none⟩ (.int .i64 (i : Int))).setCell ⟨ei.blk, 3, none⟩ (.int .i64 (k : Int))).ownsRow
        0 118 1 (.slice (some ⟨H, 0, none⟩) L.length cap) L.length (((L.map Ent.ptr).set i (.pointer (some ⟨ek.blk, 0, none⟩))).set k (.pointer (some ⟨ei.blk, 0, none⟩))) := by
      refine Keeps.ownsRow (S := fun b => b ≠ H) ?_ r2.1 ?_
      · exact ((Keeps.refl _ _).setCell (.inl (nH k ek hk)) _).setCell (.inl (nH i ei hi)) _
      · intro g hg; simp [Value.ownBlock] at hg; simp [hg]
    have e1 : (swp L i k).map Ent.ptr = ((L.map Ent.ptr).set i (.pointer (some ⟨ek.blk, 0, none⟩))).set k (.pointer (some ⟨ei.blk, 0, none⟩)) := by
      rw [swp_eq hi hk, List.map_set, List.map_set]; rfl
    rw [e1, length_swp]
    exact r3
  · intro j e hj
    rw [get_swp hi hk] at hj
    simp only [heap_drew]
    by_cases hjk : j = k
    · subst hjk
      rw [if_pos rfl] at hj
      obtain rfl := Option.some.inj hj
      have hx : (((w.setCell ⟨H, i, none⟩ (.pointer (some ⟨ek.blk, 0, none⟩))).setCell ⟨H, j, none⟩ (.pointer (some ⟨ei.blk, 0, none⟩))).setCell ⟨ek.blk, 3, none⟩ (.int .i64 (i : Int))).heap[ei.blk]? = some (.cells #[.int .i64 ei.item, .int .i64 ei.key, .int .i64 ei.time, .int .i64 (i : Int)] 121 (0, 0)) := by
        rw [blk_set_ne (fun e => hne (h.inj hi hk e)), blk_set_ne (nH i ei hi), blk_set_ne (nH i ei hi)]
        exact h.ent i ei hi
      rw [blk_set_same hx]; rfl
    · rw [if_neg hjk] at hj
      by_cases hji : j = i
      · subst hji
        rw [if_pos rfl] at hj
        obtain rfl := Option.some.inj hj
        have hx : ((w.setCell ⟨H, j, none⟩ (.pointer (some ⟨ek.blk, 0, none⟩))).setCell ⟨H, k, none⟩ (.pointer (some ⟨ei.blk, 0, none⟩))).heap[ek.blk]? = some (.cells #[.int .i64 ek.item, .int .i64 ek.key, .int .i64 ek.time, .int .i64 (k : Int)] 121 (0, 0)) := by
          rw [blk_set_ne (nH k ek hk), blk_set_ne (nH k ek hk)]
          exact h.ent k ek hk
        rw [blk_set_ne (fun e => hne (h.inj hi hk e.symm)), blk_set_same hx]; rfl
      · rw [if_neg hji] at hj
        rw [blk_set_ne (fun e => hji (h.inj hj hi e)), blk_set_ne (fun e => hjk (h.inj hj hk e)), blk_set_ne (nH j e hj), blk_set_ne (nH j e hj)]
        exact h.ent j e hj
  · rw [length_swp]; exact h.small
  · refine (((((Keeps.refl _ _).setCell (.inl ?_) _).setCell (.inl ?_) _).setCell (.inl ?_) _).setCell (.inl ?_) _).drew.drew
    · exact .inl rfl
    · exact .inl rfl
    · exact .inr ⟨ek, List.mem_of_getElem? hk, rfl⟩
    · exact .inr ⟨ei, List.mem_of_getElem? hi, rfl⟩

set_option maxRecDepth 100000 in
set_option maxHeartbeats 1000000 in
theorem swap_ne (w : World) (v : Value) (L : List Ent) (h : HRep w v L) (i k : Nat) (ei ek : Ent) (hi : L[i]? = some ei) (hk : L[k]? = some ek) (hne : i ≠ k) :
    Calls Tryz.prog 193 #[v, .int .i64 (i : Int), .int .i64 (k : Int)] w fun e w' => e = .returned (.tuple #[]) ∧ SwapPost w v L i k w' := by
  have li : i < L.length := (List.getElem?_eq_some_iff.1 hi).1
  have lk : k < L.length := (List.getElem?_eq_some_iff.1 hk).1
  have hsm := h.small
  obtain ⟨H, cap, cur, hv, hH, -, -, -⟩ := h.form (by omega)
  have ci := h.cell hv hi
  have ck := h.cell hv hk
  have ci3 := h.e3 hi
  have ck3 := h.e3 hk
  have fi : w.frozen? ⟨H, i, none⟩ = false := frozen_of_blk hH
  have fk : w.frozen? ⟨H, k, none⟩ = false := frozen_of_blk hH
  have fi3 : w.frozen? ⟨ei.blk, 3, none⟩ = false := frozen_of_blk (h.ent i ei hi)
  have fk3 : w.frozen? ⟨ek.blk, 3, none⟩ = false := frozen_of_blk (h.ent k ek hk)
  have n1 : ¬ H = ei.blk := by rintro rfl; rw [h.ent i ei hi] at hH; simp at hH
  have n2 : ¬ H = ek.blk := by rintro rfl; rw [h.ent k ek hk] at hH; simp at hH
  have n3 : ¬ ei.blk = ek.blk := fun e => hne (h.inj hi hk e)
  subst hv
  have HP := Lib.hid (swap_post h hi hk hne)
  clear h hi hk hH
  have i0 : (0 : Int) ≤ (i : Int) := by omega
  have k0 : (0 : Int) ≤ (k : Int) := by omega
  have il : (i : Int) < (L.length : Int) := by omega
  have kl : (k : Int) < (L.length : Int) := by omega
  have hne' : ¬ k = i := fun e => hne e.symm
  have n1' : ¬ ei.blk = H := fun e => n1 e.symm
  have n2' : ¬ ek.blk = H := fun e => n2 e.symm
  have n3' : ¬ ek.blk = ei.blk := fun e => n3 e.symm
  go_enter Tryz.func193, Tryz.ntmps193
  go_wp2
  go_region
  go_wp2
  go_region
  go_end0
  exact ⟨rfl, HP.out⟩

set_option maxRecDepth 100000 in
set_option maxHeartbeats 1000000 in
theorem swap_eq (w : World) (v : Value) (L : List Ent) (h : HRep w v L) (i : Nat) (ei : Ent) (hi : L[i]? = some ei) :
    Calls Tryz.prog 193 #[v, .int .i64 (i : Int), .int .i64 (i : Int)] w fun e w' => e = .returned (.tuple #[]) ∧ SwapPost w v L i i w' := by
  have li : i < L.length := (List.getElem?_eq_some_iff.1 hi).1
  have hsm := h.small
  obtain ⟨H, cap, cur, hv, hH, -, -, -⟩ := h.form (by omega)
  have ci := h.cell hv hi
  have ci3 := h.e3 hi
  have fi : w.frozen? ⟨H, i, none⟩ = false := frozen_of_blk hH
  have fi3 : w.frozen? ⟨ei.blk, 3, none⟩ = false := frozen_of_blk (h.ent i ei hi)
  have n1 : ¬ H = ei.blk := by rintro rfl; rw [h.ent i ei hi] at hH; simp at hH
  subst hv
  have HP : Hid (SwapPost w (.slice (some ⟨H, 0, none⟩) L.length cap) L i i ((((w.setCell ⟨H, i, none⟩ (.pointer (some ⟨ei.blk, 0, none⟩))).setCell ⟨H, i, none⟩ (.pointer (some ⟨ei.blk, 0, none⟩))).setCell ⟨ei.blk, 3, none⟩ (.int .i64 (i : Int))).setCell ⟨ei.blk, 3, none⟩ (.int .i64 (i : Int))).drew.drew) := by
    rw [setCell_id ci, setCell_id ci, setCell_id ci3, setCell_id ci3]
    exact ⟨by rw [swp_self hi]; exact h.drewN 2, (Keeps.refl _ _).drewN 2⟩
  have n1' : ¬ ei.blk = H := fun e => n1 e.symm
  have i0 : (0 : Int) ≤ (i : Int) := by omega
  have il : (i : Int) < (L.length : Int) := by omega
  clear h hi hH
  go_enter Tryz.func193, Tryz.ntmps193
  go_wp2
  go_region
  go_wp2
  go_region
  go_end0
  exact ⟨rfl, HP.out⟩

end Go.Proofs.YtjcgkmodmjckjaaGreat.V
