/- Costs in plain words: two solutions agree; the search that corrects costs. breadth.limited and breadth.Plan. space.Costs. The reference's Less and States; the laws' lists. strips.StateFault, breadth.Reach. The example task of the laws; breadth's example. breadth: the law that Plan is the reference's. space.Distances, space.Optimal. No condition beyond what each theorem says. -/
import Derived.Test.YtkjmgafnaddhkaaGreatI3
import Derived.Test.YtkjmgafnaddhkaaGreatI1
import Derived.Test.YtkjmgafnaddhkaaGreatI4
import Derived.Sort.LoopGhostIn
import Derived.IntWalk

namespace Go.Proofs.YtkjmgafnaddhkaaGreat

theorem CostOk.down {A : List Arc} {acc : List Bool} {d : List Int} (h : CostOk A acc d) (hA : ∀ a ∈ A, 0 ≤ a.cost) {i : Nat} {c : Int} (hd : Down A acc i c) : 0 ≤ c ∧ (c < bigC → ∃ x, d[i]? = some x ∧ x ≤ c) := by
  induction hd with
  | nil hi => exact ⟨Int.le_refl _, fun _ => ⟨0, h.zero _ hi, Int.le_refl _⟩⟩
  | cons ha _ ih =>
    have hc := hA _ ha
    refine ⟨by omega, fun hb => ?_⟩
    obtain ⟨y, hy, hyc⟩ := ih.2 (by omega)
    obtain ⟨x, hx, hxy⟩ := h.relax _ ha y hy (by omega)
    exact ⟨x, hx, by omega⟩

theorem CostOk.le {A : List Arc} {acc : List Bool} {d d' : List Int} (h : CostOk A acc d) (h' : CostOk A acc d') (hA : ∀ a ∈ A, 0 ≤ a.cost) (i : Nat) (x y : Int) (hx : d[i]? = some x) (hy : d'[i]? = some y) : x ≤ y := by
  by_cases hb : y < bigC
  · obtain ⟨x', hx', hle⟩ := (h.down hA (h'.real i y hy hb)).2 hb
    rw [hx] at hx'; cases hx'; exact hle
  · have := (h.lo x (List.mem_of_getElem? hx)).2; omega

theorem CostOk.unique {A : List Arc} {acc : List Bool} {d d' : List Int} (h : CostOk A acc d) (h' : CostOk A acc d') (hA : ∀ a ∈ A, 0 ≤ a.cost) : d = d' := by
  apply List.ext_getElem?
  intro i
  cases hx : d[i]? with
  | none =>
    rw [List.getElem?_eq_none_iff] at hx
    symm; rw [List.getElem?_eq_none_iff, h'.len, ← h.len]; exact hx
  | some x =>
    have hl := (List.getElem?_eq_some_iff.1 hx).1
    have hl' : i < d'.length := by rw [h'.len, ← h.len]; exact hl
    obtain ⟨y, hy⟩ : ∃ y, d'[i]? = some y := ⟨_, List.getElem?_eq_getElem hl'⟩
    rw [hy, Int.le_antisymm (h.le h' hA i x y hx hy) (h'.le h hA i y x hy hx)]

/-! ### a map of costs -/
def upd (D : Nat → Int) (x : Nat) (k : Int) : Nat → Int := fun y => if y = x then k else D y
theorem upd_same (D : Nat → Int) (x : Nat) (k : Int) : upd D x k x = k := if_pos rfl
theorem upd_ne (D : Nat → Int) {x y : Nat} (k : Int) (h : y ≠ x) : upd D x k y = D y := if_neg h
theorem map_upd {L : List Nat} (hn : L.Nodup) (D : Nat → Int) {i x : Nat} (hi : L[i]? = some x) (k : Int) : (L.map D).set i k = L.map (upd D x k) := by
  apply List.ext_getElem?
  intro j
  have hl := (List.getElem?_eq_some_iff.1 hi).1
  rw [getElem?_setS, List.getElem?_map, List.getElem?_map, List.length_map]
  by_cases hij : i = j
  · subst hij; rw [if_pos ⟨rfl, hl⟩, hi]; simp [upd_same]
  · rw [if_neg (by simp [hij])]
    cases hj : L[j]? with
    | none => rfl
    | some y =>
      have : y ≠ x := by rintro rfl; exact hij (nodup_ix hn hi hj)
      simp [upd_ne D k this]

def outV (L : List Nat) (D : Nat → Int) : List (Int × Value) := L.map fun x : Nat => ((x : Int), Value.int .i64 (D x))
theorem outV_nodup {L : List Nat} (hn : L.Nodup) (D : Nat → Int) : ((outV L D).map Prod.fst).Nodup := by
  unfold outV
  rw [List.map_map]
  unfold List.Nodup at hn ⊢
  rw [List.pairwise_map]
  exact hn.imp (fun {a b} h e => h (by have e' : ((a : Nat) : Int) = (b : Int) := e; omega))
theorem outV_get {L : List Nat} (D : Nat → Int) {i x : Nat} (hi : L[i]? = some x) : (outV L D)[i]? = some ((x : Int), .int .i64 (D x)) := by
  unfold outV; rw [List.getElem?_map, hi]; rfl
theorem outV_mem {L : List Nat} (D : Nat → Int) {x : Nat} (hx : x ∈ L) : ((x : Int), Value.int .i64 (D x)) ∈ outV L D := List.mem_map.2 ⟨x, hx, rfl⟩
theorem outV_miss {L : List Nat} (D : Nat → Int) {x : Nat} (hx : x ∉ L) : ∀ p ∈ outV L D, p.1 ≠ (x : Int) := by
  intro p hp e
  obtain ⟨y, hy, rfl⟩ := List.mem_map.1 hp
  simp only [Int.natCast_inj] at e
  subst e; exact hx hy
theorem outV_set {L : List Nat} (hn : L.Nodup) (D : Nat → Int) {i x : Nat} (hi : L[i]? = some x) (k : Int) : (outV L D).set i ((x : Int), .int .i64 k) = outV L (upd D x k) := by
  apply List.ext_getElem?
  intro j
  have hl := (List.getElem?_eq_some_iff.1 hi).1
  unfold outV
  rw [getElem?_setS, List.getElem?_map, List.getElem?_map, List.length_map]
  by_cases hij : i = j
  · subst hij; rw [if_pos ⟨rfl, hl⟩, hi]; simp [upd_same]
  · rw [if_neg (by simp [hij])]
    cases hj : L[j]? with
    | none => rfl
    | some y =>
      have : y ≠ x := by rintro rfl; exact hij (nodup_ix hn hi hj)
      simp [upd_ne D k this]
theorem outV_snoc (L : List Nat) (D : Nat → Int) (x : Nat) : outV (L ++ [x]) D = outV L D ++ [((x : Int), .int .i64 (D x))] := by unfold outV; simp
theorem outV_congr {L : List Nat} {D D' : Nat → Int} (h : ∀ x ∈ L, D x = D' x) : outV L D = outV L D' := by
  unfold outV
  apply List.map_congr_left
  intro x hx; rw [h x hx]

/-! ### the queue as a list of items and keys -/
def dropA (A : List (Int × Int)) (x : Int) : List (Int × Int) := A.filter fun p => p.1 != x
def putA (A : List (Int × Int)) (x k : Int) : List (Int × Int) := A.filter (fun p => p.1 != x) ++ [(x, k)]
theorem mem_dropA {A : List (Int × Int)} {x : Int} {p : Int × Int} : p ∈ dropA A x ↔ p ∈ A ∧ p.1 ≠ x := by unfold dropA; simp
theorem mem_putA {A : List (Int × Int)} {x k : Int} {p : Int × Int} : p ∈ putA A x k ↔ (p ∈ A ∧ p.1 ≠ x) ∨ p = (x, k) := by unfold putA; simp
theorem putA_len (A : List (Int × Int)) (x k : Int) : (putA A x k).length ≤ A.length + 1 := by
  unfold putA; rw [List.length_append]; have := List.length_filter_le (fun p : Int × Int => p.1 != x) A; simp; omega
theorem dropA_len {A : List (Int × Int)} {x k : Int} (h : (x, k) ∈ A) : (dropA A x).length < A.length := by
  unfold dropA
  refine Nat.lt_of_le_of_ne (List.length_filter_le _ _) (fun e => ?_)
  have := List.length_filter_eq_length_iff.1 e (x, k) h
  simp at this

structure LInv (ops : List Wop) (L : List Nat) (acc : Nat → Bool) (D : Nat → Int) (A : List (Int × Int)) (s : Nat) (rest : List (Nat × Int)) : Prop where
  inv : CostInv (arcs ops L) (L.map acc) (L.map D)
  key : ∀ p ∈ A, ∃ x : Nat, x ∈ L ∧ p = ((x : Int), D x) ∧ D x < bigC
  pend : ∀ x ∈ L, ∀ o ∈ ops, o.can x = true → D (o.next x) < bigC → D x ≤ D (o.next x) + o.cost ∨ ((o.next x : Nat) : Int) ∈ A.map Prod.fst ∨ (o.next x = s ∧ (x, o.cost) ∈ rest)

theorem LInv.few {ops : List Wop} {L : List Nat} {acc : Nat → Bool} {D : Nat → Int} {A : List (Int × Int)} {s : Nat} {rest : List (Nat × Int)} (h : LInv ops L acc D A s rest) (hn : (A.map Prod.fst).Nodup) : A.length ≤ L.length := by
  have h1 : (A.map fun p => p.1.toNat).Nodup := by
    unfold List.Nodup at hn ⊢
    rw [List.pairwise_map] at hn ⊢
    refine hn.imp_of_mem (fun {a b} ha hb hab e => hab ?_)
    obtain ⟨x, _, rfl, _⟩ := h.key a ha
    obtain ⟨y, _, rfl, _⟩ := h.key b hb
    have e' : x = y := by simpa using e
    show ((x : Nat) : Int) = (y : Int)
    omega
  have h2 := nodup_sub_length h1 (b := L) (fun x hx => by
    obtain ⟨p, hp, rfl⟩ := List.mem_map.1 hx
    obtain ⟨y, hy, rfl, _⟩ := h.key p hp
    simpa using hy)
  simpa using h2

theorem LInv.take {ops : List Wop} {L : List Nat} {acc : Nat → Bool} {D : Nat → Int} {A : List (Int × Int)} {s0 s : Nat} {back : List (Nat × Int)} (h : LInv ops L acc D A s0 [])
    (hb : ∀ x ∈ L, ∀ o ∈ ops, o.can x = true → o.next x = s → (x, o.cost) ∈ back) : LInv ops L acc D (dropA A s) s back := by
  refine ⟨h.inv, fun p hp => h.key p (mem_dropA.1 hp).1, fun x hx o ho hc hd => ?_⟩
  rcases h.pend x hx o ho hc hd with h1 | h1 | ⟨_, h1⟩
  · exact .inl h1
  · by_cases e : o.next x = s
    · exact .inr (.inr ⟨e, hb x hx o ho hc e⟩)
    · refine .inr (.inl ?_)
      obtain ⟨p, hp, he⟩ := List.mem_map.1 h1
      exact List.mem_map.2 ⟨p, mem_dropA.2 ⟨hp, by rw [he]; intro e2; exact e (by omega)⟩, he⟩
  · cases h1

theorem LInv.skip {ops : List Wop} {L : List Nat} {acc : Nat → Bool} {D : Nat → Int} {A : List (Int × Int)} {s x : Nat} {c : Int} {r : List (Nat × Int)} (h : LInv ops L acc D A s ((x, c) :: r)) (hd : D x ≤ D s + c) : LInv ops L acc D A s r := by
  refine ⟨h.inv, h.key, fun y hy o ho hc hb => ?_⟩
  rcases h.pend y hy o ho hc hb with h1 | h1 | ⟨e, h1⟩
  · exact .inl h1
  · exact .inr (.inl h1)
  · rcases List.mem_cons.1 h1 with h1 | h1
    · simp only [Prod.mk.injEq] at h1
      refine .inl ?_
      rw [e, h1.1, h1.2]; exact hd
    · exact .inr (.inr ⟨e, h1⟩)

theorem LInv.turn {ops : List Wop} {L : List Nat} (hn : L.Nodup) {acc : Nat → Bool} {D : Nat → Int} {A : List (Int × Int)} {s x : Nat} {c : Int} {r : List (Nat × Int)} (h : LInv ops L acc D A s ((x, c) :: r))
    (hs : s ∈ L) (hx : x ∈ L) {o : Wop} (ho : o ∈ ops) (hc : o.can x = true) (hnx : o.next x = s) (hoc : o.cost = c) (hc0 : 0 ≤ c) (hb : D s < bigC) (hd : D s + c < D x) :
    LInv ops L acc (upd D x (D s + c)) (putA A x (D s + c)) s r ∧ weightC (L.map (upd D x (D s + c))) < weightC (L.map D) ∧ upd D x (D s + c) s = D s ∧ x ≠ s := by
  have hxs : s ≠ x := by rintro rfl; omega
  obtain ⟨i, hi⟩ := List.mem_iff_getElem?.1 hx
  obtain ⟨j, hj⟩ := List.mem_iff_getElem?.1 hs
  obtain ⟨k, hk⟩ := List.mem_iff_getElem?.1 ho
  have ha : (⟨i, j, k, c⟩ : Arc) ∈ arcs ops L := mem_arcs.2 ⟨x, o, hi, hk, hc, hoc.symm, by rw [hnx]; exact hj⟩
  have hst := h.inv.step ha hc0 (x := D x) (y := D s) (by rw [List.getElem?_map, hi]; rfl) (by rw [List.getElem?_map, hj]; rfl) hb hd
  simp only at hst
  rw [map_upd hn D hi] at hst
  have hD0 : 0 ≤ D s := (h.inv.lo (D s) (List.mem_map.2 ⟨s, hs, rfl⟩)).1
  have hDx : D x ≤ bigC := (h.inv.lo (D x) (List.mem_map.2 ⟨x, hx, rfl⟩)).2
  refine ⟨⟨hst.1, fun p hp => ?_, fun y hy o' ho' hc' hb' => ?_⟩, hst.2, upd_ne D _ hxs, fun e => hxs e.symm⟩
  · rcases mem_putA.1 hp with ⟨hp, hne⟩ | rfl
    · obtain ⟨y, hy, rfl, hyb⟩ := h.key p hp
      have : y ≠ x := by rintro rfl; exact hne rfl
      exact ⟨y, hy, by rw [upd_ne D _ this], by rw [upd_ne D _ this]; exact hyb⟩
    · exact ⟨x, hx, by rw [upd_same], by rw [upd_same]; omega⟩
  · by_cases hyx : o'.next y = x
    · refine .inr (.inl (List.mem_map.2 ⟨((x : Int), D s + c), mem_putA.2 (.inr rfl), by rw [hyx]⟩))
    · rw [upd_ne D _ hyx] at hb' ⊢
      have hle : upd D x (D s + c) y ≤ D y := by
        by_cases e : y = x
        · subst e; rw [upd_same]; omega
        · rw [upd_ne D _ e]; exact Int.le_refl _
      rcases h.pend y hy o' ho' hc' hb' with h1 | h1 | ⟨e, h1⟩
      · exact .inl (by omega)
      · obtain ⟨p, hp, he⟩ := List.mem_map.1 h1
        exact .inr (.inl (List.mem_map.2 ⟨p, mem_putA.2 (.inl ⟨hp, by rw [he]; intro e2; exact hyx (by omega)⟩), he⟩))
      · rcases List.mem_cons.1 h1 with h1 | h1
        · simp only [Prod.mk.injEq] at h1
          refine .inl ?_
          rw [e, h1.1, upd_same, h1.2]; exact Int.le_refl _
        · exact .inr (.inr ⟨e, h1⟩)

theorem LInv.done {ops : List Wop} {L : List Nat} {acc : Nat → Bool} {D : Nat → Int} {s : Nat} (h : LInv ops L acc D [] s []) : CostOk (arcs ops L) (L.map acc) (L.map D) := by
  refine { h.inv with relax := fun a ha y hy hb => ?_ }
  obtain ⟨x, o, h1, h2, h3, h4, h5⟩ := mem_arcs.1 ha
  rw [List.getElem?_map, h5] at hy
  simp only [Option.map_some, Option.some.injEq] at hy
  subst hy
  refine ⟨D x, by rw [List.getElem?_map, h1]; rfl, ?_⟩
  rcases h.pend x (List.mem_of_getElem? h1) o (List.mem_of_getElem? h2) h3 hb with h6 | h6 | ⟨_, h6⟩
  · rw [h4]; exact h6
  · simp at h6
  · cases h6

def start0 (acc : Nat → Bool) (x : Nat) : Int := if acc x = true then 0 else bigC
def queue0 (acc : Nat → Bool) (L : List Nat) : List (Int × Int) := (L.filter acc).map fun x : Nat => ((x : Int), 0)
theorem queue0_snoc (acc : Nat → Bool) (L : List Nat) (x : Nat) : queue0 acc (L ++ [x]) = queue0 acc L ++ (if acc x = true then [((x : Int), 0)] else []) := by
  unfold queue0
  rw [List.filter_append, List.map_append]
  by_cases h : acc x = true
  · rw [if_pos h]; simp [h]
  · rw [if_neg h]; simp [h]
theorem queue0_len (acc : Nat → Bool) (L : List Nat) : (queue0 acc L).length ≤ L.length := by unfold queue0; rw [List.length_map]; exact List.length_filter_le _ _
theorem queue0_miss (acc : Nat → Bool) {L : List Nat} {x : Nat} (hx : x ∉ L) : ∀ p ∈ queue0 acc L, p.1 ≠ (x : Int) := by
  intro p hp e
  obtain ⟨y, hy, rfl⟩ := List.mem_map.1 hp
  simp only [Int.natCast_inj] at e
  subst e; exact hx (List.mem_filter.1 hy).1
theorem LInv.start {ops : List Wop} {L : List Nat} (hs : Shut ops L) (acc : Nat → Bool) (s : Nat) : LInv ops L acc (start0 acc) (queue0 acc L) s [] := by
  have e : L.map (start0 acc) = costStart (L.map acc) := by unfold costStart start0; rw [List.map_map]; rfl
  refine ⟨by rw [e]; exact CostInv.start _ _, fun p hp => ?_, fun x hx o ho hc hb => ?_⟩
  · obtain ⟨x, hx, rfl⟩ := List.mem_map.1 hp
    have hx' := List.mem_filter.1 hx
    refine ⟨x, hx'.1, by unfold start0; rw [if_pos hx'.2], by unfold start0; rw [if_pos hx'.2]; decide⟩
  · refine .inr (.inl ?_)
    have hy := hs.2 x hx o ho hc
    by_cases ha : acc (o.next x) = true
    · exact List.mem_map.2 ⟨_, List.mem_map.2 ⟨o.next x, List.mem_filter.2 ⟨hy, ha⟩, rfl⟩, rfl⟩
    · unfold start0 at hb
      rw [if_neg ha] at hb; omega

/-- What is told at the end, as a fact on the list's costs. -/
theorem weightC_bound {d : List Int} (h : ∀ x ∈ d, 0 ≤ x ∧ x ≤ bigC) : (weightC d : Int) ≤ d.length * bigC := by
  induction d with
  | nil => simp [weightC]
  | cons x r ih =>
    have h1 := h x (List.mem_cons_self ..)
    have h2 := ih (fun y hy => h y (List.mem_cons_of_mem _ hy))
    unfold weightC at h2 ⊢
    simp only [List.map_cons, List.sum_cons, List.length_cons]
    have : ((x.toNat + (r.map Int.toNat).sum : Nat) : Int) = x + ((r.map Int.toNat).sum : Nat) := by omega
    rw [this, show ((r.length + 1 : Nat) : Int) * bigC = (r.length : Int) * bigC + bigC by rw [Int.natCast_add, Int.add_mul]; simp]
    omega

end Go.Proofs.YtkjmgafnaddhkaaGreat

/- A map whose values own rows apart from each other (m[k] = append(m[k], x)). Nothing here speaks of one program. -/
namespace Go.Proofs.YtkjmgafnaddhkaaGreat
open Go.RowKit

structure GEnt where
  key : Nat
  val : Value
  n : Nat
  cs : List Value

def gview (l : List GEnt) : List (Int × Value) := l.map fun p => ((p.key : Int), p.val)

structure GRows (B : Nat) (T : TypeId) (sz mb : Nat) (l : List GEnt) (F : Nat → Prop) (W : World) : Prop where
  map : IMap W mb .u32 (gview l)
  nd : (l.map GEnt.key).Nodup
  own : ∀ p ∈ l, W.ownsRow B T sz p.val p.n p.cs
  apart : ∀ (i j : Nat) p q, l[i]? = some p → l[j]? = some q → i ≠ j → ∀ k, p.val.ownBlock = some k → q.val.ownBlock ≠ some k
  fM : F mb
  fR : ∀ p ∈ l, ∀ k, p.val.ownBlock = some k → F k

theorem gview_nodup {l : List GEnt} (hn : (l.map GEnt.key).Nodup) : ((gview l).map Prod.fst).Nodup := by
  unfold gview
  rw [List.map_map]
  unfold List.Nodup at hn ⊢
  rw [List.pairwise_map] at hn ⊢
  exact hn.imp (fun {a b} h e => h (by have e' : ((a.key : Nat) : Int) = (b.key : Int) := e; omega))

/-- The map of the rows f at block mb, its blocks in F. -/
def GMap {α : Type} (B : Nat) (T : TypeId) (sz mb : Nat) (cell : α → List Value) (f : Nat → List α) (F : Nat → Prop) (W : World) : Prop :=
  ∃ l, GRows B T sz mb l F W ∧ (∀ p ∈ l, p.n = (f p.key).length ∧ p.cs = (f p.key).flatMap cell) ∧ ∀ y, y ∉ l.map GEnt.key → f y = []

section
variable {α : Type} {B : Nat} {T : TypeId} {sz mb : Nat} {cell : α → List Value} {f : Nat → List α} {F : Nat → Prop} {W : World}

theorem GMap.keeps {S : Nat → Prop} {W' : World} (h : GMap B T sz mb cell f F W) (hk : Keeps S W W') (hs : ∀ b, F b → ¬ S b) : GMap B T sz mb cell f F W' := by
  obtain ⟨l, h1, h2⟩ := h
  exact ⟨l, ⟨h1.map.keeps hk (hs _ h1.fM), h1.nd, fun p hp => hk.ownsRow (h1.own p hp) (fun k hk' => hs k (h1.fR p hp k hk')), h1.apart, h1.fM, h1.fR⟩, h2⟩

theorem GMap.mono {F' : Nat → Prop} (h : GMap B T sz mb cell f F W) (hf : ∀ b, b < W.heap.size → F b → F' b) : GMap B T sz mb cell f F' W := by
  obtain ⟨l, h1, h2⟩ := h
  exact ⟨l, { h1 with fM := hf _ h1.map.lt h1.fM, fR := fun p hp k hk => hf k ((h1.own p hp).lt k hk).2 (h1.fR p hp k hk) }, h2⟩

theorem GMap.fmap (h : GMap B T sz mb cell f F W) : F mb := by obtain ⟨l, h1, _⟩ := h; exact h1.fM
theorem GMap.lt (h : GMap B T sz mb cell f F W) : mb < W.heap.size := by obtain ⟨l, h1, _⟩ := h; exact h1.map.lt

theorem GMap.made (W0 : World) (B : Nat) (T : TypeId) (sz : Nat) (cell : α → List Value) : GMap B T sz W0.heap.size cell (fun _ => []) (fun b => b = W0.heap.size) (W0.alloc (.map #[] 0)) :=
  ⟨[], { map := IMap.made W0 .u32, nd := List.nodup_nil, own := fun p hp => (by cases hp), apart := fun i j p q hi => (by simp at hi), fM := rfl, fR := fun p hp => (by cases hp) }, fun p hp => (by cases hp), fun y _ => rfl⟩

/-- A look at a key. -/
theorem GMap.look (h : GMap B T sz mb cell f F W) {P : Program} {t k e : TypeId} (ht : P.underlying t = some (.map k e)) (hk : P.underlying k = some (.int .u32)) (hz : (zeroValue e).run P W = .ok (.slice none 0 0) W) (y : Nat) :
    ∃ v, (Instr.lookup t (.map (some mb)) (.int .u32 (y : Int)) false).run P W = .ok v W ∧ W.ownsRow B T sz v (f y).length ((f y).flatMap cell) ∧ (∀ k, v.ownBlock = some k → F k ∧ k ≠ mb) := by
  obtain ⟨l, h1, h2, h3⟩ := h
  by_cases hy : y ∈ l.map GEnt.key
  · obtain ⟨p, hp, rfl⟩ := List.mem_map.1 hy
    refine ⟨p.val, (h1.map.run_lookup_hit ht hk (gview_nodup h1.nd) (v := p.val) (x := (p.key : Int)) (List.mem_map.2 ⟨p, hp, rfl⟩)).2, ?_, fun k hk' => ⟨h1.fR p hp k hk', ?_⟩⟩
    · have := h1.own p hp
      rw [(h2 p hp).1, (h2 p hp).2] at this
      exact this
    · rintro rfl
      exact not_map h1.map (h1.own p hp) hk'
  · refine ⟨.slice none 0 0, (h1.map.run_lookup_miss ht hk hz (x := (y : Int)) (fun p hp e => ?_)).2, ?_, fun k hk' => by simp [Value.ownBlock] at hk'⟩
    · obtain ⟨q, hq, rfl⟩ := List.mem_map.1 hp
      simp only [Int.natCast_inj] at e
      exact hy (List.mem_map.2 ⟨q, hq, e⟩)
    · rw [h3 y hy]
      exact World.ownsRow_nil _ _ _ _

/-- A look at a key, and what an append to it makes of the map. -/
theorem GMap.turn (h : GMap B T sz mb cell f F W) {P : Program} {t k e : TypeId} (ht : P.underlying t = some (.map k e)) (hk : P.underlying k = some (.int .u32)) (_hz : (zeroValue e).run P W = .ok (.slice none 0 0) W) (y : Nat) :
    ∃ v, (∃ ml, IMap W mb .u32 ml ∧ ∀ W', IMap W' mb .u32 ml → (zeroValue e).run P W' = .ok (.slice none 0 0) W' → (Instr.lookup t (.map (some mb)) (.int .u32 (y : Int)) false).run P W' = .ok v W') ∧ W.ownsRow B T sz v (f y).length ((f y).flatMap cell) ∧ (∀ k, v.ownBlock = some k → F k ∧ k ≠ mb) ∧
      ∀ (Wa W3 : World) (v' : Value) (a : α), Keeps (fun _ => False) W Wa → Wa.grownBy W3 v.ownBlock → W3.ownsRow B T sz v' ((f y).length + 1) ((f y).flatMap cell ++ cell a) → (∀ g, v'.ownBlock = some g → v.ownBlock = some g ∨ W.heap.size ≤ g) →
        ∃ W4, (Instr.mapUpdate t (.map (some mb)) (.int .u32 (y : Int)) v').run P W3 = .ok () W4 ∧ GMap B T sz mb cell (fun z => if z = y then f y ++ [a] else f z) (fun b => F b ∨ W.heap.size ≤ b) W4 ∧ Keeps (fun k => k = mb) W3 W4 := by
  obtain ⟨l, h1, h2, h3⟩ := h
  by_cases hy : y ∈ l.map GEnt.key
  · obtain ⟨p, hp, rfl⟩ := List.mem_map.1 hy
    obtain ⟨i, hi⟩ := List.mem_iff_getElem?.1 hp
    have hil := (List.getElem?_eq_some_iff.1 hi).1
    have hown := h1.own p hp
    have hpm : p.val.ownBlock ≠ some mb := not_map h1.map hown
    rw [(h2 p hp).1, (h2 p hp).2] at hown
    refine ⟨p.val, ⟨_, h1.map, fun W' hm' _ => (hm'.run_lookup_hit ht hk (gview_nodup h1.nd) (v := p.val) (x := (p.key : Int)) (List.mem_map.2 ⟨p, hp, rfl⟩)).2⟩, hown, fun k hk' => ⟨h1.fR p hp k hk', fun e => hpm (by rw [hk', e])⟩, ?_⟩
    intro Wa W3 v' a ka hg hown' hat
    have hk3 : Keeps (fun k => p.val.ownBlock = some k) W W3 := (ka.mono (fun _ _ h => h.elim)).grown hg (fun k hk => .inl hk)
    have hm3 := h1.map.keeps hk3 hpm
    obtain ⟨W4, hrun, hI4, hk4⟩ := hm3.run_update_old ht hk (gview_nodup h1.nd) (x := (p.key : Int)) (u := p.val) (j := i) (by unfold gview; rw [List.getElem?_map, hi]; rfl) v'
    have hv'm : v'.ownBlock ≠ some mb := not_map hm3 hown'
    let p' : GEnt := ⟨p.key, v', (f p.key).length + 1, (f p.key).flatMap cell ++ cell a⟩
    have hkeys : (l.set i p').map GEnt.key = l.map GEnt.key := by
      apply List.ext_getElem?
      intro j
      rw [List.getElem?_map, List.getElem?_map]
      rw [List.getElem?_set]
      by_cases hij : i = j
      · subst hij; rw [if_pos rfl, if_pos hil, hi]; rfl
      · rw [if_neg hij]
    have hget : ∀ (j : Nat) q, (l.set i p')[j]? = some q → (j = i ∧ q = p') ∨ (j ≠ i ∧ l[j]? = some q) := by
      intro j q hq
      rw [List.getElem?_set] at hq
      by_cases hij : i = j
      · subst hij; rw [if_pos rfl, if_pos hil] at hq; cases hq; exact .inl ⟨rfl, rfl⟩
      · rw [if_neg hij] at hq; exact .inr ⟨fun e => hij e.symm, hq⟩
    refine ⟨W4, hrun, ⟨l.set i p', ⟨?_, by rw [hkeys]; exact h1.nd, fun q hq => ?_, fun j j' q q' hj hj' hne k hk1 hk2 => ?_, .inl h1.fM, fun q hq k hk' => ?_⟩, fun q hq => ?_, fun y hy' => ?_⟩, hk4⟩
    · have e1 : gview (l.set i p') = (gview l).set i ((p.key : Int), v') := by
        apply List.ext_getElem?
        intro j
        unfold gview
        rw [List.getElem?_map, List.getElem?_set, List.getElem?_set, List.getElem?_map, List.length_map]
        by_cases hij : i = j
        · subst hij; rw [if_pos rfl, if_pos hil, if_pos rfl, if_pos hil]; rfl
        · rw [if_neg hij, if_neg hij]
      rw [e1]; exact hI4
    · obtain ⟨j, hj⟩ := List.mem_iff_getElem?.1 hq
      rcases hget j q hj with ⟨_, rfl⟩ | ⟨hji, hj2⟩
      · exact hk4.ownsRow hown' (fun k hk' e => hv'm (by rw [hk', e]))
      · have ho := h1.own q (List.mem_of_getElem? hj2)
        refine hk4.ownsRow (hk3.ownsRow ho (fun k hk' hk2 => ?_)) (fun k hk' e => not_map h1.map ho (by rw [hk', e]))
        exact h1.apart i j p q hi hj2 (fun e => hji e.symm) k hk2 hk'
    · rcases hget j q hj with ⟨rfl, rfl⟩ | ⟨hji, hj2⟩
      · rcases hget j' q' hj' with ⟨rfl, rfl⟩ | ⟨hji', hj2'⟩
        · exact hne rfl
        · rcases hat k hk1 with h | h
          · exact h1.apart j j' p q' hi hj2' hne k h hk2
          · have := ((h1.own q' (List.mem_of_getElem? hj2')).lt k hk2).2; omega
      · rcases hget j' q' hj' with ⟨rfl, rfl⟩ | ⟨hji', hj2'⟩
        · rcases hat k hk2 with h | h
          · exact h1.apart j j' q p hj2 hi hne k hk1 h
          · have := ((h1.own q (List.mem_of_getElem? hj2)).lt k hk1).2; omega
        · exact h1.apart j j' q q' hj2 hj2' hne k hk1 hk2
    · obtain ⟨j, hj⟩ := List.mem_iff_getElem?.1 hq
      rcases hget j q hj with ⟨_, rfl⟩ | ⟨hji, hj2⟩
      · rcases hat k hk' with h | h
        · exact .inl (h1.fR p hp k h)
        · exact .inr h
      · exact .inl (h1.fR q (List.mem_of_getElem? hj2) k hk')
    · obtain ⟨j, hj⟩ := List.mem_iff_getElem?.1 hq
      rcases hget j q hj with ⟨_, rfl⟩ | ⟨hji, hj2⟩
      · simp only [p', if_pos]
        refine ⟨by simp, by simp⟩
      · have hne : q.key ≠ p.key := by
          intro e
          have g1 : (l.map GEnt.key)[j]? = some q.key := by rw [List.getElem?_map, hj2]; rfl
          have g2 : (l.map GEnt.key)[i]? = some p.key := by rw [List.getElem?_map, hi]; rfl
          obtain ⟨l1, q1⟩ := List.getElem?_eq_some_iff.1 g1
          obtain ⟨l2, q2⟩ := List.getElem?_eq_some_iff.1 g2
          exact hji ((List.getElem_inj h1.nd).1 (by rw [q1, q2, e]))
        simp only [if_neg hne]
        exact h2 q (List.mem_of_getElem? hj2)
    · rw [hkeys] at hy'
      have hne : y ≠ p.key := by rintro rfl; exact hy' (List.mem_map.2 ⟨p, hp, rfl⟩)
      simp only [if_neg hne]
      exact h3 y hy'
  · have hmiss : ∀ p ∈ gview l, p.1 ≠ (y : Int) := by
      intro p hp e
      obtain ⟨q, hq, rfl⟩ := List.mem_map.1 hp
      simp only [Int.natCast_inj] at e
      exact hy (List.mem_map.2 ⟨q, hq, e⟩)
    refine ⟨.slice none 0 0, ⟨_, h1.map, fun W' hm' hz' => (hm'.run_lookup_miss ht hk hz' hmiss).2⟩, by rw [h3 y hy]; exact World.ownsRow_nil _ _ _ _, fun k hk' => by simp [Value.ownBlock] at hk', ?_⟩
    intro Wa W3 v' a ka hg hown' hat
    have hk3 : Keeps (fun _ => False) W W3 := ka.grown hg (fun k hk => by simp [Value.ownBlock] at hk)
    have hm3 := h1.map.keeps hk3 (fun h => h)
    obtain ⟨W4, hrun, hI4, hk4⟩ := hm3.run_update_new ht hk hmiss v'
    have hv'm : v'.ownBlock ≠ some mb := not_map hm3 hown'
    have hvn : ∀ k, v'.ownBlock = some k → W.heap.size ≤ k := by
      intro k hk'
      rcases hat k hk' with h | h
      · simp [Value.ownBlock] at h
      · exact h
    let p' : GEnt := ⟨y, v', (f y).length + 1, (f y).flatMap cell ++ cell a⟩
    have hget : ∀ (j : Nat) q, (l ++ [p'])[j]? = some q → (j = l.length ∧ q = p') ∨ (j < l.length ∧ l[j]? = some q) := by
      intro j q hq
      by_cases hjl : j < l.length
      · rw [List.getElem?_append_left hjl] at hq; exact .inr ⟨hjl, hq⟩
      · rw [List.getElem?_append_right (by omega)] at hq
        have h0 := (List.getElem?_eq_some_iff.1 hq).1
        simp at h0
        have hj : j = l.length := by omega
        subst hj
        simp at hq
        exact .inl ⟨rfl, hq.symm⟩
    refine ⟨W4, hrun, ⟨l ++ [p'], ⟨by unfold gview at *; simpa using hI4, ?_, fun q hq => ?_, fun j j' q q' hj hj' hne k hk1 hk2 => ?_, .inl h1.fM, fun q hq k hk' => ?_⟩, fun q hq => ?_, fun z hz' => ?_⟩, hk4⟩
    · rw [List.map_append]
      unfold List.Nodup
      rw [List.pairwise_append]
      refine ⟨h1.nd, by simp, fun a ha b hb => ?_⟩
      simp [p'] at hb
      subst hb
      rintro rfl
      exact hy ha
    · rcases List.mem_append.1 hq with hq | hq
      · have ho := h1.own q hq
        exact hk4.ownsRow (hk3.ownsRow ho (fun _ _ h => h)) (fun k hk' e => not_map h1.map ho (by rw [hk', e]))
      · simp at hq; subst hq
        exact hk4.ownsRow hown' (fun k hk' e => hv'm (by rw [hk', e]))
    · rcases hget j q hj with ⟨rfl, rfl⟩ | ⟨hjl, hj2⟩
      · rcases hget j' q' hj' with ⟨rfl, rfl⟩ | ⟨hjl', hj2'⟩
        · exact hne rfl
        · have h1' := ((h1.own q' (List.mem_of_getElem? hj2')).lt k hk2).2
          have := hvn k hk1; omega
      · rcases hget j' q' hj' with ⟨rfl, rfl⟩ | ⟨hjl', hj2'⟩
        · have h1' := ((h1.own q (List.mem_of_getElem? hj2)).lt k hk1).2
          have := hvn k hk2; omega
        · exact h1.apart j j' q q' hj2 hj2' hne k hk1 hk2
    · rcases List.mem_append.1 hq with hq | hq
      · exact .inl (h1.fR q hq k hk')
      · simp at hq; subst hq
        exact .inr (hvn k hk')
    · rcases List.mem_append.1 hq with hq | hq
      · have hne : q.key ≠ y := fun e => hy (List.mem_map.2 ⟨q, hq, e⟩)
        simp only [if_neg hne]
        exact h2 q hq
      · simp at hq; subst hq
        simp only [p', if_pos]
        refine ⟨by simp, by simp⟩
    · rw [List.map_append] at hz'
      have hne : z ≠ y := by rintro rfl; exact hz' (by simp [p'])
      simp only [if_neg hne]
      exact h3 z (fun h => hz' (List.mem_append_left _ h))
end

end Go.Proofs.YtkjmgafnaddhkaaGreat

/- space.Costs: what its loops know. -/
namespace Go.Proofs.YtkjmgafnaddhkaaGreat
open Go.RowKit Go.Shelf

theorem Tryz.info_sarc : (Tryz.prog.info? 148).map (fun i => (i.zero, i.size, i.bytes)) = some (some (.agg #[.int .u32 0, .int .i64 0]), 2, 16) := by kernel_rfl

theorem Oper.wpIn_append_lies {F : Fence} {n : Nat} {P : Program} (w : World) {o : Oper} {a : Act} {K : Act → World → Prop} {Q : Exit → Act → World → Prop}
    (s x : Operand) (t : TypeId) (hop : o.op = Op.call { callee := Callee.builtin Builtin.append, args := #[s, x], argTypes := #[t, t] })
    (base : Nat) (e : TypeId) (i : TypeInfo) (z : Value) (size bytes : Nat) (h1 : P.underlying t = some (.slice e)) (h2 : P.info? e = some i) (h3 : i.zero = some z) (h4 : i.size = size) (h5 : i.bytes = bytes) (h6 : z.cells.size = size) (h7 : 0 < size)
    (v : Value) (k : Nat) (xs : List Value) (hs : a.eval s = v) (hown : w.ownsRow base e size v k xs) (ad : Addr) (m c : Nat) (news : List Value) (hx : a.eval x = .slice (some ad) m c) (hn : news.length = m * size)
    (hc : ∀ j u, news[j]? = some u → w.cell? (ad.add j) = some u) (h1c : ∀ u ∈ news, u.oneCell' = true) (hm : 0 < m) (b1 : k + m ≤ maxLen) (b2 : (k + m) * bytes ≤ 140737488355328) (b3 : base ≤ w.heap.size) (H : Nat) (hH : w.heap.size = H)
    (hK : ∀ g cap w', w'.ownsRow base e size (.slice (some ⟨g, 0, none⟩) (k + m) cap) (k + m) (xs ++ news) → w.grownBy w' v.ownBlock → (v.ownBlock = some g ∨ g = H) → g < w'.heap.size → K (a.put o.dst (.slice (some ⟨g, 0, none⟩) (k + m) cap)) w') :
    o.wpIn F n P a w K Q := by
  obtain ⟨g, cap, w', hrun, r1, r2, r3, r4⟩ := run_append_lies (P := P) w t o.type base e i z size bytes h1 h2 h3 h4 h5 h6 h7 v k xs hown ad m c news hn hc h1c hm b1 b2 b3 H hH
  unfold Oper.wpIn
  refine ⟨?_, ?_⟩
  · simp [Oper.about, hop, resolve, Target.leads, Sem.run_pure]
  · rw [Oper.semAt_plain F _ _ (by rw [hop]; intro c hc'; cases hc')]
    simp [execOp, hop, resolve, invoke, builtin, hs, hx, hrun, Result.andThen]
    exact hK g cap w' r1 r2 r3 r4

/-! ### the arcs into each state -/
def arcC (p : Nat × Int) : List Value := [.int .u32 (p.1 : Int), .int .i64 p.2]
def addB (f : Nat → List (Nat × Int)) (s : Nat) (l : List Stp) : Nat → List (Nat × Int) := fun y => f y ++ (l.filter fun x => x.to == y).map fun x => (s, x.cost)
theorem addB_nil (f : Nat → List (Nat × Int)) (s : Nat) : addB f s [] = f := by funext y; simp [addB]
theorem addB_snoc (f : Nat → List (Nat × Int)) (s : Nat) (l : List Stp) (x : Stp) : addB f s (l ++ [x]) = fun z => if z = x.to then addB f s l x.to ++ [(s, x.cost)] else addB f s l z := by
  funext z
  unfold addB
  rw [List.filter_append, List.map_append, ← List.append_assoc]
  by_cases h : z = x.to
  · subst h; rw [if_pos rfl]; simp
  · rw [if_neg h]
    have : (x.to == z) = false := by simpa using fun e => h e.symm
    simp [this]
def backF (ops : List Wop) : List Nat → Nat → List (Nat × Int) := fun L y => L.flatMap fun s => ((wsteps ops s).filter fun x => x.to == y).map fun x => (s, x.cost)
theorem backF_nil (ops : List Wop) : backF ops [] = fun _ => [] := by funext y; rfl
theorem backF_snoc (ops : List Wop) (L : List Nat) (s : Nat) : backF ops (L ++ [s]) = addB (backF ops L) s (wsteps ops s) := by
  funext y; unfold backF addB; rw [List.flatMap_append]; simp
theorem backF_mem {ops : List Wop} {L : List Nat} {x s : Nat} {o : Wop} (hx : x ∈ L) (ho : o ∈ ops) (hc : o.can x = true) (hn : o.next x = s) : (x, o.cost) ∈ backF ops L s := by
  obtain ⟨k, hk⟩ := List.mem_iff_getElem?.1 ho
  unfold backF
  refine List.mem_flatMap.2 ⟨x, hx, List.mem_map.2 ⟨⟨k, o.cost, o.next x⟩, List.mem_filter.2 ⟨wsteps_mem.2 ⟨o, hk, hc, rfl, rfl⟩, by simpa using hn⟩, rfl⟩⟩
theorem backF_spec {ops : List Wop} {L : List Nat} {p : Nat × Int} {s : Nat} (h : p ∈ backF ops L s) : p.1 ∈ L ∧ ∃ o ∈ ops, o.can p.1 = true ∧ o.next p.1 = s ∧ o.cost = p.2 := by
  unfold backF at h
  obtain ⟨x, hx, h⟩ := List.mem_flatMap.1 h
  obtain ⟨y, hy, rfl⟩ := List.mem_map.1 h
  obtain ⟨hy, hs⟩ := List.mem_filter.1 hy
  obtain ⟨o, h1, h2, h3, h4⟩ := wsteps_mem.1 hy
  exact ⟨hx, o, List.mem_of_getElem? h1, h2, by rw [← h4]; simpa using hs, h3.symm⟩
theorem addB_len (f : Nat → List (Nat × Int)) (s : Nat) (l : List Stp) (y : Nat) : (addB f s l y).length ≤ (f y).length + l.length := by
  unfold addB; rw [List.length_append, List.length_map]; have := List.length_filter_le (fun x : Stp => x.to == y) l; omega
theorem backF_len {ops : List Wop} (hm : ops.length ≤ 40) : ∀ (L : List Nat) (y : Nat), (backF ops L y).length ≤ 40 * L.length
  | [], y => by simp [backF]
  | s :: r, y => by
    have h1 := backF_len hm r y
    have h2 := wsteps_le ops s
    have h3 := List.length_filter_le (fun x : Stp => x.to == y) (wsteps ops s)
    unfold backF at h1 ⊢
    rw [List.flatMap_cons, List.length_append, List.length_map, List.length_cons]
    omega

/-! ### the state of the walk -/
/-- The queue's blocks are no blocks of deferred calls. -/
theorem U.QRep.live {w : World} {Q : Nat} {A : List (Int × Int)} {t : Int} {F : Nat → Prop} (h : U.QRep w Q A t F) : U.QRep w Q A t (fun b => F b ∧ b < w.heap.size ∧ w.heap[b]? ≠ some (.deferred (some []))) := by
  obtain ⟨v, Mb, l, L, E, h⟩ := h
  refine ⟨v, Mb, l, L, E, { h with fQ := ⟨h.fQ, h.lt.1, cells_not_deferred h.q⟩, fM := ⟨h.fM, h.lt.2.1, map_not_deferred h.mp⟩, fH := fun b hb => ⟨h.fH b hb, h.lt.2.2 b hb, ?_⟩ }⟩
  rcases hb with hb | ⟨e, he, rfl⟩
  · exact row_not_deferred h.rep.row b hb
  · obtain ⟨j, hj⟩ := List.mem_iff_getElem?.1 he
    exact cells_not_deferred (h.rep.ent j e hj)

structure CSt (w0 : World) (b5 mb bo Q : Nat) (f : Nat → List (Nat × Int)) (L : List Nat) (D : Nat → Int) (A : List (Int × Int)) (t : Int) (F G : Nat → Prop) (W : World) : Prop where
  keep : Keeps (fun _ => False) w0 W
  x5 : Boxed W b5 137 (.map (some mb))
  out : IMap W bo .u32 (outV L D)
  back : GMap w0.heap.size 148 2 mb arcC f G W
  q : U.QRep W Q A t F
  l5 : w0.heap.size ≤ b5
  lo : w0.heap.size ≤ bo
  lF : ∀ k, F k → w0.heap.size ≤ k ∧ k < W.heap.size ∧ k ≠ b5 ∧ k ≠ bo ∧ ¬ G k
  lG : ∀ k, G k → w0.heap.size ≤ k ∧ k < W.heap.size ∧ k ≠ b5 ∧ k ≠ bo
  nd : ∀ k, F k → W.heap[k]? ≠ some (.deferred (some []))

theorem Keeps.nd {S : Nat → Prop} {W W' : World} (hk : Keeps S W W') {k : Nat} (hl : k < W.heap.size) (hs : ¬ S k) (h : W.heap[k]? ≠ some (.deferred (some []))) : W'.heap[k]? ≠ some (.deferred (some [])) := by
  rw [hk.block k hl hs]; exact h

section
variable {w0 : World} {b5 mb bo Q : Nat} {f : Nat → List (Nat × Int)} {L : List Nat} {D : Nat → Int} {A : List (Int × Int)} {t : Int} {F G : Nat → Prop} {W W' : World}
theorem CSt.o5 (h : CSt w0 b5 mb bo Q f L D A t F G W) : b5 ≠ bo := fun e => box_not_map h.out h.x5 e.symm
/-- Nothing of it has changed. -/
theorem CSt.by {S : Nat → Prop} (h : CSt w0 b5 mb bo Q f L D A t F G W) (hk : Keeps S W W') (s5 : ¬ S b5) (so : ¬ S bo) (sF : ∀ k, F k → ¬ S k) (sG : ∀ k, G k → ¬ S k) (hS : ∀ k, S k → w0.heap.size ≤ k) : CSt w0 b5 mb bo Q f L D A t F G W' :=
  ⟨h.keep.trans' hk (fun i hi => .inr (hS i hi)), hk.heap h.x5 s5, h.out.keeps hk so, h.back.keeps hk sG, h.q.keeps hk sF, h.l5, h.lo,
   fun k hF => ⟨(h.lF k hF).1, Nat.lt_of_lt_of_le (h.lF k hF).2.1 hk.size, (h.lF k hF).2.2⟩, fun k hG => ⟨(h.lG k hG).1, Nat.lt_of_lt_of_le (h.lG k hG).2.1 hk.size, (h.lG k hG).2.2⟩, fun k hF => Keeps.nd hk (h.lF k hF).2.1 (sF k hF) (h.nd k hF)⟩
theorem CSt.keeps0 (h : CSt w0 b5 mb bo Q f L D A t F G W) (hk : Keeps (fun _ => False) W W') : CSt w0 b5 mb bo Q f L D A t F G W' :=
  h.by hk (fun h => h) (fun h => h) (fun _ _ h => h) (fun _ _ h => h) (fun _ h => h.elim)
/-- The map of costs has changed. -/
theorem CSt.outed {L' : List Nat} {D' : Nat → Int} (h : CSt w0 b5 mb bo Q f L D A t F G W) (hI : IMap W' bo .u32 (outV L' D')) (hk : Keeps (fun k => k = bo) W W') : CSt w0 b5 mb bo Q f L' D' A t F G W' :=
  ⟨h.keep.trans' hk (fun i hi => .inr (by subst hi; exact h.lo)), hk.heap h.x5 h.o5, hI, h.back.keeps hk (fun b hb => (h.lG b hb).2.2.2), h.q.keeps hk (fun b hb => (h.lF b hb).2.2.2.1), h.l5, h.lo,
   fun k hF => ⟨(h.lF k hF).1, Nat.lt_of_lt_of_le (h.lF k hF).2.1 hk.size, (h.lF k hF).2.2⟩, fun k hG => ⟨(h.lG k hG).1, Nat.lt_of_lt_of_le (h.lG k hG).2.1 hk.size, (h.lG k hG).2.2⟩, fun k hF => Keeps.nd hk (h.lF k hF).2.1 (h.lF k hF).2.2.2.1 (h.nd k hF)⟩
theorem CSt.congr {D' : Nat → Int} (h : CSt w0 b5 mb bo Q f L D A t F G W) (hD : ∀ x ∈ L, D x = D' x) : CSt w0 b5 mb bo Q f L D' A t F G W := { h with out := by rw [← outV_congr hD]; exact h.out }
theorem CSt.kd (h : CSt w0 b5 mb bo Q f L D A t F G W) (hk : Keeps F W W') : KeepsD W W' := KeepsD.of hk h.nd
/-- The queue has changed. -/
theorem CSt.queued {A' : List (Int × Int)} {t' : Int} {F' : Nat → Prop} (h : CSt w0 b5 mb bo Q f L D A t F G W) (hq : U.QRep W' Q A' t' F') (hF : ∀ k, F' k → F k ∨ W.heap.size ≤ k) (hk : Keeps F W W') :
    CSt w0 b5 mb bo Q f L D A' t' (fun k => F' k ∧ k < W'.heap.size ∧ W'.heap[k]? ≠ some (.deferred (some []))) G W' :=
  ⟨h.keep.trans' hk (fun i hi => .inr (h.lF i hi).1), hk.heap h.x5 (fun e => (h.lF _ e).2.2.1 rfl), h.out.keeps hk (fun e => (h.lF _ e).2.2.2.1 rfl), h.back.keeps hk (fun b hb e => (h.lF b e).2.2.2.2 hb), hq.live, h.l5, h.lo,
   fun k hk' => by
    rcases hF k hk'.1 with h1 | h1
    · exact ⟨(h.lF k h1).1, hk'.2.1, (h.lF k h1).2.2⟩
    · have h2 := h.x5.lt
      have h3 := h.out.lt
      have h4 := h.keep.size
      exact ⟨by omega, hk'.2.1, by omega, by omega, fun e => by have := (h.lG k e).2.1; omega⟩,
   fun k hG => ⟨(h.lG k hG).1, Nat.lt_of_lt_of_le (h.lG k hG).2.1 hk.size, (h.lG k hG).2.2⟩, fun k hk' => hk'.2.2⟩
/-- The rows of arcs have changed. -/
theorem CSt.backed {S : Nat → Prop} {f' : Nat → List (Nat × Int)} {G' : Nat → Prop} (h : CSt w0 b5 mb bo Q f L D A t F G W) (hb : GMap w0.heap.size 148 2 mb arcC f' G' W') (hG : ∀ k, G' k → G k ∨ W.heap.size ≤ k) (hk : Keeps S W W') (hS : ∀ k, S k → G k) :
    CSt w0 b5 mb bo Q f' L D A t F (fun k => k < W'.heap.size ∧ G' k) W' :=
  ⟨h.keep.trans' hk (fun i hi => .inr (h.lG i (hS i hi)).1), hk.heap h.x5 (fun e => (h.lG _ (hS _ e)).2.2.1 rfl), h.out.keeps hk (fun e => (h.lG _ (hS _ e)).2.2.2 rfl), hb.mono (fun b h1 h2 => ⟨h1, h2⟩), h.q.keeps hk (fun b hF e => (h.lF b hF).2.2.2.2 (hS b e)), h.l5, h.lo,
   fun k hF => ⟨(h.lF k hF).1, Nat.lt_of_lt_of_le (h.lF k hF).2.1 hk.size, (h.lF k hF).2.2.1, (h.lF k hF).2.2.2.1, fun e => by
    rcases hG k e.2 with h1 | h1
    · exact (h.lF k hF).2.2.2.2 h1
    · have := (h.lF k hF).2.1; omega⟩,
   fun k hk' => by
    rcases hG k hk'.2 with h1 | h1
    · exact ⟨(h.lG k h1).1, hk'.1, (h.lG k h1).2.2⟩
    · have h2 := h.x5.lt
      have h3 := h.out.lt
      have h4 := h.keep.size
      exact ⟨by omega, hk'.1, by omega, by omega⟩,
   fun k hF => Keeps.nd hk (h.lF k hF).2.1 (fun e => (h.lF k hF).2.2.2.2 (hS k e)) (h.nd k hF)⟩

theorem GMap.steady {α : Type} {B0 : Nat} {T : TypeId} {sz mb : Nat} {cell : α → List Value} {f : Nat → List α} {G : Nat → Prop} {row : Option Nat} {B : Nat} (h : GMap B0 T sz mb cell f G W) (hg : W.grownBy W' row)
    (hr : ∀ r, row = some r → B ≤ r ∧ ∃ o : Obj, W.heap[r]? = some o ∧ o.isCells = false) (hB : mb < B) : GMap B0 T sz mb cell f G W' := by
  obtain ⟨l, h1, h2⟩ := h
  exact ⟨l, ⟨steady_map hg (fun r e => (hr r e).1) hB h1.map, h1.nd, fun p hp => steady_row hg (fun r e => (hr r e).2) (h1.own p hp), h1.apart, h1.fM, h1.fR⟩, h2⟩
theorem CSt.steady {row : Option Nat} {B : Nat} (h : CSt w0 b5 mb bo Q f L D A t F G W) (hg : W.grownBy W' row) (hr : ∀ r, row = some r → B ≤ r ∧ ∃ o : Obj, W.heap[r]? = some o ∧ o.isCells = false) (hB : w0.heap.size ≤ B) (hbo : bo < B) (hmb : mb < B) (hF : ∀ k, F k → k < B) : CSt w0 b5 mb bo Q f L D A t F G W' :=
  ⟨steady_keeps0 hg (fun r e => (hr r e).1) hB h.keep, steady_heap hg (fun r e => (hr r e).2) h.x5, steady_map hg (fun r e => (hr r e).1) hbo h.out, h.back.steady hg hr hmb, h.q.keeps (steady_keeps hg) (fun b hb e => by have := (hr b e).1; have := hF b hb; omega), h.l5, h.lo,
   fun k hF => ⟨(h.lF k hF).1, Nat.lt_of_lt_of_le (h.lF k hF).2.1 (steady_keeps hg).size, (h.lF k hF).2.2⟩, fun k hG => ⟨(h.lG k hG).1, Nat.lt_of_lt_of_le (h.lG k hG).2.1 (steady_keeps hg).size, (h.lG k hG).2.2⟩, fun k hk => Keeps.nd (steady_keeps hg) (h.lF k hk).2.1 (fun e => by have := (hr k e).1; have := hF k hk; omega) (h.nd k hk)⟩
end

theorem arcC_get : ∀ (l : List (Nat × Int)) (j : Nat) (p : Nat × Int), l[j]? = some p → (l.flatMap arcC)[j * 2]? = some (.int .u32 (p.1 : Int)) ∧ (l.flatMap arcC)[j * 2 + 1]? = some (.int .i64 p.2)
  | [], j, p, h => by simp at h
  | q :: r, 0, p, h => by simp at h; subst h; simp [arcC]
  | q :: r, j + 1, p, h => by
    have h' := arcC_get r j p (by simpa using h)
    rw [List.flatMap_cons, show (j + 1) * 2 = j * 2 + 1 + 1 by omega, show j * 2 + 1 + 1 + 1 = j * 2 + 1 + 1 + 1 from rfl]
    exact ⟨by simpa [arcC] using h'.1, by simpa [arcC] using h'.2⟩
theorem arow_at {w : World} {base k : Nat} {e : TypeId} {v : Value} {l : List (Nat × Int)} {p : Nat × Int} (h : w.ownsRow base e 2 v l.length (l.flatMap arcC)) (hk : l[k]? = some p) :
    ∃ gg cap, v = .slice (some ⟨gg, 0, none⟩) l.length cap ∧ gg < w.heap.size ∧ w.cell? ⟨gg, k * 2, none⟩ = some (.int .u32 (p.1 : Int)) ∧ w.cell? ⟨gg, k * 2 + 1, none⟩ = some (.int .i64 p.2) := by
  have hl := (List.getElem?_eq_some_iff.1 hk).1
  obtain ⟨c0, c1⟩ := arcC_get l k p hk
  rcases h.2 with ⟨_, h0⟩ | ⟨g, cap, cur, rfl, hb, hg, hn, hm, hs, ht⟩
  · omega
  · have key : ∀ (j : Nat) (x : Value), (l.flatMap arcC)[j]? = some x → w.cell? ⟨g, j, none⟩ = some x := by
      intro j x hj
      rw [cell_of_blk hg]
      rw [← ht, List.getElem?_take] at hj
      split at hj
      · simpa using hj
      · cases hj
    exact ⟨g, cap, rfl, lt_of_heap hg, key _ _ c0, key _ _ c1⟩
theorem ownsRow_formN {w : World} {base size n : Nat} {e : TypeId} {v : Value} {xs : List Value} (h : w.ownsRow base e size v n xs) : ∃ ao cap, v = .slice ao n cap := by
  rcases h.2 with ⟨hv, h0⟩ | ⟨g, cap, cur, hv, _⟩
  · exact ⟨none, 0, by rw [hv, h0]⟩
  · exact ⟨_, cap, hv⟩
theorem drop_getS {α : Type} {l : List α} {n : Nat} {k : α} (h : l[n]? = some k) : l.drop n = k :: l.drop (n + 1) := by
  obtain ⟨hl, he⟩ := List.getElem?_eq_some_iff.1 h
  rw [List.drop_eq_getElem_cons hl, he]
/-- Set, whether the item lies in the queue or not. -/
theorem U.set_both (w : World) (Q : Nat) (A : List (Int × Int)) (t : Int) (F : Nat → Prop) (h : U.QRep w Q A t F) (x k : Int) (ht : 0 ≤ t ∧ t ≤ 1000000000000000) (hA : A.length ≤ 999999) :
    Calls Tryz.prog 94 #[.pointer (some ⟨Q, 0, none⟩), .int .u32 x, .int .i64 k] w fun e w' => e = .returned (.tuple #[]) ∧ ∃ F2, U.QRep w' Q (putA A x k) (t + 1) F2 ∧ (∀ b, F2 b → F b ∨ w.heap.size ≤ b) ∧ Keeps F w w' := by
  by_cases hm : ∃ p ∈ A, p.1 = x
  · obtain ⟨⟨x', k0⟩, hp, rfl⟩ := hm
    exact (U.set_old w Q A t F h x' k k0 hp ht).mono fun e w' ⟨h1, h2, h3⟩ => ⟨h1, F, h2, fun b hb => .inl hb, h3⟩
  · exact (U.set_new w Q A t F h x k (fun p hp e => hm ⟨p, hp, e⟩) ht hA).mono fun e w' ⟨h1, h2, h3⟩ => ⟨h1, _, h2, fun b hb => hb, h3⟩
/-- The same; new blocks of the queue are rows of cells. -/
theorem U.set_both2 (w : World) (Q : Nat) (A : List (Int × Int)) (t : Int) (F : Nat → Prop) (h : U.QRep w Q A t F) (x k : Int) (ht : 0 ≤ t ∧ t ≤ 1000000000000000) (hA : A.length ≤ 999999) :
    Calls Tryz.prog 94 #[.pointer (some ⟨Q, 0, none⟩), .int .u32 x, .int .i64 k] w fun e w' => e = .returned (.tuple #[]) ∧ ∃ F2, U.QRep w' Q (putA A x k) (t + 1) F2 ∧ (∀ b, F2 b → (F b ∧ ((∃ cs T fr, w'.heap[b]? = some (.cells cs T fr)) ∨ ∃ es c, w.heap[b]? = some (.map es c))) ∨ (w.heap.size ≤ b ∧ ∃ cs T fr, w'.heap[b]? = some (.cells cs T fr))) ∧ Keeps F w w' := by
  by_cases hm : ∃ p ∈ A, p.1 = x
  · obtain ⟨⟨x', k0⟩, hp, rfl⟩ := hm
    exact (U.set_old2 w Q A t F h x' k k0 hp ht).mono fun e w' ⟨h1, h2, h3⟩ => ⟨h1, _, h2, fun b hb => .inl hb, h3⟩
  · exact (U.set_new2 w Q A t F h x k (fun p hp e => hm ⟨p, hp, e⟩) ht hA).mono fun e w' ⟨h1, h2, h3⟩ => ⟨h1, _, h2, fun b hb => hb, h3⟩
theorem LInv.anyS {ops : List Wop} {L : List Nat} {acc : Nat → Bool} {D : Nat → Int} {A : List (Int × Int)} {s s' : Nat} (h : LInv ops L acc D A s []) : LInv ops L acc D A s' [] :=
  ⟨h.inv, h.key, fun x hx o ho hc hd => by
    rcases h.pend x hx o ho hc hd with h1 | h1 | ⟨_, h1⟩
    · exact .inl h1
    · exact .inr (.inl h1)
    · cases h1⟩

structure CLoop (ops : List Wop) (acc : Nat → Bool) (L : List Nat) (w0 : World) (b5 mb bo Q i : Nat) (ds : List Deferred) (W : World) : Prop where
  st : ∃ (t : Int) (F G : Nat → Prop), CSt w0 b5 mb bo Q (backF ops (L.take i)) (L.take i) (start0 acc) (queue0 acc (L.take i)) t F G W ∧ 0 ≤ t ∧ t ≤ i
  marks : Marks ds W w0.heap.size

/-- Within the loop over the steps of s, when the steps l have come. -/
def CI (w0 : World) (b5 mb bo Q : Nat) (f : Nat → List (Nat × Int)) (L : List Nat) (D : Nat → Int) (A : List (Int × Int)) (t : Int) (F : Nat → Prop) (s : Nat) (ds : List Deferred) (Bs b9 : Nat) (l : List Stp) (W : World) : Prop :=
  ∃ G, CSt w0 b5 mb bo Q (addB f s l) L D A t F G W ∧ Marks ds W w0.heap.size ∧ W.heap[Bs]? = some (.cells #[.int .u32 (s : Int)] 82 (0, 0)) ∧ W.heap[b9]? = some (.cells #[.int .u32 (s : Int)] 82 (0, 0)) ∧ ∀ k, G k → k ≠ Bs ∧ k ≠ b9

end Go.Proofs.YtkjmgafnaddhkaaGreat

namespace Go.Proofs.YtkjmgafnaddhkaaGreat
open Go.RowKit

/-- Whether a word holds all facts of a goal. -/
def goalB (g x : Nat) : Bool := x &&& g == g

theorem goal_bits {x g : Nat} (hx : x < 4294967296) (hg : g < 4294967296) : (bits .and .u32 (x : Int) (g : Int) == (g : Int)) = goalB g x := by
  rw [(u32_bits hx hg).1]
  unfold goalB
  cases h : x &&& g == g with
  | true => rw [beq_iff_eq] at h ⊢; exact_mod_cast h
  | false => rw [beq_eq_false_iff_ne] at h ⊢; intro e; exact h (by exact_mod_cast e)

def fltV (c i : Int) : Value := .agg #[.int .i64 c, .int .i64 i]

end Go.Proofs.YtkjmgafnaddhkaaGreat

namespace Go.Proofs.YtkjmgafnaddhkaaGreat
open Go.RowKit Go.Shelf
attribute [local go_sem] Oper.semAt_some

def CostsPost (ops : List Wop) (L : List Nat) (acc : Nat → Bool) (w : World) (e : Ending) (w' : World) : Prop := Keeps (fun _ => False) w w' ∧
  ∃ (bo : Nat) (D : Nat → Int), e = .returned (.map (some bo)) ∧ w.heap.size ≤ bo ∧ IMap w' bo .u32 (outV L D) ∧ CostOk (arcs ops L) (L.map acc) (L.map D)

def CSx (w0 : World) (b5 mb bo Q : Nat) (f : Nat → List (Nat × Int)) (L : List Nat) (D : Nat → Int) (A : List (Int × Int)) (t : Int) (G : Nat → Prop) (W : World) : Prop := ∃ F, CSt w0 b5 mb bo Q f L D A t F G W

def CS3 (ops : List Wop) (L : List Nat) (g0 : Nat) (w : World) (b5 mb bo Q : Nat) (G : Nat → Prop) (s : Nat) (d : Int) (M0 : Nat) (va : Value) (nb : Nat) (ds : List Deferred) (k : Nat) (wx : World) : Prop :=
  ∃ (D' : Nat → Int) (A' : List (Int × Int)) (t' : Int), CSx w b5 mb bo Q (backF ops L) L D' A' t' G wx ∧ LInv ops L (goalB g0) D' A' s ((backF ops L s).drop k) ∧ D' s = d ∧ 0 ≤ t' ∧ t' + (weightC (L.map D') : Int) ≤ 2000000002000 ∧
    2 * weightC (L.map D') + A'.length < M0 ∧ Marks ds wx w.heap.size ∧ wx.ownsRow w.heap.size 148 2 va nb ((backF ops L s).flatMap arcC)

set_option maxRecDepth 100000 in
def Fr3 (b : Nat) (av : Option Addr) (L : List Nat) (cv b5 bo Q s : Nat) (d : Int) (ab : Option Addr) (nb cb k : Nat) (ds : List Deferred) (a' : Act) : Prop := ∃ u : Nat → Value, a' = { tmps := #[.pointer (some ⟨b, 0, none⟩), .slice av L.length cv, undef, undef, .map none, .pointer (some ⟨b5, 0, none⟩), .map (some bo), .pointer (some ⟨Q, 0, none⟩), u 8, u 9, u 10, .int .u32 (s : Int), .int .i64 d, u 13, u 14, u 15, u 16, u 17, u 18, u 19, u 20, u 21, u 22, u 23, u 24, u 25, u 26, u 27, u 28, u 29, u 30, u 31, u 32, u 33, u 34, u 35, u 36, u 37, u 38, u 39, u 40, u 41, u 42, u 43, u 44, u 45, u 46, u 47, u 48, u 49, u 50, u 51, u 52, u 53, u 54, u 55, u 56, u 57, u 58, u 59, u 60, u 61, u 62, u 63, .slice ab nb cb, .int .i64 (nb : Int), .int .i64 (k : Int), u 67, u 68, u 69, u 70, u 71, u 72, u 73, u 74, u 75, u 76, u 77, u 78, u 79, u 80, u 81, u 82, u 83, u 84, u 85, u 86, u 87, u 88, u 89, u 90, u 91, u 92, u 93, u 94, u 95], defers := ds }

set_option maxRecDepth 100000 in
set_option maxHeartbeats 4000000 in
theorem costs_in (w : World) (b st g0 base : Nat) (v vl : Value) (ops : List Wop) (L : List Nat) (hw : WordsAt w base b st g0 v ops) (hops : WopsOk ops) (hmany : ops.length ≤ 40) (hg0 : g0 < 4294967296) (hsh : Shut ops L) (hfew : L.length ≤ 2000)
    (hL32 : ∀ x ∈ L, x < 4294967296) (hcost : ∀ o ∈ ops, 0 ≤ o.cost ∧ o.cost ≤ 1000000) (hvl : Sl w vl L.length (L.map encW)) :
    CallsIn Fence.wide 9 Tryz.prog 59 #[.pointer (some ⟨b, 0, none⟩), vl] w (CostsPost ops L (goalB g0) w) := by
  have hmm := @run_makeMap Tryz.prog
  obtain ⟨av, cv, hav, hmv⟩ := Sl.formN hvl
  subst hav
  have HW := Lib.hid hw; have HV := Lib.hid hvl; have HSH := Lib.hid hsh; have HL32 := Lib.hid hL32; have HCO := Lib.hid hcost
  clear hw hvl hsh hL32 hcost
  refine callsIn_of_wp_marks Tryz.func59 rfl trivial ?_ rfl
  simp only [Tryz.ntmps59, List.size_toArray, List.length_cons, List.length_nil, Nat.reduceAdd, Nat.reduceSub, Array.replicate_succ, Array.replicate_zero, List.push_toArray, List.append_toArray, List.nil_append, List.cons_append]
  gi_wp2
  have M1 := GMap.made w w.heap.size 148 2 arcC
  obtain ⟨W3, hW3⟩ : ∃ W3, ((w.alloc (.map #[] 0)).alloc (.cells #[.map (some w.heap.size)] 137)).alloc (.map #[] 0) = W3 := ⟨_, rfl⟩
  have hz3 : W3.heap.size = w.heap.size + 1 + 1 + 1 := by rw [← hW3]; simp
  have k1 : Keeps (fun _ => False) (w.alloc (.map #[] 0)) W3 := by rw [← hW3]; exact ((Keeps.refl _ _).alloc _).alloc _
  have k0 : Keeps (fun _ => False) w W3 := by rw [← hW3]; exact (((Keeps.refl _ _).alloc _).alloc _).alloc _
  have x5 : Boxed W3 (w.heap.size + 1) 137 (.map (some w.heap.size)) := by
    rw [← hW3]
    have h := Boxed.new (w.alloc (.map #[] 0)) 137 (.map (some w.heap.size))
    rw [World.size_alloc] at h
    exact ((Keeps.refl (fun _ => False) _).alloc (.map #[] 0)).heap h (fun h => h)
  have o3 : IMap W3 (w.heap.size + 1 + 1) .u32 (outV [] (start0 (goalB g0))) := by
    rw [← hW3]
    have h := IMap.made ((w.alloc (.map #[] 0)).alloc (.cells #[.map (some w.heap.size)] 137)) .u32
    rw [World.size_alloc, World.size_alloc] at h
    exact h
  rw [hW3]
  clear hW3
  refine ⟨trivial, ?_⟩
  refine (callsIn_wide.2 (U.new_any _)).mono ?_; rintro e w4 ⟨rfl, hq, hk⟩
  have HST := Lib.hid (show CSt w (w.heap.size + 1) w.heap.size (w.heap.size + 1 + 1) (W3.heap.size + 1) (backF ops (L.take 0)) (L.take 0) (start0 (goalB g0)) (queue0 (goalB g0) (L.take 0)) 0 (fun b => W3.heap.size ≤ b ∧ b < w4.heap.size ∧ w4.heap[b]? ≠ some (.deferred (some []))) (fun b => b = w.heap.size) w4 from
    ⟨k0.trans hk, hk.heap x5 (fun h => h), by rw [List.take_zero]; exact o3.keeps hk (fun h => h), by rw [List.take_zero, backF_nil]; exact (M1.keeps k1 (fun _ _ h => h)).keeps hk (fun _ _ h => h), hq.live, by omega, by omega,
     fun k hF => ⟨by omega, hF.2.1, by omega, by omega, by omega⟩, fun k hG => by subst hG; exact ⟨Nat.le_refl _, by have := hk.size; omega, by omega, by omega⟩, fun k hF => hF.2.2⟩)
  clear M1 k1 k0 x5 o3 hq hk
  generalize W3.heap.size + 1 = Q at HST ⊢
  generalize (fun b => W3.heap.size ≤ b ∧ b < w4.heap.size ∧ w4.heap[b]? ≠ some (.deferred (some []))) = F0 at HST
  generalize (fun b => b = w.heap.size) = G0 at HST
  generalize w.heap.size + 1 + 1 = bo at HST ⊢
  generalize w.heap.size + 1 = b5 at HST ⊢
  obtain ⟨mb, hmb⟩ : ∃ mb, w.heap.size = mb := ⟨_, rfl⟩
  have HST1 : Hid (CSt w b5 mb bo Q (backF ops (L.take 0)) (L.take 0) (start0 (goalB g0)) (queue0 (goalB g0) (L.take 0)) 0 F0 G0 w4) := by rw [← hmb]; exact HST
  rw [hmb]
  clear HST hmb hz3
  obtain ⟨i0, hi0, hz0, hz1, hz2⟩ := info_parts Tryz.info_sarc
  have hmix : Tryz.prog.follows .mixedOrders = true := by kernel_rfl
  gi_wp2
  refine wpIn_loop (fun a' wr => ∃ (ds : List Deferred) (i : Nat), CLoop ops (goalB g0) L w b5 mb bo Q i ds wr ∧ i ≤ L.length ∧
      ∃ u : Nat → Value, a' = { tmps := #[.pointer (some ⟨b, 0, none⟩), .slice av L.length cv, undef, undef, .map none, .pointer (some ⟨b5, 0, none⟩), .map (some bo), .pointer (some ⟨Q, 0, none⟩), u 8, u 9, u 10, u 11, u 12, u 13, u 14, u 15, u 16, u 17, u 18, .slice av L.length cv, .int .i64 (L.length : Int), .int .i64 (i : Int), u 22, u 23, u 24, u 25, u 26, u 27, u 28, u 29, u 30, u 31, u 32, u 33, u 34, u 35, u 36, u 37, u 38, u 39, u 40, u 41, u 42, u 43, u 44, u 45, u 46, u 47, u 48, u 49, u 50, u 51, u 52, u 53, u 54, u 55, u 56, u 57, u 58, u 59, u 60, u 61, u 62, u 63, u 64, u 65, u 66, u 67, u 68, u 69, u 70, u 71, u 72, u 73, u 74, u 75, u 76, u 77, u 78, u 79, u 80, u 81, u 82, u 83, u 84, u 85, u 86, u 87, u 88, u 89, u 90, u 91, u 92, u 93, u 94, u 95], defers := ds })
    (fun a' _ => L.length - (intOf (a'.tmps.getD 21 undef)).toNat) ?start ?round
  case start => exact ⟨[], 0, ⟨⟨0, F0, G0, HST1.out, Int.le_refl _, by omega⟩, Marks.nil _ _⟩, Nat.zero_le _, ex_fnD rfl⟩
  case round =>
    rintro a wo ⟨ds, i, hL, hil, u, rfl⟩
    have HL := Lib.hid hL
    clear hL HST1
    obtain ⟨t, F, G, hst, ht0, ht1⟩ := HL.out.st
    have hlow : w.heap.size ≤ wo.heap.size := hst.keep.size
    by_cases hlt : i < L.length
    · obtain ⟨bl, ol, rfl, hx'⟩ := Sl.cellN HV.out rfl (by omega)
      obtain ⟨s, hs⟩ : ∃ s, L[i]? = some s := ⟨_, List.getElem?_eq_getElem hlt⟩
      have hu := hst.keep.cell (hx' i (.int .u32 (s : Int)) (by rw [List.getElem?_map, hs]; rfl)) (fun h => h)
      have hs32 : s < 4294967296 := HL32.out s (List.mem_of_getElem? hs)
      have hnotin : s ∉ L.take i := fun h => by
        obtain ⟨j, hj⟩ := List.mem_iff_getElem?.1 h
        have hjl := (List.getElem?_eq_some_iff.1 hj).1
        rw [List.length_take] at hjl
        rw [List.getElem?_take_of_lt (by omega)] at hj
        have := nodup_ix HSH.out.1 hj hs
        omega
      have htk : L.take (i + 1) = L.take i ++ [s] := take_getS hs
      have hin : s ∈ L.take (i + 1) := by rw [htk]; simp
      have hnd : (L.take (i + 1)).Nodup := HSH.out.1.sublist (List.take_sublist _ _)
      have kA := (Keeps.refl (fun _ => False) wo).alloc (.cells #[.int .u32 (s : Int)] 82)
      have hsA := hst.keeps0 kA
      have hb9 := heap_alloc_new wo (.cells #[.int .u32 (s : Int)] 82)
      obtain ⟨W2, hrun, hI2, hk2⟩ := hsA.out.run_update_new (P := Tryz.prog) Tryz.underlying80 Tryz.underlying82 (outV_miss _ hnotin) (.int .i64 1000000000)
      have e1 : outV (L.take i) (start0 (goalB g0)) ++ [((s : Int), Value.int .i64 1000000000)] = outV (L.take (i + 1)) (upd (start0 (goalB g0)) s bigC) := by
        rw [htk, outV_snoc, upd_same, outV_congr (D := start0 (goalB g0)) (D' := upd (start0 (goalB g0)) s bigC) (fun x hx => (upd_ne _ _ (fun e => hnotin (by rw [← e]; exact hx))).symm)]
        rfl
      rw [e1] at hI2
      have hs2 := hsA.outed hI2 hk2
      have hbo : ¬ wo.heap.size = bo := by have := hst.out.lt; omega
      have hb92 : W2.heap[wo.heap.size]? = some (.cells #[.int .u32 (s : Int)] 82 (0, 0)) := hk2.heap hb9 hbo
      have c9 : W2.cell? ⟨wo.heap.size, 0, none⟩ = some (.int .u32 (s : Int)) := by rw [cell_of_blk hb92]; rfl
      have hb9l : wo.heap.size < W2.heap.size := lt_of_heap hb92
      have hm2 : Marks ds W2 w.heap.size := (HL.out.marks.keeps (KeepsD.of0 kA)).keeps (KeepsD.of hk2 (fun k hk => by subst hk; exact map_not_deferred hsA.out))
      have HS2 := Lib.hid hs2; have HB9 := Lib.hid hb92; have HM2 := Lib.hid hm2; have HTK := Lib.hid htk; have HIN := Lib.hid hin; have HND := Lib.hid hnd; have HNI := Lib.hid hnotin; have HSI := Lib.hid hs
      have HG9 := Lib.hid (show ∀ k, G k → k ≠ wo.heap.size from fun k hG => by have := (hst.lG k hG).2.1; omega)
      have HF9 := Lib.hid (show ∀ k, F k → k ≠ wo.heap.size from fun k hF => by have := (hst.lF k hF).2.1; omega)
      clear hx' hs hnotin htk hin hnd kA hsA hb9 hI2 hk2 e1 hs2 hb92 hm2 hst
      gi_wp2
      refine ⟨trivial, ?_⟩
      refine (callsIn_wide.2 (goal_any W2 base b st g0 s v ops (HW.out.keeps0 HS2.out.keep))).mono ?_; rintro e w3 ⟨rfl, q, rfl⟩
      rw [goal_bits hs32 hg0]
      have kq := (Keeps.refl (fun _ => False) W2).drewN q
      have HS3 := Lib.hid (HS2.out.keeps0 kq); have HB3 := Lib.hid (kq.heap HB9.out (fun h => h)); have HM3 := Lib.hid (HM2.out.keeps (KeepsD.of0 kq))
      have hb9q : wo.heap.size < (W2.drewN q).heap.size := hb9l
      clear kq HS2 HB9 HM2 c9 hb9l hrun hu
      generalize W2.drewN q = W3 at HS3 HB3 HM3 hb9q ⊢
      generalize hbb : wo.heap.size = b9 at HB3 HG9 HF9 hb9q hbo ⊢
      have c9 : W3.cell? ⟨b9, 0, none⟩ = some (.int .u32 (s : Int)) := by rw [cell_of_blk HB3.out]; rfl
      clear hbb
      have hTi : (L.take (i + 1))[i]? = some s := by rw [List.getElem?_take_of_lt (by omega)]; exact HSI.out
      have hbo' : ¬ b9 = bo := hbo
      cases hacc : goalB g0 s
      case' true =>
        have hst0 : start0 (goalB g0) s = 0 := by unfold start0; rw [if_pos hacc]
        obtain ⟨W4, hrun, hI4, hk4⟩ := HS3.out.out.run_update_old (P := Tryz.prog) Tryz.underlying80 Tryz.underlying82 (outV_nodup HND.out _) (outV_get _ hTi) (.int .i64 0)
        rw [outV_set HND.out _ hTi] at hI4
        have HS4 := Lib.hid ((HS3.out.outed hI4 hk4).congr (D' := start0 (goalB g0)) (fun x hx => by
          by_cases e : x = s
          · rw [e, upd_same, hst0]
          · rw [upd_ne _ _ e, upd_ne _ _ e]))
        have HM4 := Lib.hid (HM3.out.keeps (KeepsD.of hk4 (fun k hk => by subst hk; exact map_not_deferred HS3.out.out)))
        have HB4 := Lib.hid (hk4.heap HB3.out hbo')
        have c9' : W4.cell? ⟨b9, 0, none⟩ = some (.int .u32 (s : Int)) := by rw [cell_of_blk HB4.out]; rfl
        have hlen0 : (queue0 (goalB g0) (L.take i)).length ≤ 999999 := by have h1 := queue0_len (goalB g0) (L.take i); rw [List.length_take] at h1; omega
        clear hI4
        gi_wp2
        refine ⟨trivial, ?_⟩
        refine (callsIn_wide.2 (U.set_new W4 Q (queue0 (goalB g0) (L.take i)) t F HS4.out.q (s : Int) 0 (queue0_miss _ HNI.out) ⟨by omega, by omega⟩ hlen0)).mono ?_; rintro e W5 ⟨rfl, hq5, hk5⟩
        have hs5 := HS4.out.queued hq5 (fun k h => h) hk5
        rw [U.setA_new (queue0_miss _ HNI.out), show queue0 (goalB g0) (L.take i) ++ [((s : Int), (0 : Int))] = queue0 (goalB g0) (L.take (i + 1)) by rw [HTK.out, queue0_snoc, if_pos hacc]] at hs5
        have HSN : Hid (∃ (t' : Int) (F' : Nat → Prop), CSt w b5 mb bo Q (backF ops (L.take i)) (L.take (i + 1)) (start0 (goalB g0)) (queue0 (goalB g0) (L.take (i + 1))) t' F' G W5 ∧ 0 ≤ t' ∧ t' ≤ ((i + 1 : Nat) : Int)) := ⟨t + 1, _, hs5, by omega, by omega⟩
        have HMN := Lib.hid (HM4.out.keeps (HS4.out.kd hk5))
        have HBN := Lib.hid (hk5.heap HB4.out (fun e => HF9.out _ e rfl))
        clear hs5 hq5 hk5 HS4 HM4 HB4 HS3 HM3 HB3 hk4 hrun c9 c9' hst0
        generalize W5 = Wn at HSN HMN HBN ⊢
      case' false =>
        have hst0 : start0 (goalB g0) s = bigC := by unfold start0; rw [if_neg (by rw [hacc]; simp)]
        have HSN : Hid (∃ (t' : Int) (F' : Nat → Prop), CSt w b5 mb bo Q (backF ops (L.take i)) (L.take (i + 1)) (start0 (goalB g0)) (queue0 (goalB g0) (L.take (i + 1))) t' F' G W3 ∧ 0 ≤ t' ∧ t' ≤ ((i + 1 : Nat) : Int)) := by
          have h := HS3.out.congr (D' := start0 (goalB g0)) (fun x hx => by
            by_cases e : x = s
            · rw [e, upd_same, hst0]
            · rw [upd_ne _ _ e])
          rw [show queue0 (goalB g0) (L.take i) = queue0 (goalB g0) (L.take (i + 1)) by rw [HTK.out, queue0_snoc, if_neg (by rw [hacc]; simp), List.append_nil]] at h
          exact ⟨t, F, h, by omega, by omega⟩
        have HMN := HM3
        have HBN := HB3
        clear hst0 c9 HS3 HM3 HB3
        generalize W3 = Wn at HSN HMN HBN ⊢
      all_goals
        obtain ⟨t', F', hs5, ht0', ht1'⟩ := HSN.out
        have x5c := hs5.x5.cell
        have c9 : Wn.cell? ⟨b9, 0, none⟩ = some (.int .u32 (s : Int)) := by rw [cell_of_blk HBN.out]; rfl
        have hb9n := lt_of_heap HBN.out
        have HS5 := Lib.hid hs5
        clear hs5 HSN
        gi_wp2
        refine ⟨trivial, ?_⟩
        refine (callsIn_wide.2 (steps_any Wn b s)).mono ?_; rintro en w5 ⟨rfl, rfl⟩
        gi_wp2
        obtain ⟨W6, hW6⟩ : ∃ W6, ((Wn.alloc (.cells #[.pointer (some ⟨b, 0, none⟩)] 71)).alloc (.cells #[.int .u32 (s : Int)] 82)) = W6 := ⟨_, rfl⟩
        have hz6 : W6.heap.size = Wn.heap.size + 1 + 1 := by rw [← hW6]; simp
        have k6 : Keeps (fun _ => False) Wn W6 := by rw [← hW6]; exact ((Keeps.refl _ _).alloc _).alloc _
        have hBw : W6.cell? ⟨Wn.heap.size, 0, none⟩ = some (.pointer (some ⟨b, 0, none⟩)) := by
          rw [← hW6]; exact ((Boxed.new Wn _ _).alloc _).cell
        have hBs : W6.heap[Wn.heap.size + 1]? = some (.cells #[.int .u32 (s : Int)] 82 (0, 0)) := by
          rw [← hW6]
          have := heap_alloc_new (Wn.alloc (.cells #[.pointer (some ⟨b, 0, none⟩)] 71)) (.cells #[.int .u32 (s : Int)] 82)
          rwa [World.size_alloc] at this
        have hBsc : W6.cell? ⟨Wn.heap.size + 1, 0, none⟩ = some (.int .u32 (s : Int)) := by rw [cell_of_blk hBs]; rfl
        rw [hW6]
        have hlow4 : w.heap.size ≤ Wn.heap.size := HS5.out.keep.size
        have HG0 := Lib.hid (show ∀ k, G k → k ≠ Wn.heap.size + 1 from fun k hk => by have := (HS5.out.lG k hk).2.1; omega)
        have HF6 := Lib.hid (show ∀ k, F' k → k < W6.heap.size from fun k hk => by have := (HS5.out.lF k hk).2.1; omega)
        have HA6 := Lib.hid (HS5.out.keeps0 k6)
        have HM6 := Lib.hid (HMN.out.keeps (KeepsD.of0 k6))
        have HB96 := Lib.hid (k6.heap HBN.out (fun h => h))
        have HWW := Lib.hid (show ∃ w0 : World, WordsAt w0 base b st g0 v ops ∧ w0.heap.size ≤ w.heap.size ∧ Below w.heap.size w0 W6 from ⟨w, HW.out, Nat.le_refl _, HA6.out.keep.below⟩)
        have HBS := Lib.hid hBs
        have HWL := Lib.hid (show (wsteps ops s).length ≤ 40 from Nat.le_trans (wsteps_le ops s) hmany)
        have hb6 : w.heap.size ≤ W6.heap.size := by omega
        have hb96 : b9 < W6.heap.size := by omega
        have hbo6 : bo < W6.heap.size := HA6.out.out.lt
        have hmb6 : mb < W6.heap.size := HA6.out.back.lt
        have hbl : ∀ y, (backF ops (L.take i) y).length ≤ 80000 := fun y => by
          have h1 := backF_len hmany (L.take i) y
          rw [List.length_take] at h1; omega
        have HBL := Lib.hid hbl
        clear hBs HMN HBN HS5 x5c c9 hbl
        refine wpIn_rangeFunc_ownH (α := StpOf ops s) rfl (by omega) (gf := 121) (lb := #[.pointer (some ⟨Wn.heap.size, 0, none⟩), .pointer (some ⟨Wn.heap.size + 1, 0, none⟩)]) rfl trivial (enters_of Tryz.func121 (by kernel_rfl) rfl)
          (steps_stops Fence.wide 8 trivial rfl (by omega) Wn.heap.size (Wn.heap.size + 1) w.heap.size base b st g0 s v ops hops (by omega) hs32 W6 (by omega) hBw hBsc (by omega) (by omega) HWW.out)
          KpS.trans (kpS_b (by omega) (by omega)) (Below.refl _ _) (fun _ => rfl)
          (fun pre W => CI w b5 mb bo Q (backF ops (L.take i)) (L.take (i + 1)) (start0 (goalB g0)) (queue0 (goalB g0) (L.take (i + 1))) t' F' s ds (Wn.heap.size + 1) b9 (pre.map fun y => y.1) W)
          (fun _ _ _ => False) ?_ (fun _ _ _ _ _ hs _ _ => hs) ?_
          (fun (y : StpOf ops s) (a' : Act) (W : World) => ∃ Bx : Nat, W.heap[Bx]? = some (Obj.cells #[.int .i64 (y.1.op : Int), .int .i64 y.1.cost, .int .u32 (y.1.to : Int)] 145 (0, 0)) ∧ ∃ u : Nat → Value, a' = { tmps := #[.pointer (some ⟨b, 0, none⟩), .slice (some ⟨bl, ol, none⟩) L.length cv, undef, undef, .map none, .pointer (some ⟨b5, 0, none⟩), .map (some bo), .pointer (some ⟨Q, 0, none⟩), u 8, .pointer (some ⟨b9, 0, none⟩), .pointer (some ⟨Bx, 0, none⟩), u 11, u 12, u 13, u 14, u 15, u 16, u 17, u 18, u 19, u 20, u 21, u 22, u 23, u 24, u 25, u 26, u 27, u 28, u 29, u 30, u 31, u 32, u 33, u 34, u 35, u 36, u 37, u 38, u 39, u 40, u 41, u 42, u 43, u 44, u 45, u 46, u 47, u 48, u 49, u 50, u 51, u 52, u 53, u 54, u 55, u 56, u 57, u 58, u 59, u 60, u 61, u 62, u 63, u 64, u 65, u 66, u 67, u 68, u 69, u 70, u 71, u 72, u 73, u 74, u 75, u 76, u 77, u 78, u 79, u 80, u 81, u 82, u 83, u 84, u 85, u 86, u 87, u 88, u 89, u 90, u 91, u 92, u 93, u 94, u 95], defers := [] }) ?_ ?_ ?_ ?_ ?_
        · intro l W W' row hs hg hr
          obtain ⟨G', h1, h2, h3, h4, h5⟩ := hs
          exact ⟨G', h1.steady hg hr hb6 hbo6 hmb6 HF6.out, Marks.steady HM6.out h2 hg hr, steady_heap hg (fun r e => (hr r e).2) h3, steady_heap hg (fun r e => (hr r e).2) h4, h5⟩
        · exact ⟨G, by simpa [addB_nil] using HA6.out, HM6.out, HBS.out, HB96.out, fun k hk => ⟨HG0.out k hk, HG9.out k hk⟩⟩
        · intro y a' _ W W' row hs hg hr
          obtain ⟨Bx, h1, h2⟩ := hs
          exact ⟨Bx, steady_heap hg (fun r e => (hr r e).2) h1, h2⟩
        · intro l pre y W K hi hK
          simp only [Stp.val]
          gi_wp2
          obtain ⟨G', h1, h2, h3, h4, h5⟩ := hi
          exact hK _ _ ((KeepsOthers.alloc _ _).from _) ((KpS.refl _ _ W).alloc h1.keep.size (lt_of_heap h3) _) ⟨G', h1.keeps0 ((Keeps.refl _ _).alloc _), h2.keeps (KeepsD.of0 ((Keeps.refl _ _).alloc _)), ((Keeps.refl (fun _ => False) W).alloc _).heap h3 (fun h => h), ((Keeps.refl (fun _ => False) W).alloc _).heap h4 (fun h => h), h5⟩ ⟨W.heap.size, heap_alloc_new W _, ex_fnD rfl⟩
        · rintro l pre y a' W hl - ⟨G', h1, h2, h3, h4, h5⟩ ⟨Bx, hBx, u', rfl⟩ hlt2
          have x5c := h1.x5.cell
          have x5l := h1.x5.lt
          have c9 : W.cell? ⟨b9, 0, none⟩ = some (.int .u32 (s : Int)) := by rw [cell_of_blk h4]; rfl
          have y1 : W.cell? ⟨Bx, 1, none⟩ = some (.int .i64 y.1.cost) := by rw [cell_of_blk hBx]; rfl
          have y2 : W.cell? ⟨Bx, 2, none⟩ = some (.int .u32 (y.1.to : Int)) := by rw [cell_of_blk hBx]; rfl
          have hBxl := lt_of_heap hBx
          have l9 := lt_of_heap h4
          have KD := (Keeps.refl (fun _ => False) W).drew
          obtain ⟨va, ⟨ml, hml, hlk⟩, hown, hvG, hturn⟩ := (h1.keeps0 KD).back.turn (P := Tryz.prog) Tryz.underlying137 Tryz.underlying82 (show (zeroValue 146).run Tryz.prog W.drew = .ok (.slice none 0 0) W.drew by kernel_rfl) y.1.to
          have hlk2 : ∀ W', IMap W' mb .u32 ml → (Instr.lookup 137 (.map (some mb)) (.int .u32 (y.1.to : Int)) false).run Tryz.prog W' = .ok va W' := fun W' h => hlk W' h (by kernel_rfl)
          have hnb : (addB (backF ops (L.take i)) s (pre.map fun y => y.1) y.1.to).length ≤ 80040 := by
            have e1 := addB_len (backF ops (L.take i)) s (pre.map fun y => y.1) y.1.to
            have e2 := HBL.out y.1.to
            have e3 := HWL.out
            rw [List.length_map] at e1
            omega
          have hsn := addB_snoc (backF ops (L.take i)) s (pre.map fun y => y.1) y.1
          have hrowa := World.ownsRow.alloc (hown) (.cells #[.int .u32 (s : Int), .int .i64 y.1.cost] 148)
          have hbase := h1.keep.size
          have hvx : ∀ k, va.ownBlock = some k → k ≠ Bx := fun k hk e => by
            subst e
            rcases hown.2 with ⟨e', _⟩ | ⟨g, cap, cur, e', _, hg, _⟩
            · rw [e'] at hk; simp [Value.ownBlock] at hk
            · rw [e'] at hk; simp [Value.ownBlock] at hk
              subst hk
              have h := (show W.drew.heap[g]? = _ from hg).symm.trans (show W.drew.heap[g]? = _ from KD.heap hBx (fun h => h))
              simp at h
          have x5k : ¬ va.ownBlock = some b5 := fun e => (h1.lG _ (hvG _ e).1).2.2.1 rfl
          have H1 := Lib.hid h1; have H2 := Lib.hid h2; have H3 := Lib.hid h3; have H4 := Lib.hid h4; have H5 := Lib.hid h5; have HSN := Lib.hid hsn; have HT := Lib.hid hturn; have HVG := Lib.hid hvG; have HOW := Lib.hid hown; have HROW := Lib.hid hrowa; have HVX := Lib.hid hvx; have HML := Lib.hid hml; have HLK := Lib.hid hlk2
          clear h1 h2 h3 h4 h5 hsn hturn hvG hown hrowa hBx hlk hlk2 hml hvx
          generalize hnn : (addB (backF ops (L.take i)) s (pre.map fun y => y.1) y.1.to).length = nb at hnb HROW HOW HT
          generalize hxx : (addB (backF ops (L.take i)) s (pre.map fun y => y.1) y.1.to).flatMap arcC = xs at HROW HOW HT
          gi_wp2
          refine wpIn_region_held (fun W => W.cell? ⟨b5, 0, none⟩ = some (.map (some mb)) ∧ W.cell? ⟨b9, 0, none⟩ = some (.int .u32 (s : Int)) ∧ W.cell? ⟨Bx, 1, none⟩ = some (.int .i64 y.1.cost) ∧ W.cell? ⟨Bx, 2, none⟩ = some (.int .u32 (y.1.to : Int)) ∧ IMap W mb .u32 ml) (fun j => decide (13 ≤ j)) hmix ?_
          have HS0 : Hid (W.drew.cell? ⟨b5, 0, none⟩ = some (.map (some mb)) ∧ W.drew.cell? ⟨b9, 0, none⟩ = some (.int .u32 (s : Int)) ∧ W.drew.cell? ⟨Bx, 1, none⟩ = some (.int .i64 y.1.cost) ∧ W.drew.cell? ⟨Bx, 2, none⟩ = some (.int .u32 (y.1.to : Int)) ∧ IMap W.drew mb .u32 ml) := ⟨x5c, c9, y1, y2, HML.out⟩
          refine wpAnyHIn_take (Wide.wide.inRound l) 0 (.map (some mb)) rfl (by kernel_rfl) (by kernel_rfl) (by kernel_rfl) (by kernel_rfl) (by kernel_rfl) (fun _ _ _ h => h) HS0.out ?_ rfl ?_
          · rintro W ⟨s1, s2, s3, s4, s5⟩; go_simp
          refine wpAnyHIn_take (Wide.wide.inRound l) 1 (.pointer (some ⟨Bx, 2, none⟩)) rfl (by kernel_rfl) (by kernel_rfl) (by kernel_rfl) (by kernel_rfl) (by kernel_rfl) (fun _ _ _ h => h) HS0.out ?_ rfl ?_
          · rintro W ⟨s1, s2, s3, s4, s5⟩; go_simp
          refine wpAnyHIn_take (Wide.wide.inRound l) 2 (.int .u32 (y.1.to : Int)) rfl (by kernel_rfl) (by kernel_rfl) (by kernel_rfl) (by kernel_rfl) (by kernel_rfl) (fun _ _ _ h => h) HS0.out ?_ rfl ?_
          · rintro W ⟨s1, s2, s3, s4, s5⟩; go_simp
          refine wpAnyHIn_take (Wide.wide.inRound l) 3 (.map (some mb)) rfl (by kernel_rfl) (by kernel_rfl) (by kernel_rfl) (by kernel_rfl) (by kernel_rfl) (fun _ _ _ h => h) HS0.out ?_ rfl ?_
          · rintro W ⟨s1, s2, s3, s4, s5⟩; go_simp
          refine wpAnyHIn_take (Wide.wide.inRound l) 4 (.pointer (some ⟨Bx, 2, none⟩)) rfl (by kernel_rfl) (by kernel_rfl) (by kernel_rfl) (by kernel_rfl) (by kernel_rfl) (fun _ _ _ h => h) HS0.out ?_ rfl ?_
          · rintro W ⟨s1, s2, s3, s4, s5⟩; go_simp
          refine wpAnyHIn_take (Wide.wide.inRound l) 5 (.int .u32 (y.1.to : Int)) rfl (by kernel_rfl) (by kernel_rfl) (by kernel_rfl) (by kernel_rfl) (by kernel_rfl) (fun _ _ _ h => h) HS0.out ?_ rfl ?_
          · rintro W ⟨s1, s2, s3, s4, s5⟩; go_simp
          refine wpAnyHIn_take (Wide.wide.inRound l) 6 (va) rfl (by kernel_rfl) (by kernel_rfl) (by kernel_rfl) (by kernel_rfl) (by kernel_rfl) (fun _ _ _ h => h) HS0.out ?_ rfl ?_
          · rintro W ⟨s1, s2, s3, s4, s5⟩; have s6 := HLK.out W s5; go_simp
          refine wpAnyHIn_take (Wide.wide.inRound l) 7 (.int .u32 (s : Int)) rfl (by kernel_rfl) (by kernel_rfl) (by kernel_rfl) (by kernel_rfl) (by kernel_rfl) (fun _ _ _ h => h) HS0.out ?_ rfl ?_
          · rintro W ⟨s1, s2, s3, s4, s5⟩; go_simp
          refine wpAnyHIn_take (Wide.wide.inRound l) 8 (.pointer (some ⟨Bx, 1, none⟩)) rfl (by kernel_rfl) (by kernel_rfl) (by kernel_rfl) (by kernel_rfl) (by kernel_rfl) (fun _ _ _ h => h) HS0.out ?_ rfl ?_
          · rintro W ⟨s1, s2, s3, s4, s5⟩; go_simp
          refine wpAnyHIn_take (Wide.wide.inRound l) 9 (.int .i64 y.1.cost) rfl (by kernel_rfl) (by kernel_rfl) (by kernel_rfl) (by kernel_rfl) (by kernel_rfl) (fun _ _ _ h => h) HS0.out ?_ rfl ?_
          · rintro W ⟨s1, s2, s3, s4, s5⟩; go_simp
          refine wpAnyHIn_take (Wide.wide.inRound l) 10 (.agg #[.int .u32 (s : Int), .int .i64 y.1.cost]) rfl (by kernel_rfl) (by kernel_rfl) (by kernel_rfl) (by kernel_rfl) (by kernel_rfl) (fun _ _ _ h => h) HS0.out ?_ rfl ?_
          · rintro W ⟨s1, s2, s3, s4, s5⟩; go_simp
          have KA := (Keeps.refl (fun _ => False) W.drew).alloc (.cells #[.int .u32 (s : Int), .int .i64 y.1.cost] 148)
          have HS1 : Hid ((W.drew.alloc (.cells #[.int .u32 (s : Int), .int .i64 y.1.cost] 148)).cell? ⟨b5, 0, none⟩ = some (.map (some mb)) ∧ (W.drew.alloc (.cells #[.int .u32 (s : Int), .int .i64 y.1.cost] 148)).cell? ⟨b9, 0, none⟩ = some (.int .u32 (s : Int)) ∧ (W.drew.alloc (.cells #[.int .u32 (s : Int), .int .i64 y.1.cost] 148)).cell? ⟨Bx, 1, none⟩ = some (.int .i64 y.1.cost) ∧ (W.drew.alloc (.cells #[.int .u32 (s : Int), .int .i64 y.1.cost] 148)).cell? ⟨Bx, 2, none⟩ = some (.int .u32 (y.1.to : Int)) ∧ IMap (W.drew.alloc (.cells #[.int .u32 (s : Int), .int .i64 y.1.cost] 148)) mb .u32 ml) := by
            obtain ⟨s1, s2, s3, s4, s5⟩ := HS0.out
            exact ⟨KA.cell s1 (fun h => h), KA.cell s2 (fun h => h), KA.cell s3 (fun h => h), KA.cell s4 (fun h => h), s5.keeps KA (fun h => h)⟩
          clear x5c c9 y1 y2
          refine wpAnyHIn_one 11 rfl (by kernel_rfl) rfl (fun K hK => ?_)
          go_simp
          refine hK _ _ (fun _ => HS1.out) ?_
          clear hK K
          refine wpAnyHIn_one 12 rfl (by kernel_rfl) rfl (fun K hK => ?_)
          refine Oper.wpIn_append_lies _ (.tmp 45) (.tmp 50) 146 rfl w.heap.size 148 i0 _ 2 16 Tryz.underlying146 hi0 hz0 hz1 hz2 rfl (by omega) va nb xs rfl HROW.out ⟨W.heap.size, 0, none⟩ 1 1 [.int .u32 (s : Int), .int .i64 y.1.cost] rfl rfl ?hnews ?hone (by omega) (by unfold maxLen; omega) (by omega) (by simp; omega) (W.heap.size + 1) (by simp) ?_
          case hnews => exact World.news_of_block (cs := #[.int .u32 (s : Int), .int .i64 y.1.cost]) (t := 148) (fr := (0, 0)) (heap_alloc_new W.drew _)
          case hone => simp [Value.oneCell']
          intro g4 cap4 W3 hown2 hgrow2 hat2 hlt4
          obtain ⟨W4, hrunU, hG4, hk4⟩ := HT.out (W.drew.alloc (.cells #[.int .u32 (s : Int), .int .i64 y.1.cost] 148)) W3 _ (s, y.1.cost) ((Keeps.refl _ _).alloc _) hgrow2 hown2 (fun g hg => by
            simp [Value.ownBlock] at hg
            subst hg
            rcases hat2 with h | h
            · exact .inl h
            · exact .inr (by simp; omega))
          have k3 : Keeps (fun k => va.ownBlock = some k) (W.drew.alloc (.cells #[.int .u32 (s : Int), .int .i64 y.1.cost] 148)) W3 := (Keeps.refl _ _).grown hgrow2 (fun k hk => .inl hk)
          have n9 : ¬ va.ownBlock = some b9 := fun e => (H5.out _ (HVG.out _ e).1).2 rfl
          have nx : ¬ va.ownBlock = some Bx := fun e => HVX.out _ e rfl
          have nm : ¬ va.ownBlock = some mb := fun e => (HVG.out _ e).2 rfl
          have HS3 : Hid (W3.cell? ⟨b5, 0, none⟩ = some (.map (some mb)) ∧ W3.cell? ⟨b9, 0, none⟩ = some (.int .u32 (s : Int)) ∧ W3.cell? ⟨Bx, 1, none⟩ = some (.int .i64 y.1.cost) ∧ W3.cell? ⟨Bx, 2, none⟩ = some (.int .u32 (y.1.to : Int)) ∧ IMap W3 mb .u32 ml) := by
            obtain ⟨s1, s2, s3, s4, s5⟩ := HS1.out
            exact ⟨k3.cell s1 x5k, k3.cell s2 n9, k3.cell s3 nx, k3.cell s4 nx, s5.keeps k3 nm⟩
          have HKF := Lib.hid (show Keeps (fun k => va.ownBlock = some k ∨ k = mb) W W4 from ((KD.mono (fun _ _ h => h.elim)).trans (KA.mono (fun _ _ h => h.elim))).trans ((k3.mono (fun _ _ h => .inl h)).trans (hk4.mono (fun _ _ h => .inr h))))
          have HG4 := Lib.hid hG4; have HRU := Lib.hid hrunU
          clear hown2 hgrow2 hat2 hlt4 hG4 k3 n9 nx nm KA HS1 hk4 hrunU
          refine hK _ _ (fun _ => HS3.out) ?_
          clear hK K
          have hrunU := HRU.out
          refine wpAnyHIn_one 13 rfl (by kernel_rfl) rfl (fun K hK => ?_)
          go_simp
          refine hK _ _ (fun h => by simp at h) ?_
          clear hK K
          refine wpAnyHIn_done (by kernel_rfl) ?_
          gi_wp2
          have hSG : ∀ k, (va.ownBlock = some k ∨ k = mb) → G' k := fun k hs => by
            rcases hs with h | rfl
            · exact (HVG.out k h).1
            · exact H1.out.back.fmap
          have hSD : ∀ k, (va.ownBlock = some k ∨ k = mb) → W.heap[k]? ≠ some (.deferred (some [])) := fun k hs => by
            rcases hs with h | rfl
            · exact (show W.drew.heap[k]? ≠ _ from row_not_deferred HOW.out k h)
            · exact (show W.drew.heap[k]? ≠ _ from map_not_deferred HML.out)
          have e1 : addB (backF ops (L.take i)) s ((pre ++ [y]).map fun y => y.1) = fun z => if z = y.1.to then addB (backF ops (L.take i)) s (pre.map fun y => y.1) y.1.to ++ [(s, y.1.cost)] else addB (backF ops (L.take i)) s (pre.map fun y => y.1) z := by rw [List.map_append]; exact HSN.out
          refine ⟨⟨HKF.out.size, fun k o hB hk0 hc => ?_⟩, KpS.ofKeeps HKF.out H1.out.keep.size (fun k hlt hs => by have := (H1.out.lG k (hSG k hs)).1; omega) (lt_of_heap H3.out) (fun hs => (H5.out _ (hSG _ hs)).1 rfl), ⟨fun k => k < W4.heap.size ∧ (G' k ∨ W.drew.heap.size ≤ k), ?_, H2.out.keeps (KeepsD.of HKF.out hSD), HKF.out.heap H3.out (fun hs => (H5.out _ (hSG _ hs)).1 rfl), HKF.out.heap H4.out (fun hs => (H5.out _ (hSG _ hs)).2 rfl), fun k hk => ?_⟩⟩
          · refine HKF.out.heap hk0 (fun hs => ?_)
            rcases hs with h | rfl
            · rcases HOW.out.2 with ⟨e', _⟩ | ⟨g, cap, cur, e', _, hg, _⟩
              · rw [e'] at h; simp [Value.ownBlock] at h
              · rw [e'] at h; simp [Value.ownBlock] at h
                subst h
                rw [show W.heap[g]? = _ from hg] at hk0; cases hk0; cases hc
            · omega
          · rw [e1]
            exact H1.out.backed HG4.out (fun k h => h) HKF.out hSG
          · rcases hk.2 with h | h
            · exact H5.out k h
            · have h1 := lt_of_heap H3.out
              have h2 := lt_of_heap H4.out
              have h3 : W.heap.size ≤ k := h
              exact ⟨by omega, by omega⟩
        · rintro D ys W hD hys ⟨G', h1, h2, h3, h4, h5⟩ hd
          have hys' : (ys.map fun y => y.1) = wsteps ops s := hys
          rw [hys', ← backF_snoc, ← HTK.out] at h1
          have HM7 := Lib.hid (HM6.out.cons h2 hD (by omega) hd)
          have HST := Lib.hid (show CLoop ops (goalB g0) L w b5 mb bo Q (i + 1) (mark D :: ds) W from ⟨⟨t', F', G', h1, ht0', ht1'⟩, HM7.out⟩)
          clear h1 h2 h3 h4 h5 hd hys hys'
          gi_wp2
          refine ⟨⟨mark D :: ds, i + 1, HST.out, by omega, ex_fnD rfl⟩, ?_⟩
          show L.length - (intOf (.int .i64 (((i + 1 : Nat) : Int)))).toNat < L.length - (intOf (.int .i64 (i : Int))).toNat
          simp only [intOf]; omega
        · exact fun _ _ _ _ _ _ h _ => h.elim
    · have hie : i = L.length := by omega
      subst hie
      rw [List.take_length] at hst
      have HST := Lib.hid hst; have HMK := Lib.hid HL.out.marks
      have hl0 := (LInv.start HSH.out (goalB g0) 0)
      have hw0 := weightC_bound (d := L.map (start0 (goalB g0))) (fun x hx => by
        obtain ⟨y, _, rfl⟩ := List.mem_map.1 hx
        unfold start0; split <;> decide)
      rw [List.length_map] at hw0
      have hbig : bigC = 1000000000 := rfl
      rw [hbig] at hw0
      have HL0 := Lib.hid hl0
      have hq0 := queue0_len (goalB g0) L
      have HW0 := Lib.hid hw0
      clear hst HL hl0 hw0 hq0
      gi_wp2
      refine wpIn_loop_ghost (fun n a' wr => ∃ (D : Nat → Int) (A : List (Int × Int)) (t : Int) (F G : Nat → Prop), CSt w b5 mb bo Q (backF ops L) L D A t F G wr ∧ LInv ops L (goalB g0) D A 0 [] ∧ 0 ≤ t ∧ t + (weightC (L.map D) : Int) ≤ 2000000002000 ∧ n = 2 * weightC (L.map D) + A.length ∧ Marks ds wr w.heap.size ∧
          ∃ u : Nat → Value, a' = { tmps := #[.pointer (some ⟨b, 0, none⟩), .slice av L.length cv, undef, undef, .map none, .pointer (some ⟨b5, 0, none⟩), .map (some bo), .pointer (some ⟨Q, 0, none⟩), u 8, u 9, u 10, u 11, u 12, u 13, u 14, u 15, u 16, u 17, u 18, u 19, u 20, u 21, u 22, u 23, u 24, u 25, u 26, u 27, u 28, u 29, u 30, u 31, u 32, u 33, u 34, u 35, u 36, u 37, u 38, u 39, u 40, u 41, u 42, u 43, u 44, u 45, u 46, u 47, u 48, u 49, u 50, u 51, u 52, u 53, u 54, u 55, u 56, u 57, u 58, u 59, u 60, u 61, u 62, u 63, u 64, u 65, u 66, u 67, u 68, u 69, u 70, u 71, u 72, u 73, u 74, u 75, u 76, u 77, u 78, u 79, u 80, u 81, u 82, u 83, u 84, u 85, u 86, u 87, u 88, u 89, u 90, u 91, u 92, u 93, u 94, u 95], defers := ds })
        (2 * weightC (L.map (start0 (goalB g0))) + (queue0 (goalB g0) L).length) ?start2 ?round2
      case start2 => exact ⟨_, _, t, F, G, HST.out, HL0.out, ht0, by have := HW0.out; omega, rfl, HMK.out, ex_fnD rfl⟩
      case round2 =>
        rintro n a wr ⟨D, A, t, F, G, hst, hli, ht0, htw, rfl, hmk, u, rfl⟩
        have HS := Lib.hid hst; have HLI := Lib.hid hli; have HMR := Lib.hid hmk
        clear hst hli hmk HST HL0 HMK HW0
        gi_wp2
        refine ⟨trivial, ?_⟩
        refine (callsIn_wide.2 (U.qlen_any wr Q A t F HS.out.q)).mono ?_; rintro e w2 ⟨rfl, rfl⟩
        by_cases hA : A = []
        · subst hA
          gi_wp2
          refine leaves_marks HMR.out (fun W' hk => ?_)
          exact ⟨.map (some bo), by simp [results, Tryz.results59, go_sem], HS.out.keep.trans' hk (fun i hi => .inr hi.1), bo, D, rfl, HS.out.lo, HS.out.out.keeps hk (fun hs => map_not_deferred HS.out.out hs.2), HLI.out.done⟩
        · cases hfm : U.firstMin A with
          | none => exact absurd (U.firstMin_none.1 hfm) hA
          | some q =>
            obtain ⟨s, hsL, rfl, hsb⟩ := HLI.out.key q (U.firstMin_mem hfm)
            have hpos : 0 < A.length := List.length_pos_iff.2 hA
            have hposi : (0 : Int) < (A.length : Int) := by omega
            have HFM := Lib.hid hfm
            clear hA hfm
            gi_wp2
            refine ⟨trivial, ?_⟩
            refine (callsIn_wide.2 (U.take_some wr Q A t F HS.out.q (s : Int) (D s) HFM.out)).mono ?_; rintro e W2 ⟨rfl, hq2, hk2⟩
            have hs2 : CSt w b5 mb bo Q (backF ops L) L D (dropA A s) t (fun k => F k ∧ k < W2.heap.size ∧ W2.heap[k]? ≠ some (.deferred (some []))) G W2 := HS.out.queued hq2 (fun k h => .inl h) hk2
            have hmk2 := HMR.out.keeps (HS.out.kd hk2)
            have hli2 : LInv ops L (goalB g0) D (dropA A s) s (backF ops L s) := HLI.out.take (fun x hx o ho hc hn => backF_mem hx ho hc hn)
            have hdl := dropA_len (U.firstMin_mem HFM.out)
            have hnb : (backF ops L s).length ≤ 80000 := by have h1 := backF_len hmany L s; omega
            obtain ⟨va, hlk, hown, hvG⟩ := hs2.back.look (P := Tryz.prog) Tryz.underlying137 Tryz.underlying82 (show (zeroValue 146).run Tryz.prog W2 = .ok (.slice none 0 0) W2 by kernel_rfl) s
            obtain ⟨ab, cb, hav⟩ := ownsRow_formN hown
            subst hav
            have x5c := hs2.x5.cell
            have x5l := hs2.x5.lt
            generalize (fun k => F k ∧ k < W2.heap.size ∧ W2.heap[k]? ≠ some (.deferred (some []))) = F2 at hs2
            have HS2 := Lib.hid hs2; have HM2 := Lib.hid hmk2; have HLI2 := Lib.hid hli2; have HRW := Lib.hid hown
            have HVG := Lib.hid (show ∀ k, (Value.slice ab (backF ops L s).length cb).ownBlock = some k → G k from fun k hk => (hvG k hk).1)
            have hM : 2 * weightC (L.map D) + (dropA A s).length < 2 * weightC (L.map D) + A.length := by omega
            clear hs2 hmk2 hli2 hown hvG hq2 hk2 HS HMR HLI HFM hpos hdl
            generalize hnn : (backF ops L s).length = nb at hnb HRW HVG hlk ⊢
            generalize hMM : 2 * weightC (L.map D) + A.length = M0 at hM ⊢
            generalize hdd : D s = d at hsb ⊢
            have HNN := Lib.hid hnn
            have HMM := Lib.hid hMM
            clear hnn hMM hposi
            gi_wp2
            have hdl2 : D s = d := hdd
            refine wpIn_loop (fun a' wx => ∃ k : Nat, CS3 ops L g0 w b5 mb bo Q G s d M0 (.slice ab nb cb) nb ds k wx ∧ k ≤ nb ∧ Fr3 b av L cv b5 bo Q s d ab nb cb k ds a')
              (fun a' _ => nb - (intOf (a'.tmps.getD 66 undef)).toNat) ?start3 ?round3
            case start3 => exact ⟨0, ⟨D, dropA A s, t, ⟨F2, HS2.out⟩, HLI2.out, hdd, ht0, htw, hM, HM2.out, HRW.out⟩, Nat.zero_le _, ex_fnD rfl⟩
            case round3 =>
              rintro a wx ⟨k, ⟨D', A', t', ⟨F', hst⟩, hli, hds, ht0, htw, hM, hmk, hrow⟩, hk, u, rfl⟩
              clear HS2 HLI2 HM2 HRW x5c x5l hlk
              by_cases hlt : k < nb
              · obtain ⟨⟨x, c⟩, hp⟩ : ∃ p, (backF ops L s)[k]? = some p := ⟨_, List.getElem?_eq_getElem (by rw [HNN.out]; exact hlt)⟩
                obtain ⟨hxL, o, ho, hoc, hon, hcost⟩ := backF_spec (List.mem_of_getElem? hp)
                obtain ⟨gg, cap, hv, hgl, e0, e1⟩ := arow_at (by rw [HNN.out]; exact hrow) hp
                simp only [Value.slice.injEq] at hv
                obtain ⟨rfl, hmid, rfl⟩ := hv
                clear hmid
                simp only at hxL hoc hon hcost e0 e1
                have hc0 := HCO.out o ho
                rw [hcost] at hc0
                have hdrop := drop_getS hp
                rw [hdrop] at hli
                have hdlo : 0 ≤ d := by rw [← hds]; exact (hli.inv.lo (D' s) (List.mem_map.2 ⟨s, hsL, rfl⟩)).1
                have hxlo := hli.inv.lo (D' x) (List.mem_map.2 ⟨x, hxL, rfl⟩)
                have hbig2 : bigC = 1000000000 := rfl
                rw [hbig2] at hxlo hsb
                have hql : A'.length ≤ 2000 := by
                  obtain ⟨_, _, _, _, _, hqr⟩ := hst.q
                  have := hli.few hqr.ndA; omega
                have KA := (Keeps.refl (fun _ => False) wx).alloc (.cells #[.int .u32 (x : Int), .int .i64 c] 148)
                have hsA := hst.keeps0 KA
                have hb15 := heap_alloc_new wx (.cells #[.int .u32 (x : Int), .int .i64 c] 148)
                have hlko := (hsA.out.run_lookup_hit (P := Tryz.prog) Tryz.underlying80 Tryz.underlying82 (outV_nodup HSH.out.1 D') (outV_mem D' hxL)).2
                have hrA := KA.ownsRow hrow (fun _ _ h => h)
                have hmA := hmk.keeps (KeepsD.of0 KA)
                have HSA := Lib.hid hsA; have HLI := Lib.hid hli; have HMA := Lib.hid hmA; have HRA := Lib.hid hrA; have HB15 := Lib.hid hb15
                clear hst hli hmk hrow hp hdrop hsA hmA hrA KA hb15
                by_cases hlow : d + c < D' x
                · obtain ⟨ix, hix⟩ := List.mem_iff_getElem?.1 hxL
                  obtain ⟨W4, hrunU, hI4, hk4⟩ := HSA.out.out.run_update_old (P := Tryz.prog) Tryz.underlying80 Tryz.underlying82 (outV_nodup HSH.out.1 D') (outV_get D' hix) (.int .i64 (d + c))
                  rw [outV_set HSH.out.1 D' hix] at hI4
                  have hbo15 : ¬ wx.heap.size = bo := fun e => by
                    obtain ⟨es, cc, hb, _⟩ := HSA.out.out
                    rw [← e, HB15.out] at hb; cases hb
                  have hb4 := hk4.heap HB15.out hbo15
                  have c150 : W4.cell? ⟨wx.heap.size, 0, none⟩ = some (.int .u32 (x : Int)) := by rw [cell_of_blk hb4]; rfl
                  have c151 : W4.cell? ⟨wx.heap.size, 1, none⟩ = some (.int .i64 c) := by rw [cell_of_blk hb4]; rfl
                  have hb4l := lt_of_heap hb4
                  have HS4 := Lib.hid (HSA.out.outed hI4 hk4)
                  have HM4 := Lib.hid (HMA.out.keeps (KeepsD.of hk4 (fun k hk => by subst hk; exact map_not_deferred HSA.out.out)))
                  have HR4 := Lib.hid (hk4.ownsRow HRA.out (fun k hk e => by subst e; exact (HSA.out.lG _ (HVG.out _ hk)).2.2.2 rfl))
                  clear hI4 hk4 hb4
                  gi_wp2
                  refine ⟨trivial, ?_⟩
                  refine (callsIn_wide.2 (U.set_both W4 Q A' t' F' HS4.out.q (x : Int) (d + c) ⟨ht0, by omega⟩ (by omega))).mono ?_; rintro e W5 ⟨rfl, F5, hq5, hF5, hk5⟩
                  have HS5 := Lib.hid (HS4.out.queued hq5 hF5 hk5)
                  have HM5 := Lib.hid (HM4.out.keeps (HS4.out.kd hk5))
                  have HR5 := Lib.hid (hk5.ownsRow HR4.out (fun k hk hF => (HS4.out.lF k hF).2.2.2.2 (HVG.out k hk)))
                  have hturn := HLI.out.turn HSH.out.1 hsL hxL ho hoc hon hcost hc0.1 (by rw [hds]; exact hsb) (by rw [hds]; exact hlow)
                  rw [hds] at hturn
                  obtain ⟨t1, t2, t3, t4⟩ := hturn
                  have hpl := putA_len A' (x : Int) (d + c)
                  have HT1 := Lib.hid t1
                  clear t1 hq5 hF5 hk5 HS4 HM4 HR4 HSA HLI HMA HRA HB15 hrunU hlko c150 c151
                  gi_wp2
                  refine ⟨⟨k + 1, ⟨upd D' x (d + c), putA A' (x : Int) (d + c), t' + 1, ⟨_, HS5.out⟩, HT1.out, t3, by omega, by omega, by omega, HM5.out, HR5.out⟩, by omega, ex_fnD rfl⟩, ?_⟩
                  show nb - (intOf (.int .i64 (((k + 1 : Nat) : Int)))).toNat < nb - (intOf (.int .i64 (k : Int))).toNat
                  simp only [intOf]; omega
                · have HT1 := Lib.hid (HLI.out.skip (by rw [hds]; omega))
                  gi_wp2
                  refine ⟨⟨k + 1, ⟨D', A', t', ⟨F', HSA.out⟩, HT1.out, hds, ht0, htw, hM, HMA.out, HRA.out⟩, by omega, ex_fnD rfl⟩, ?_⟩
                  show nb - (intOf (.int .i64 (((k + 1 : Nat) : Int)))).toNat < nb - (intOf (.int .i64 (k : Int))).toNat
                  simp only [intOf]; omega
              · have hke : k = nb := by omega
                subst hke
                rw [List.drop_of_length_le (by rw [HNN.out]; exact Nat.le_refl _)] at hli
                have HSX := Lib.hid hst; have HLX := Lib.hid (hli.anyS (s' := 0)); have HMX := Lib.hid hmk
                clear hst hli hmk hrow
                gi_wp2
                exact ⟨_, by rw [HMM.out]; exact hM, D', A', t', F', G, HSX.out, HLX.out, ht0, htw, rfl, HMX.out, ex_fnD rfl⟩

theorem costs_any (w : World) (b st g0 base : Nat) (v vl : Value) (ops : List Wop) (L : List Nat) (hw : WordsAt w base b st g0 v ops) (hops : WopsOk ops) (hmany : ops.length ≤ 40) (hg0 : g0 < 4294967296) (hsh : Shut ops L) (hfew : L.length ≤ 2000)
    (hL32 : ∀ x ∈ L, x < 4294967296) (hcost : ∀ o ∈ ops, 0 ≤ o.cost ∧ o.cost ≤ 1000000) (hvl : Sl w vl L.length (L.map encW)) :
    Calls Tryz.prog 59 #[.pointer (some ⟨b, 0, none⟩), vl] w (CostsPost ops L (goalB g0) w) := callsIn_wide.1 (costs_in w b st g0 base v vl ops L hw hops hmany hg0 hsh hfew hL32 hcost hvl)

end Go.Proofs.YtkjmgafnaddhkaaGreat

namespace Go.Proofs.YtkjmgafnaddhkaaGreat
open Go.RowKit

/-! ### lists -/
/-! ### States -/
/-- The words in increasing order (by their lists of facts). -/
def ordW (a b : Nat) : Prop := ¬ cmpW b a < 0

end Go.Proofs.YtkjmgafnaddhkaaGreat

namespace Go.Proofs.YtkjmgafnaddhkaaGreat
open Go.RowKit

def stateFault (t : Tsk) (s : List Int) : Int × Int := if (taskFault t).1 = 0 then (if isSetB s t.n = true then (0, 0) else (5, -4)) else taskFault t

set_option maxHeartbeats 1000000 in
theorem stateFault_any (w : World) (vi vg vo vs : Value) (t : Tsk) (s : List Int) (h : TaskAt w vi vg vo t) (hs : Ints w vs s) :
    Calls Tryz.prog 103 #[.agg #[.int .i64 t.n, vi, vg, vo], vs] w fun e w' => e = .returned (.agg #[.int .i64 (stateFault t s).1, .int .i64 (stateFault t s).2]) ∧ Keeps (fun _ => False) w w' := by
  obtain ⟨ai, ci, h1, _⟩ := h.init.form
  obtain ⟨ag, cg, h2, _⟩ := h.goal.form
  obtain ⟨ao, co, h3, hmo⟩ := h.ops.form
  obtain ⟨aa, cs, h4, _⟩ := hs.form
  subst h1 h2 h3 h4
  have K1 := (Keeps.refl (fun _ => False) w).alloc (.cells #[.int .i64 t.n, .slice ai t.init.length ci, .slice ag t.goal.length cg, .slice ao t.ops.length co] 25)
  have HT := h.keeps0 (K1.alloc (.cells #[.int .i64 0, .int .i64 0] 31))
  have HSS : Ints _ _ s := hs.keeps0 (K1.alloc (.cells #[.int .i64 0, .int .i64 0] 31))
  have HB := (Four.new w (.int .i64 t.n) (.slice ai t.init.length ci) (.slice ag t.goal.length cg) (.slice ao t.ops.length co) 25).keeps0 ((Keeps.refl _ _).alloc (.cells #[.int .i64 0, .int .i64 0] 31))
  have HF : Flt w ((w.alloc (.cells #[.int .i64 t.n, .slice ai t.init.length ci, .slice ag t.goal.length cg, .slice ao t.ops.length co] 25)).alloc (.cells #[.int .i64 0, .int .i64 0] 31)) (w.heap.size + 1) 31 :=
    ⟨by have := heap_alloc_new (w.alloc (.cells #[.int .i64 t.n, .slice ai t.init.length ci, .slice ag t.goal.length cg, .slice ao t.ops.length co] 25)) (.cells #[.int .i64 0, .int .i64 0] 31); rwa [World.size_alloc] at this, by omega, K1.alloc _⟩
  replace HT := Lib.hid HT; replace HB := Lib.hid HB; replace HF := Lib.hid HF; replace HSS := Lib.hid HSS
  clear h hs K1
  go_enter Tryz.func103, Tryz.ntmps103
  go_upto_region 1 with fail
  generalize ((w.alloc (.cells #[.int .i64 t.n, .slice ai t.init.length ci, .slice ag t.goal.length cg, .slice ao t.ops.length co] 25)).alloc (.cells #[.int .i64 0, .int .i64 0] 31)) = w1 at HT HB HF HSS ⊢
  have hbx := HB.out.lt
  obtain ⟨d0, d1, d2, d3⟩ := HB.out
  go_wp2_with fail
  refine (validate_any _ _ _ _ t HT.out).mono ?_; rintro e w2 ⟨rfl, hk⟩
  have HF2 := Lib.hid (HF.out.keeps0 hk)
  have HB2 := HB.out.keeps0 hk
  have hbx2 := HB2.lt
  have KA := (Keeps.refl (fun _ => False) w2).alloc (.cells #[.int .i64 (taskFault t).1, .int .i64 (taskFault t).2] 31)
  have HF3 := Lib.hid (HF2.out.keeps0 KA)
  have HS3 := Lib.hid ((HSS.out.keeps0 hk : Ints w2 _ s).keeps0 KA)
  clear d0 d1 d2 d3 hk
  obtain ⟨d0, d1, d2, d3⟩ := HB2.keeps0 KA
  obtain ⟨e0, e1, z0, z1, hF⟩ := HF3.out.cells
  clear KA HB2
  by_cases hc : (taskFault t).1 = 0
  · have hok := taskFault_zero.1 hc
    have hft := taskFault_ok hok
    rw [hft] at HF3 HS3 d0 d1 d2 d3 e0 e1 z0 z1 hF ⊢
    cases b1 : isSetB s t.n with
    | true =>
      have HP : Hid (stateFault t s = (0, 0)) := by unfold Hid stateFault; rw [if_pos hc, if_pos b1]
      have B1 := Lib.hid b1
      clear hc hft hok b1
      go_wp2_with fail
      refine (sIsSet_val HS3.out B1.out).mono ?_; rintro e w5 ⟨rfl, rfl⟩
      go_wp2_with fail
      refine bodyPost_ret (results_cell_row rfl _ _ (w.heap.size + 1) 31 _ (0, 0) _ rfl (HF3.out.set (.int .i64 0) (.int .i64 0)).1 Tryz.underlying31 rfl (by kernel_rfl)) rfl ?_
      exact ⟨by rw [HP.out], (HF3.out.set _ _).2⟩
    | false =>
      have HP : Hid (stateFault t s = (5, -4)) := by unfold Hid stateFault; rw [if_pos hc, if_neg (by simp [b1])]
      have B1 := Lib.hid b1
      clear hc hft hok b1
      go_wp2_with fail
      refine (sIsSet_val HS3.out B1.out).mono ?_; rintro e w5 ⟨rfl, rfl⟩
      go_wp2_with fail
      refine bodyPost_ret (results_cell_row rfl _ _ (w.heap.size + 1) 31 _ (0, 0) _ rfl (HF3.out.set (.int .i64 5) (.int .i64 (-4))).1 Tryz.underlying31 rfl (by kernel_rfl)) rfl ?_
      exact ⟨by rw [HP.out], (HF3.out.set _ _).2⟩
  · have HP : Hid (stateFault t s = taskFault t) := by unfold Hid stateFault; rw [if_neg hc]
    have hc2 : ((taskFault t).1 == 0) = false := by simpa using hc
    clear hc
    generalize hfe : taskFault t = f at hc2 HP HF3 HS3 d0 d1 d2 d3 e0 e1 z0 z1 hF ⊢
    clear hfe
    go_wp2_with fail
    refine bodyPost_ret (results_cell_row rfl _ _ (w.heap.size + 1) 31 _ (0, 0) _ rfl (HF3.out.set (.int .i64 f.1) (.int .i64 f.2)).1 Tryz.underlying31 rfl (by kernel_rfl)) rfl ?_
    exact ⟨by rw [HP.out], (HF3.out.set _ _).2⟩

/-! ### breadth.Reach -/
end Go.Proofs.YtkjmgafnaddhkaaGreat

namespace Go.Proofs.YtkjmgafnaddhkaaGreat
open Go.RowKit

def stepT : Tsk := ⟨1, [], [0], [⟨[], [0], [], 3⟩]⟩

theorem Ints.nil (w : World) : Ints w (.slice none 0 0) [] := ⟨none, 0, rfl, by simp, fun h => by simp at h⟩
theorem Ints.one {w : World} {b : Nat} {x : Int} {T : TypeId} (h : w.heap[b]? = some (.cells #[.int .i64 x] T (0, 0))) : Ints w (.slice (some ⟨b, 0, none⟩) 1 1) [x] := by
  refine ⟨_, _, rfl, by simp [maxLen], fun _ => ⟨b, 0, rfl, fun j y hj => ?_⟩⟩
  rw [Nat.zero_add, cell_of_blk h]
  cases j with
  | zero => simpa using hj
  | succ j => simp at hj

set_option maxRecDepth 100000 in
theorem step_any (w : World) : Calls Tryz.prog 43 #[] w fun e w' => ∃ vi vg vo, e = .returned (.agg #[.int .i64 1, vi, vg, vo]) ∧ TaskAt w' vi vg vo stepT ∧ Keeps (fun _ => False) w w' := by
  go_enter Tryz.func43, Tryz.ntmps43
  go_wp2_with fail
  generalize hw1 : w.alloc (Obj.cells #[.int .i64 1, .slice none 0 0, .slice (some ⟨w.heap.size + 1, 0, none⟩) 1 1, .slice (some ⟨w.heap.size + 1 + 1 + 1, 0, none⟩) 1 1] 25) = w1
  have s1 : w1.heap.size = w.heap.size + 1 := by rw [← hw1]; simp
  have k1 : Keeps (fun _ => False) w w1 := by rw [← hw1]; exact (Keeps.refl _ _).alloc _
  have b1 : w1.heap[w.heap.size]? = some (.cells #[.int .i64 1, .slice none 0 0, .slice (some ⟨w.heap.size + 1, 0, none⟩) 1 1, .slice (some ⟨w.heap.size + 1 + 1 + 1, 0, none⟩) 1 1] 25 (0, 0)) := by rw [← hw1]; exact heap_alloc_new _ _
  clear hw1
  have b2 := heap_alloc_new w1 (.cells #[.int .i64 0] 3)
  have k2 := (Keeps.refl (fun _ => False) w1).alloc (.cells #[.int .i64 0] 3)
  have s2 : (w1.alloc (.cells #[.int .i64 0] 3)).heap.size = w1.heap.size + 1 := by simp
  generalize w1.alloc (.cells #[.int .i64 0] 3) = w2 at b2 k2 s2 ⊢
  have b3 := heap_alloc_new w2 (.cells #[.int .i64 0] 3)
  have k3 := (Keeps.refl (fun _ => False) w2).alloc (.cells #[.int .i64 0] 3)
  have s3 : (w2.alloc (.cells #[.int .i64 0] 3)).heap.size = w2.heap.size + 1 := by simp
  generalize w2.alloc (.cells #[.int .i64 0] 3) = w3 at b3 k3 s3 ⊢
  have b4 := heap_alloc_new w3 (.cells #[.slice none 0 0, .slice (some ⟨w.heap.size + 1 + 1, 0, none⟩) 1 1, .slice none 0 0, .int .i64 3] 109)
  have k4 := (Keeps.refl (fun _ => False) w3).alloc (.cells #[.slice none 0 0, .slice (some ⟨w.heap.size + 1 + 1, 0, none⟩) 1 1, .slice none 0 0, .int .i64 3] 109)
  generalize w3.alloc (.cells #[.slice none 0 0, .slice (some ⟨w.heap.size + 1 + 1, 0, none⟩) 1 1, .slice none 0 0, .int .i64 3] 109) = w4 at b4 k4 ⊢
  have k14 := k2.trans (k3.trans k4)
  refine bodyPost_ret (results_cell_row rfl _ _ w.heap.size 25 _ (0, 0) _ rfl (k14.heap b1 (fun h => h)) Tryz.underlying25 rfl (by kernel_rfl)) rfl ?_
  have e1 : w1.heap.size = w.heap.size + 1 := s1
  have e2 : w2.heap.size = w.heap.size + 1 + 1 := by omega
  have e3 : w3.heap.size = w.heap.size + 1 + 1 + 1 := by omega
  rw [e1] at b2; rw [e2] at b3; rw [e3] at b4
  refine ⟨_, _, _, rfl, ⟨Ints.nil _, Ints.one ((k3.trans k4).heap b2 (fun h => h)), ⟨_, _, rfl, by simp [maxLen, stepT], fun _ => ⟨_, 0, rfl, fun i o ho => ?_⟩⟩⟩, k1.trans k14⟩
  cases i with
  | zero =>
    simp [stepT] at ho; subst ho
    refine ⟨.slice none 0 0, .slice (some ⟨w.heap.size + 1 + 1, 0, none⟩) 1 1, .slice none 0 0, ?_, ?_, ?_, ?_, Ints.nil _, Ints.one (k4.heap b3 (fun h => h)), Ints.nil _⟩
    all_goals (rw [cell_of_blk b4]; rfl)
  | succ i => simp [stepT] at ho

theorem stepT_ok : taskFault stepT = (0, 0) := by decide
theorem stepT_reached : explored stepT = some [0, 1] := reached_of_end (i := 2) (by decide) rfl
end Go.Proofs.YtkjmgafnaddhkaaGreat

namespace Go.Proofs.YtkjmgafnaddhkaaGreat
open Go.RowKit

theorem good_next_mem {t : Tsk} (ok : t.Ok) {x y : Nat} (hx : Good t.n x) (hy : y ∈ nexts (wordsOf t.ops) x) : Good t.n y := by
  unfold nexts at hy
  obtain ⟨wo, hwo, rfl⟩ := List.mem_map.1 hy
  have hm := (List.mem_filter.1 hwo).1
  unfold wordsOf at hm
  obtain ⟨o, ho, rfl⟩ := List.mem_map.1 hm
  exact (good_next (by have := ok.n1; omega) (ok.ops o ho) hx).2.2
theorem good_reach {t : Tsk} (ok : t.Ok) {s x : Nat} (hs : Good t.n s) (h : Reach (wordsOf t.ops) s x) : Good t.n x := by
  induction h with
  | refl => exact hs
  | step _ hy ih => exact good_next_mem ok ih hy
theorem good_explored {t : Tsk} (ok : t.Ok) {L : List Nat} (h : explored t = some L) : ∀ x ∈ L, Good t.n x := by
  intro x hx
  exact good_reach ok (good_wd (by have := ok.n1; omega) ok.init) (((reached_some h).2.2.2 x).1 hx)
end Go.Proofs.YtkjmgafnaddhkaaGreat

namespace Go.Proofs.YtkjmgafnaddhkaaGreat
open Go.RowKit

def OptPost (t : Tsk) (w : World) (e : Ending) (w' : World) : Prop := Keeps (fun _ => False) w w' ∧
  ((∃ c i, c ≠ 0 ∧ expF t = (c, i) ∧ e = .returned (.tuple #[.int .i64 0, fltV c i])) ∨
   (t.Ok ∧ ∃ (l ws : List Nat) (D : Nat → Int), explored t = some l ∧ ws.Perm l ∧ ws.Pairwise ordW ∧ CostOk (arcs (wordsOf t.ops) ws) (ws.map (goalB (wd t.goal))) (ws.map D) ∧ e = .returned (.tuple #[.int .i64 (D (wd t.init)), fltV 0 0])))

/-- What Costs asks for. -/
theorem costs_need {t : Tsk} (ok : t.Ok) {l ws : List Nat} (hx : explored t = some l) (hp : ws.Perm l) :
    wd t.init < 4294967296 ∧ wd t.goal < 4294967296 ∧ (wordsOf t.ops).length ≤ 40 ∧ Shut (wordsOf t.ops) ws ∧ ws.length ≤ 2000 ∧ (∀ x ∈ ws, x < 4294967296) ∧ (∀ o ∈ wordsOf t.ops, 0 ≤ o.cost ∧ o.cost ≤ 1000000) ∧ wd t.init ∈ ws := by
  have hs32 : wd t.init < 4294967296 := wd_lt32 (by have := ok.n1; omega : t.n ≤ 32) ok.init
  have hg32 : wd t.goal < 4294967296 := wd_lt32 (by have := ok.n1; omega : t.n ≤ 32) ok.goal
  have hsh := shut_reached (ops := wordsOf t.ops) (s := wd t.init) (L := l) hx
  have hr := reached_some (ops := wordsOf t.ops) (s := wd t.init) (l := l) hx
  refine ⟨hs32, hg32, by unfold wordsOf; rw [List.length_map]; exact ok.few, ⟨hp.nodup_iff.2 hsh.1, fun x h o ho hc => hp.mem_iff.2 (hsh.2 x (hp.mem_iff.1 h) o ho hc)⟩, by rw [hp.length_eq]; exact hr.2.1, fun x h => reach_small (wops_ok ok) hs32 ((hr.2.2.2 x).1 (hp.mem_iff.1 h)), fun o ho => ?_, hp.mem_iff.2 (List.mem_of_getElem? hr.2.2.1)⟩
  unfold wordsOf at ho
  obtain ⟨o', ho', rfl⟩ := List.mem_map.1 ho
  have h := ok.ops o' ho'
  have hc : o'.word.cost = o'.cost := rfl
  rw [hc]
  exact ⟨h.cost0, by have := h.cost1; omega⟩

set_option maxRecDepth 100000 in
set_option maxHeartbeats 2000000 in
theorem optimal_any (w : World) (vi vg vo : Value) (t : Tsk) (h : TaskAt w vi vg vo t) :
    Calls Tryz.prog 27 #[.agg #[.int .i64 t.n, vi, vg, vo]] w (OptPost t w) := by
  obtain ⟨j0, hj0, jz0, jz1, jz2⟩ := info_parts Tryz.info3
  obtain ⟨ai, ci, h1, _⟩ := h.init.form
  obtain ⟨ag, cg, h2, _⟩ := h.goal.form
  obtain ⟨ao, co, h3, hmo⟩ := h.ops.form
  subst h1 h2 h3
  have K1 := (Keeps.refl (fun _ => False) w).alloc (.cells #[.int .i64 t.n, .slice ai t.init.length ci, .slice ag t.goal.length cg, .slice ao t.ops.length co] 25)
  have HT := h.keeps0 (K1.alloc (.cells #[.int .i64 0, .int .i64 0] 31))
  have HB := (Four.new w (.int .i64 t.n) (.slice ai t.init.length ci) (.slice ag t.goal.length cg) (.slice ao t.ops.length co) 25).keeps0 ((Keeps.refl _ _).alloc (.cells #[.int .i64 0, .int .i64 0] 31))
  have HF : Flt w ((w.alloc (.cells #[.int .i64 t.n, .slice ai t.init.length ci, .slice ag t.goal.length cg, .slice ao t.ops.length co] 25)).alloc (.cells #[.int .i64 0, .int .i64 0] 31)) (w.heap.size + 1) 31 :=
    ⟨by have := heap_alloc_new (w.alloc (.cells #[.int .i64 t.n, .slice ai t.init.length ci, .slice ag t.goal.length cg, .slice ao t.ops.length co] 25)) (.cells #[.int .i64 0, .int .i64 0] 31); rwa [World.size_alloc] at this, by omega, K1.alloc _⟩
  replace HT := Lib.hid HT; replace HB := Lib.hid HB; replace HF := Lib.hid HF
  clear h K1
  go_enter Tryz.func27, Tryz.ntmps27
  go_upto_region 1 with fail
  generalize ((w.alloc (.cells #[.int .i64 t.n, .slice ai t.init.length ci, .slice ag t.goal.length cg, .slice ao t.ops.length co] 25)).alloc (.cells #[.int .i64 0, .int .i64 0] 31)) = w1 at HT HB HF ⊢
  have hbx := HB.out.lt
  obtain ⟨d0, d1, d2, d3⟩ := HB.out
  go_wp2_with fail
  refine (checked_any _ _ _ _ t HT.out).mono ?_; rintro e w2 ⟨hk, hr⟩
  have HF2 := Lib.hid (HF.out.keeps0 hk)
  clear d0 d1 d2 d3 hk
  have hb0 := HF2.out.keep.size
  rcases hr with ⟨hc, rfl⟩ | ⟨hok, hx, rfl⟩ | ⟨hok, l, hx, b, v, vl, ws, rfl, hw, hperm, hord, hown⟩
  · have hc2 : ((taskFault t).1 == 0) = false := by simpa using hc
    have HE := Lib.hid (show expF t = taskFault t by unfold expF; rw [if_neg hc])
    have HC := Lib.hid hc
    clear hc
    generalize hfe : taskFault t = f at hc2 HC HE ⊢
    clear hfe
    have HF3 := Lib.hid (HF2.out.keeps0 ((Keeps.refl _ _).alloc (.cells #[.int .i64 f.1, .int .i64 f.2] 31)))
    obtain ⟨e0, e1, z0, z1, hF⟩ := HF3.out.cells
    go_wp2_with fail
    go_region
    all_goals
      go_wp2
      refine bodyPost_ret (results_tmp_cell _ _ (w.heap.size + 1) 31 #[.int .i64 f.1, .int .i64 f.2] (0, 0) _ rfl rfl (((Keeps.refl (fun _ => False) _).drew).heap (HF3.out.set (.int .i64 f.1) (.int .i64 f.2)).1 (fun h => h)) Tryz.underlying31 rfl (by kernel_rfl)) rfl ?_
      exact ⟨((HF3.out.set (.int .i64 f.1) (.int .i64 f.2)).2).drew, .inl ⟨f.1, f.2, HC.out, HE.out, rfl⟩⟩
  · have HE := Lib.hid (show expF t = (10, -7) by unfold expF; rw [if_pos (taskFault_zero.2 hok), hx])
    clear hx hok
    have HF3 := Lib.hid (HF2.out.keeps0 ((Keeps.refl _ _).alloc (.cells #[.int .i64 10, .int .i64 (-7)] 31)))
    obtain ⟨e0, e1, z0, z1, hF⟩ := HF3.out.cells
    go_wp2_with fail
    go_region
    all_goals
      go_wp2
      refine bodyPost_ret (results_tmp_cell _ _ (w.heap.size + 1) 31 #[.int .i64 10, .int .i64 (-7)] (0, 0) _ rfl rfl (((Keeps.refl (fun _ => False) _).drew).heap (HF3.out.set (.int .i64 10) (.int .i64 (-7))).1 (fun h => h)) Tryz.underlying31 rfl (by kernel_rfl)) rfl ?_
      exact ⟨((HF3.out.set (.int .i64 10) (.int .i64 (-7))).2).drew, .inl ⟨10, -7, by decide, HE.out, rfl⟩⟩
  · have HX := Lib.hid hx; have OK := Lib.hid hok; have PERM := Lib.hid hperm; have ORD := Lib.hid (show ws.Pairwise ordW from hord)
    obtain ⟨n1, n2, n3, n4, hfew, n6, n7, n8⟩ := costs_need hok hx hperm
    have KA := (Keeps.refl (fun _ => False) w2).alloc (.cells #[.int .i64 0, .int .i64 0] 31)
    have HV := Lib.hid (show Sl _ vl ws.length (ws.map encW) from (Sl.of_own hown).keeps0 KA)
    have HWA := Lib.hid (hw.keeps0 KA)
    have HF3 := Lib.hid (HF2.out.keeps0 KA)
    obtain ⟨av, cv, hav⟩ := ownsRow_form1 hown
    subst hav
    have HN := Lib.hid (And.intro n2 (And.intro n3 (And.intro n4 (And.intro n6 (And.intro n7 n8)))))
    clear hx hok hw KA hperm hord hown n1 n2 n3 n4 n6 n7 n8
    have F0 := heap_alloc_new w2 (.cells #[.int .i64 0, .int .i64 0] 31)
    go_upto_region 2 with fail
    generalize w2.alloc (.cells #[.int .i64 0, .int .i64 0] 31) = w3 at HV HF3 HWA F0 ⊢
    have f0 : w3.cell? ⟨w2.heap.size, 0, none⟩ = some (.int .i64 0) := by rw [cell_of_blk F0]; rfl
    have f1 : w3.cell? ⟨w2.heap.size, 1, none⟩ = some (.int .i64 0) := by rw [cell_of_blk F0]; rfl
    clear F0
    have hb2 := HF3.out.keep.size
    have hbF := HF3.out.blk
    go_wp2_with fail
    refine (costs_any w3 b (wd t.init) (wd t.goal) _ v (.slice av ws.length cv) (wordsOf t.ops) ws HWA.out (wops_ok OK.out) HN.out.2.1 HN.out.1 HN.out.2.2.1 hfew HN.out.2.2.2.1 HN.out.2.2.2.2.1 HV.out).mono ?_
    rintro e w4 ⟨hk4, bo, D, rfl, hbo, hI, hco⟩
    have HI := Lib.hid hI; have HCO := Lib.hid hco; have HF4 := Lib.hid (HF3.out.keeps0 hk4); have HW4 := Lib.hid (HWA.out.keeps0 hk4)
    clear hI hco hk4 f0 f1 hbF HF3 HV HWA
    go_wp2_with fail
    refine (start_any _ _ _ _ _ _ _ HW4.out).mono ?_; rintro e w5 ⟨rfl, rfl⟩
    have hlk := (HI.out.run_lookup_hit (P := Tryz.prog) Tryz.underlying80 Tryz.underlying82 (outV_nodup HN.out.2.2.1.1 D) (outV_mem D HN.out.2.2.2.2.2)).2
    obtain ⟨e0, e1, z0, z1, hF⟩ := HF4.out.cells
    have s0 := setCell_id e0
    have s1 := setCell_id e1
    go_wp2_with fail
    refine bodyPost_ret (results_tmp_cell _ _ (w.heap.size + 1) 31 #[.int .i64 0, .int .i64 0] (0, 0) _ rfl rfl HF4.out.blk Tryz.underlying31 rfl (by kernel_rfl)) rfl ?_
    exact ⟨HF4.out.keep, .inr ⟨OK.out, l, ws, D, HX.out, PERM.out, ORD.out, HCO.out, rfl⟩⟩

end Go.Proofs.YtkjmgafnaddhkaaGreat

/- space's example. -/
namespace Go.Proofs.YtkjmgafnaddhkaaGreat
open Go.RowKit

theorem Ints.two {w : World} {b : Nat} {x y : Int} {T : TypeId} (h : w.heap[b]? = some (.cells #[.int .i64 x, .int .i64 y] T (0, 0))) : Ints w (.slice (some ⟨b, 0, none⟩) 2 2) [x, y] := by
  refine ⟨_, 2, rfl, by unfold maxLen; simp, fun _ => ⟨b, 0, rfl, fun i z hz => ?_⟩⟩
  match i, hz with
  | 0, hz => simp at hz; subst hz; rw [cell_of_blk h]; rfl
  | 1, hz => simp at hz; subst hz; rw [cell_of_blk h]; rfl
end Go.Proofs.YtkjmgafnaddhkaaGreat

/- space: the law that the functions are the reference's. -/
namespace Go.Proofs.YtkjmgafnaddhkaaGreat
open Go.RowKit

section
variable {w : World} {vi vg vo : Value} {t : Tsk}
end

end Go.Proofs.YtkjmgafnaddhkaaGreat

/- space: SpaceFunctionsMatchSpec walked. -/
namespace Go.Proofs.YtkjmgafnaddhkaaGreat
open Go.RowKit

end Go.Proofs.YtkjmgafnaddhkaaGreat
