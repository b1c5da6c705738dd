/- Costs in plain words: two solutions agree; the search that corrects costs. -/
import Derived.Test.YtcfcmmajlkkabaaRCosts
import Derived.Test.YtcfcmmajlkkabaaKitA
import Derived.Test.YtcfcmmajlkkabaaAll
import Derived.Test.YtcfcmmajlkkabaaDepA
import Derived.Test.YtcfcmmajlkkabaaUQueueD
namespace Go.Proofs.Ytcfcmmajlkkabaa

theorem CostOk.down {A : List Arc} {acc : List Bool} {d : List Int} (h : CostOk A acc d) (hA : ∀ a ∈ A, 0 ≤ a.cost) {i : Nat} {c : Int} (hd : Down A acc i c) : 0 ≤ c ∧ (c < bigC → ∃ x, d[i]? = some x ∧ x ≤ c) := by
  induction hd with
  | nil hi => exact ⟨Int.le_refl _, fun _ => ⟨0, h.zero _ hi, Int.le_refl _⟩⟩
  | cons ha _ ih =>
    have hc := hA _ ha
    refine ⟨by omega, fun hb => ?_⟩
    obtain ⟨y, hy, hyc⟩ := ih.2 (by omega)
    obtain ⟨x, hx, hxy⟩ := h.relax _ ha y hy (by omega)
    exact ⟨x, hx, by omega⟩

theorem CostOk.le {A : List Arc} {acc : List Bool} {d d' : List Int} (h : CostOk A acc d) (h' : CostOk A acc d') (hA : ∀ a ∈ A, 0 ≤ a.cost) (i : Nat) (x y : Int) (hx : d[i]? = some x) (hy : d'[i]? = some y) : x ≤ y := by
  by_cases hb : y < bigC
  · obtain ⟨x', hx', hle⟩ := (h.down hA (h'.real i y hy hb)).2 hb
    rw [hx] at hx'; cases hx'; exact hle
  · have := (h.lo x (List.mem_of_getElem? hx)).2; omega

theorem CostOk.unique {A : List Arc} {acc : List Bool} {d d' : List Int} (h : CostOk A acc d) (h' : CostOk A acc d') (hA : ∀ a ∈ A, 0 ≤ a.cost) : d = d' := by
  apply List.ext_getElem?
  intro i
  cases hx : d[i]? with
  | none =>
    rw [List.getElem?_eq_none_iff] at hx
    symm; rw [List.getElem?_eq_none_iff, h'.len, ← h.len]; exact hx
  | some x =>
    have hl := (List.getElem?_eq_some_iff.1 hx).1
    have hl' : i < d'.length := by rw [h'.len, ← h.len]; exact hl
    obtain ⟨y, hy⟩ : ∃ y, d'[i]? = some y := ⟨_, List.getElem?_eq_getElem hl'⟩
    rw [hy, Int.le_antisymm (h.le h' hA i x y hx hy) (h'.le h hA i y x hy hx)]

/-! ### a map of costs -/
def upd (D : Nat → Int) (x : Nat) (k : Int) : Nat → Int := fun y => if y = x then k else D y
theorem upd_same (D : Nat → Int) (x : Nat) (k : Int) : upd D x k x = k := if_pos rfl
theorem upd_ne (D : Nat → Int) {x y : Nat} (k : Int) (h : y ≠ x) : upd D x k y = D y := if_neg h
theorem map_upd {L : List Nat} (hn : L.Nodup) (D : Nat → Int) {i x : Nat} (hi : L[i]? = some x) (k : Int) : (L.map D).set i k = L.map (upd D x k) := by
  apply List.ext_getElem?
  intro j
  have hl := (List.getElem?_eq_some_iff.1 hi).1
  rw [getElem?_setS, List.getElem?_map, List.getElem?_map, List.length_map]
  by_cases hij : i = j
  · subst hij; rw [if_pos ⟨rfl, hl⟩, hi]; simp [upd_same]
  · rw [if_neg (by simp [hij])]
    cases hj : L[j]? with
    | none => rfl
    | some y =>
      have : y ≠ x := by rintro rfl; exact hij (nodup_ix hn hi hj)
      simp [upd_ne D k this]

def outV (L : List Nat) (D : Nat → Int) : List (Int × Value) := L.map fun x : Nat => ((x : Int), Value.int .i64 (D x))
theorem outV_nodup {L : List Nat} (hn : L.Nodup) (D : Nat → Int) : ((outV L D).map Prod.fst).Nodup := by
  unfold outV
  rw [List.map_map]
  unfold List.Nodup at hn ⊢
  rw [List.pairwise_map]
  exact hn.imp (fun {a b} h e => h (by have e' : ((a : Nat) : Int) = (b : Int) := e; omega))
theorem outV_get {L : List Nat} (D : Nat → Int) {i x : Nat} (hi : L[i]? = some x) : (outV L D)[i]? = some ((x : Int), .int .i64 (D x)) := by
  unfold outV; rw [List.getElem?_map, hi]; rfl
theorem outV_mem {L : List Nat} (D : Nat → Int) {x : Nat} (hx : x ∈ L) : ((x : Int), Value.int .i64 (D x)) ∈ outV L D := List.mem_map.2 ⟨x, hx, rfl⟩
theorem outV_miss {L : List Nat} (D : Nat → Int) {x : Nat} (hx : x ∉ L) : ∀ p ∈ outV L D, p.1 ≠ (x : Int) := by
  intro p hp e
  obtain ⟨y, hy, rfl⟩ := List.mem_map.1 hp
  simp only [Int.natCast_inj] at e
  subst e; exact hx hy
theorem outV_set {L : List Nat} (hn : L.Nodup) (D : Nat → Int) {i x : Nat} (hi : L[i]? = some x) (k : Int) : (outV L D).set i ((x : Int), .int .i64 k) = outV L (upd D x k) := by
  apply List.ext_getElem?
  intro j
  have hl := (List.getElem?_eq_some_iff.1 hi).1
  unfold outV
  rw [getElem?_setS, List.getElem?_map, List.getElem?_map, List.length_map]
  by_cases hij : i = j
  · subst hij; rw [if_pos ⟨rfl, hl⟩, hi]; simp [upd_same]
  · rw [if_neg (by simp [hij])]
    cases hj : L[j]? with
    | none => rfl
    | some y =>
      have : y ≠ x := by rintro rfl; exact hij (nodup_ix hn hi hj)
      simp [upd_ne D k this]
theorem outV_snoc (L : List Nat) (D : Nat → Int) (x : Nat) : outV (L ++ [x]) D = outV L D ++ [((x : Int), .int .i64 (D x))] := by unfold outV; simp
theorem outV_congr {L : List Nat} {D D' : Nat → Int} (h : ∀ x ∈ L, D x = D' x) : outV L D = outV L D' := by
  unfold outV
  apply List.map_congr_left
  intro x hx; rw [h x hx]

/-! ### the queue as a list of items and keys -/
def dropA (A : List (Int × Int)) (x : Int) : List (Int × Int) := A.filter fun p => p.1 != x
def putA (A : List (Int × Int)) (x k : Int) : List (Int × Int) := A.filter (fun p => p.1 != x) ++ [(x, k)]
theorem mem_dropA {A : List (Int × Int)} {x : Int} {p : Int × Int} : p ∈ dropA A x ↔ p ∈ A ∧ p.1 ≠ x := by unfold dropA; simp
theorem mem_putA {A : List (Int × Int)} {x k : Int} {p : Int × Int} : p ∈ putA A x k ↔ (p ∈ A ∧ p.1 ≠ x) ∨ p = (x, k) := by unfold putA; simp
theorem putA_len (A : List (Int × Int)) (x k : Int) : (putA A x k).length ≤ A.length + 1 := by
  unfold putA; rw [List.length_append]; have := List.length_filter_le (fun p : Int × Int => p.1 != x) A; simp; omega
theorem dropA_len {A : List (Int × Int)} {x k : Int} (h : (x, k) ∈ A) : (dropA A x).length < A.length := by
  unfold dropA
  refine Nat.lt_of_le_of_ne (List.length_filter_le _ _) (fun e => ?_)
  have := List.length_filter_eq_length_iff.1 e (x, k) h
  simp at this

structure LInv (ops : List Wop) (L : List Nat) (acc : Nat → Bool) (D : Nat → Int) (A : List (Int × Int)) (s : Nat) (rest : List (Nat × Int)) : Prop where
  inv : CostInv (arcs ops L) (L.map acc) (L.map D)
  key : ∀ p ∈ A, ∃ x : Nat, x ∈ L ∧ p = ((x : Int), D x) ∧ D x < bigC
  pend : ∀ x ∈ L, ∀ o ∈ ops, o.can x = true → D (o.next x) < bigC → D x ≤ D (o.next x) + o.cost ∨ ((o.next x : Nat) : Int) ∈ A.map Prod.fst ∨ (o.next x = s ∧ (x, o.cost) ∈ rest)

theorem LInv.few {ops : List Wop} {L : List Nat} {acc : Nat → Bool} {D : Nat → Int} {A : List (Int × Int)} {s : Nat} {rest : List (Nat × Int)} (h : LInv ops L acc D A s rest) (hn : (A.map Prod.fst).Nodup) : A.length ≤ L.length := by
  have h1 : (A.map fun p => p.1.toNat).Nodup := by
    unfold List.Nodup at hn ⊢
    rw [List.pairwise_map] at hn ⊢
    refine hn.imp_of_mem (fun {a b} ha hb hab e => hab ?_)
    obtain ⟨x, _, rfl, _⟩ := h.key a ha
    obtain ⟨y, _, rfl, _⟩ := h.key b hb
    have e' : x = y := by simpa using e
    show ((x : Nat) : Int) = (y : Int)
    omega
  have h2 := nodup_sub_length h1 (b := L) (fun x hx => by
    obtain ⟨p, hp, rfl⟩ := List.mem_map.1 hx
    obtain ⟨y, hy, rfl, _⟩ := h.key p hp
    simpa using hy)
  simpa using h2

theorem LInv.take {ops : List Wop} {L : List Nat} {acc : Nat → Bool} {D : Nat → Int} {A : List (Int × Int)} {s0 s : Nat} {back : List (Nat × Int)} (h : LInv ops L acc D A s0 [])
    (hb : ∀ x ∈ L, ∀ o ∈ ops, o.can x = true → o.next x = s → (x, o.cost) ∈ back) : LInv ops L acc D (dropA A s) s back := by
  refine ⟨h.inv, fun p hp => h.key p (mem_dropA.1 hp).1, fun x hx o ho hc hd => ?_⟩
  rcases h.pend x hx o ho hc hd with h1 | h1 | ⟨_, h1⟩
  · exact .inl h1
  · by_cases e : o.next x = s
    · exact .inr (.inr ⟨e, hb x hx o ho hc e⟩)
    · refine .inr (.inl ?_)
      obtain ⟨p, hp, he⟩ := List.mem_map.1 h1
      exact List.mem_map.2 ⟨p, mem_dropA.2 ⟨hp, by rw [he]; intro e2; exact e (by omega)⟩, he⟩
  · cases h1

theorem LInv.skip {ops : List Wop} {L : List Nat} {acc : Nat → Bool} {D : Nat → Int} {A : List (Int × Int)} {s x : Nat} {c : Int} {r : List (Nat × Int)} (h : LInv ops L acc D A s ((x, c) :: r)) (hd : D x ≤ D s + c) : LInv ops L acc D A s r := by
  refine ⟨h.inv, h.key, fun y hy o ho hc hb => ?_⟩
  rcases h.pend y hy o ho hc hb with h1 | h1 | ⟨e, h1⟩
  · exact .inl h1
  · exact .inr (.inl h1)
  · rcases List.mem_cons.1 h1 with h1 | h1
    · simp only [Prod.mk.injEq] at h1
      refine .inl ?_
      rw [e, h1.1, h1.2]; exact hd
    · exact .inr (.inr ⟨e, h1⟩)

theorem LInv.turn {ops : List Wop} {L : List Nat} (hn : L.Nodup) {acc : Nat → Bool} {D : Nat → Int} {A : List (Int × Int)} {s x : Nat} {c : Int} {r : List (Nat × Int)} (h : LInv ops L acc D A s ((x, c) :: r))
    (hs : s ∈ L) (hx : x ∈ L) {o : Wop} (ho : o ∈ ops) (hc : o.can x = true) (hnx : o.next x = s) (hoc : o.cost = c) (hc0 : 0 ≤ c) (hb : D s < bigC) (hd : D s + c < D x) :
    LInv ops L acc (upd D x (D s + c)) (putA A x (D s + c)) s r ∧ weightC (L.map (upd D x (D s + c))) < weightC (L.map D) ∧ upd D x (D s + c) s = D s ∧ x ≠ s := by
  have hxs : s ≠ x := by rintro rfl; omega
  obtain ⟨i, hi⟩ := List.mem_iff_getElem?.1 hx
  obtain ⟨j, hj⟩ := List.mem_iff_getElem?.1 hs
  obtain ⟨k, hk⟩ := List.mem_iff_getElem?.1 ho
  have ha : (⟨i, j, k, c⟩ : Arc) ∈ arcs ops L := mem_arcs.2 ⟨x, o, hi, hk, hc, hoc.symm, by rw [hnx]; exact hj⟩
  have hst := h.inv.step ha hc0 (x := D x) (y := D s) (by rw [List.getElem?_map, hi]; rfl) (by rw [List.getElem?_map, hj]; rfl) hb hd
  simp only at hst
  rw [map_upd hn D hi] at hst
  have hD0 : 0 ≤ D s := (h.inv.lo (D s) (List.mem_map.2 ⟨s, hs, rfl⟩)).1
  have hDx : D x ≤ bigC := (h.inv.lo (D x) (List.mem_map.2 ⟨x, hx, rfl⟩)).2
  refine ⟨⟨hst.1, fun p hp => ?_, fun y hy o' ho' hc' hb' => ?_⟩, hst.2, upd_ne D _ hxs, fun e => hxs e.symm⟩
  · rcases mem_putA.1 hp with ⟨hp, hne⟩ | rfl
    · obtain ⟨y, hy, rfl, hyb⟩ := h.key p hp
      have : y ≠ x := by rintro rfl; exact hne rfl
      exact ⟨y, hy, by rw [upd_ne D _ this], by rw [upd_ne D _ this]; exact hyb⟩
    · exact ⟨x, hx, by rw [upd_same], by rw [upd_same]; omega⟩
  · by_cases hyx : o'.next y = x
    · refine .inr (.inl (List.mem_map.2 ⟨((x : Int), D s + c), mem_putA.2 (.inr rfl), by rw [hyx]⟩))
    · rw [upd_ne D _ hyx] at hb' ⊢
      have hle : upd D x (D s + c) y ≤ D y := by
        by_cases e : y = x
        · subst e; rw [upd_same]; omega
        · rw [upd_ne D _ e]; exact Int.le_refl _
      rcases h.pend y hy o' ho' hc' hb' with h1 | h1 | ⟨e, h1⟩
      · exact .inl (by omega)
      · obtain ⟨p, hp, he⟩ := List.mem_map.1 h1
        exact .inr (.inl (List.mem_map.2 ⟨p, mem_putA.2 (.inl ⟨hp, by rw [he]; intro e2; exact hyx (by omega)⟩), he⟩))
      · rcases List.mem_cons.1 h1 with h1 | h1
        · simp only [Prod.mk.injEq] at h1
          refine .inl ?_
          rw [e, h1.1, upd_same, h1.2]; exact Int.le_refl _
        · exact .inr (.inr ⟨e, h1⟩)

theorem LInv.done {ops : List Wop} {L : List Nat} {acc : Nat → Bool} {D : Nat → Int} {s : Nat} (h : LInv ops L acc D [] s []) : CostOk (arcs ops L) (L.map acc) (L.map D) := by
  refine { h.inv with relax := fun a ha y hy hb => ?_ }
  obtain ⟨x, o, h1, h2, h3, h4, h5⟩ := mem_arcs.1 ha
  rw [List.getElem?_map, h5] at hy
  simp only [Option.map_some, Option.some.injEq] at hy
  subst hy
  refine ⟨D x, by rw [List.getElem?_map, h1]; rfl, ?_⟩
  rcases h.pend x (List.mem_of_getElem? h1) o (List.mem_of_getElem? h2) h3 hb with h6 | h6 | ⟨_, h6⟩
  · rw [h4]; exact h6
  · simp at h6
  · cases h6

def start0 (acc : Nat → Bool) (x : Nat) : Int := if acc x = true then 0 else bigC
def queue0 (acc : Nat → Bool) (L : List Nat) : List (Int × Int) := (L.filter acc).map fun x : Nat => ((x : Int), 0)
theorem queue0_snoc (acc : Nat → Bool) (L : List Nat) (x : Nat) : queue0 acc (L ++ [x]) = queue0 acc L ++ (if acc x = true then [((x : Int), 0)] else []) := by
  unfold queue0
  rw [List.filter_append, List.map_append]
  by_cases h : acc x = true
  · rw [if_pos h]; simp [h]
  · rw [if_neg h]; simp [h]
theorem queue0_len (acc : Nat → Bool) (L : List Nat) : (queue0 acc L).length ≤ L.length := by unfold queue0; rw [List.length_map]; exact List.length_filter_le _ _
theorem queue0_miss (acc : Nat → Bool) {L : List Nat} {x : Nat} (hx : x ∉ L) : ∀ p ∈ queue0 acc L, p.1 ≠ (x : Int) := by
  intro p hp e
  obtain ⟨y, hy, rfl⟩ := List.mem_map.1 hp
  simp only [Int.natCast_inj] at e
  subst e; exact hx (List.mem_filter.1 hy).1
theorem putA_miss {A : List (Int × Int)} {x k : Int} (h : ∀ p ∈ A, p.1 ≠ x) : putA A x k = A ++ [(x, k)] := by
  unfold putA
  rw [List.filter_eq_self.2 (fun p hp => by simpa using h p hp)]
theorem LInv.start {ops : List Wop} {L : List Nat} (hs : Shut ops L) (acc : Nat → Bool) (s : Nat) : LInv ops L acc (start0 acc) (queue0 acc L) s [] := by
  have e : L.map (start0 acc) = costStart (L.map acc) := by unfold costStart start0; rw [List.map_map]; rfl
  refine ⟨by rw [e]; exact CostInv.start _ _, fun p hp => ?_, fun x hx o ho hc hb => ?_⟩
  · obtain ⟨x, hx, rfl⟩ := List.mem_map.1 hp
    have hx' := List.mem_filter.1 hx
    refine ⟨x, hx'.1, by unfold start0; rw [if_pos hx'.2], by unfold start0; rw [if_pos hx'.2]; decide⟩
  · refine .inr (.inl ?_)
    have hy := hs.2 x hx o ho hc
    by_cases ha : acc (o.next x) = true
    · exact List.mem_map.2 ⟨_, List.mem_map.2 ⟨o.next x, List.mem_filter.2 ⟨hy, ha⟩, rfl⟩, rfl⟩
    · unfold start0 at hb
      rw [if_neg ha] at hb; omega

/-- What is told at the end, as a fact on the list's costs. -/
theorem weightC_bound {d : List Int} (h : ∀ x ∈ d, 0 ≤ x ∧ x ≤ bigC) : (weightC d : Int) ≤ d.length * bigC := by
  induction d with
  | nil => simp [weightC]
  | cons x r ih =>
    have h1 := h x (List.mem_cons_self ..)
    have h2 := ih (fun y hy => h y (List.mem_cons_of_mem _ hy))
    unfold weightC at h2 ⊢
    simp only [List.map_cons, List.sum_cons, List.length_cons]
    have : ((x.toNat + (r.map Int.toNat).sum : Nat) : Int) = x + ((r.map Int.toNat).sum : Nat) := by omega
    rw [this, show ((r.length + 1 : Nat) : Int) * bigC = (r.length : Int) * bigC + bigC by rw [Int.natCast_add, Int.add_mul]; simp]
    omega

end Go.Proofs.Ytcfcmmajlkkabaa

/- A map whose values own rows apart from each other (m[k] = append(m[k], x)). Nothing here speaks of one program. -/
namespace Go.Proofs.Ytcfcmmajlkkabaa
open Go.RowKit

structure GEnt where
  key : Nat
  val : Value
  n : Nat
  cs : List Value

def gview (l : List GEnt) : List (Int × Value) := l.map fun p => ((p.key : Int), p.val)

structure GRows (B : Nat) (T : TypeId) (sz mb : Nat) (l : List GEnt) (F : Nat → Prop) (W : World) : Prop where
  map : IMap W mb .u32 (gview l)
  nd : (l.map GEnt.key).Nodup
  own : ∀ p ∈ l, W.ownsRow B T sz p.val p.n p.cs
  apart : ∀ (i j : Nat) p q, l[i]? = some p → l[j]? = some q → i ≠ j → ∀ k, p.val.ownBlock = some k → q.val.ownBlock ≠ some k
  fM : F mb
  fR : ∀ p ∈ l, ∀ k, p.val.ownBlock = some k → F k

theorem gview_nodup {l : List GEnt} (hn : (l.map GEnt.key).Nodup) : ((gview l).map Prod.fst).Nodup := by
  unfold gview
  rw [List.map_map]
  unfold List.Nodup at hn ⊢
  rw [List.pairwise_map] at hn ⊢
  exact hn.imp (fun {a b} h e => h (by have e' : ((a.key : Nat) : Int) = (b.key : Int) := e; omega))

/-- The map of the rows f at block mb, its blocks in F. -/
def GMap {α : Type} (B : Nat) (T : TypeId) (sz mb : Nat) (cell : α → List Value) (f : Nat → List α) (F : Nat → Prop) (W : World) : Prop :=
  ∃ l, GRows B T sz mb l F W ∧ (∀ p ∈ l, p.n = (f p.key).length ∧ p.cs = (f p.key).flatMap cell) ∧ ∀ y, y ∉ l.map GEnt.key → f y = []

section
variable {α : Type} {B : Nat} {T : TypeId} {sz mb : Nat} {cell : α → List Value} {f : Nat → List α} {F : Nat → Prop} {W : World}

theorem GMap.keeps {S : Nat → Prop} {W' : World} (h : GMap B T sz mb cell f F W) (hk : Keeps S W W') (hs : ∀ b, F b → ¬ S b) : GMap B T sz mb cell f F W' := by
  obtain ⟨l, h1, h2⟩ := h
  exact ⟨l, ⟨h1.map.keeps hk (hs _ h1.fM), h1.nd, fun p hp => hk.ownsRow (h1.own p hp) (fun k hk' => hs k (h1.fR p hp k hk')), h1.apart, h1.fM, h1.fR⟩, h2⟩

theorem GMap.mono {F' : Nat → Prop} (h : GMap B T sz mb cell f F W) (hf : ∀ b, b < W.heap.size → F b → F' b) : GMap B T sz mb cell f F' W := by
  obtain ⟨l, h1, h2⟩ := h
  exact ⟨l, { h1 with fM := hf _ h1.map.lt h1.fM, fR := fun p hp k hk => hf k ((h1.own p hp).lt k hk).2 (h1.fR p hp k hk) }, h2⟩

theorem GMap.fmap (h : GMap B T sz mb cell f F W) : F mb := by obtain ⟨l, h1, _⟩ := h; exact h1.fM
theorem GMap.lt (h : GMap B T sz mb cell f F W) : mb < W.heap.size := by obtain ⟨l, h1, _⟩ := h; exact h1.map.lt

theorem GMap.made (W0 : World) (B : Nat) (T : TypeId) (sz : Nat) (cell : α → List Value) : GMap B T sz W0.heap.size cell (fun _ => []) (fun b => b = W0.heap.size) (W0.alloc (.map #[] 0)) :=
  ⟨[], { map := IMap.made W0 .u32, nd := List.nodup_nil, own := fun p hp => (by cases hp), apart := fun i j p q hi => (by simp at hi), fM := rfl, fR := fun p hp => (by cases hp) }, fun p hp => (by cases hp), fun y _ => rfl⟩

/-- A look at a key. -/
theorem GMap.look (h : GMap B T sz mb cell f F W) {P : Program} {t k e : TypeId} (ht : P.underlying t = some (.map k e)) (hk : P.underlying k = some (.int .u32)) (hz : (zeroValue e).run P W = .ok (.slice none 0 0) W) (y : Nat) :
    ∃ v, (Instr.lookup t (.map (some mb)) (.int .u32 (y : Int)) false).run P W = .ok v W ∧ W.ownsRow B T sz v (f y).length ((f y).flatMap cell) ∧ (∀ k, v.ownBlock = some k → F k ∧ k ≠ mb) := by
  obtain ⟨l, h1, h2, h3⟩ := h
  by_cases hy : y ∈ l.map GEnt.key
  · obtain ⟨p, hp, rfl⟩ := List.mem_map.1 hy
    refine ⟨p.val, (h1.map.run_lookup_hit ht hk (gview_nodup h1.nd) (v := p.val) (x := (p.key : Int)) (List.mem_map.2 ⟨p, hp, rfl⟩)).2, ?_, fun k hk' => ⟨h1.fR p hp k hk', ?_⟩⟩
    · have := h1.own p hp
      rw [(h2 p hp).1, (h2 p hp).2] at this
      exact this
    · rintro rfl
      exact not_map h1.map (h1.own p hp) hk'
  · refine ⟨.slice none 0 0, (h1.map.run_lookup_miss ht hk hz (x := (y : Int)) (fun p hp e => ?_)).2, ?_, fun k hk' => by simp [Value.ownBlock] at hk'⟩
    · obtain ⟨q, hq, rfl⟩ := List.mem_map.1 hp
      simp only [Int.natCast_inj] at e
      exact hy (List.mem_map.2 ⟨q, hq, e⟩)
    · rw [h3 y hy]
      exact World.ownsRow_nil _ _ _ _

/-- A look at a key, and what an append to it makes of the map. -/
theorem GMap.turn (h : GMap B T sz mb cell f F W) {P : Program} {t k e : TypeId} (ht : P.underlying t = some (.map k e)) (hk : P.underlying k = some (.int .u32)) (hz : (zeroValue e).run P W = .ok (.slice none 0 0) W) (y : Nat) :
    ∃ v, (∃ ml, IMap W mb .u32 ml ∧ ∀ W', IMap W' mb .u32 ml → (zeroValue e).run P W' = .ok (.slice none 0 0) W' → (Instr.lookup t (.map (some mb)) (.int .u32 (y : Int)) false).run P W' = .ok v W') ∧ W.ownsRow B T sz v (f y).length ((f y).flatMap cell) ∧ (∀ k, v.ownBlock = some k → F k ∧ k ≠ mb) ∧
      ∀ (Wa W3 : World) (v' : Value) (a : α), Keeps (fun _ => False) W Wa → Wa.grownBy W3 v.ownBlock → W3.ownsRow B T sz v' ((f y).length + 1) ((f y).flatMap cell ++ cell a) → (∀ g, v'.ownBlock = some g → v.ownBlock = some g ∨ W.heap.size ≤ g) →
        ∃ W4, (Instr.mapUpdate t (.map (some mb)) (.int .u32 (y : Int)) v').run P W3 = .ok () W4 ∧ GMap B T sz mb cell (fun z => if z = y then f y ++ [a] else f z) (fun b => F b ∨ W.heap.size ≤ b) W4 ∧ Keeps (fun k => k = mb) W3 W4 := by
  obtain ⟨l, h1, h2, h3⟩ := h
  by_cases hy : y ∈ l.map GEnt.key
  · obtain ⟨p, hp, rfl⟩ := List.mem_map.1 hy
    obtain ⟨i, hi⟩ := List.mem_iff_getElem?.1 hp
    have hil := (List.getElem?_eq_some_iff.1 hi).1
    have hown := h1.own p hp
    have hpm : p.val.ownBlock ≠ some mb := not_map h1.map hown
    rw [(h2 p hp).1, (h2 p hp).2] at hown
    refine ⟨p.val, ⟨_, h1.map, fun W' hm' _ => (hm'.run_lookup_hit ht hk (gview_nodup h1.nd) (v := p.val) (x := (p.key : Int)) (List.mem_map.2 ⟨p, hp, rfl⟩)).2⟩, hown, fun k hk' => ⟨h1.fR p hp k hk', fun e => hpm (by rw [hk', e])⟩, ?_⟩
    intro Wa W3 v' a ka hg hown' hat
    have hk3 : Keeps (fun k => p.val.ownBlock = some k) W W3 := (ka.mono (fun _ _ h => h.elim)).grown hg (fun k hk => .inl hk)
    have hm3 := h1.map.keeps hk3 hpm
    obtain ⟨W4, hrun, hI4, hk4⟩ := hm3.run_update_old ht hk (gview_nodup h1.nd) (x := (p.key : Int)) (u := p.val) (j := i) (by unfold gview; rw [List.getElem?_map, hi]; rfl) v'
    have hv'm : v'.ownBlock ≠ some mb := not_map hm3 hown'
    let p' : GEnt := ⟨p.key, v', (f p.key).length + 1, (f p.key).flatMap cell ++ cell a⟩
    have hkeys : (l.set i p').map GEnt.key = l.map GEnt.key := by
      apply List.ext_getElem?
      intro j
      rw [List.getElem?_map, List.getElem?_map]
      rw [List.getElem?_set]
      by_cases hij : i = j
      · subst hij; rw [if_pos rfl, if_pos hil, hi]; rfl
      · rw [if_neg hij]
    have hget : ∀ (j : Nat) q, (l.set i p')[j]? = some q → (j = i ∧ q = p') ∨ (j ≠ i ∧ l[j]? = some q) := by
      intro j q hq
      rw [List.getElem?_set] at hq
      by_cases hij : i = j
      · subst hij; rw [if_pos rfl, if_pos hil] at hq; cases hq; exact .inl ⟨rfl, rfl⟩
      · rw [if_neg hij] at hq; exact .inr ⟨fun e => hij e.symm, hq⟩
    refine ⟨W4, hrun, ⟨l.set i p', ⟨?_, by rw [hkeys]; exact h1.nd, fun q hq => ?_, fun j j' q q' hj hj' hne k hk1 hk2 => ?_, .inl h1.fM, fun q hq k hk' => ?_⟩, fun q hq => ?_, fun y hy' => ?_⟩, hk4⟩
    · have e1 : gview (l.set i p') = (gview l).set i ((p.key : Int), v') := by
        apply List.ext_getElem?
        intro j
        unfold gview
        rw [List.getElem?_map, List.getElem?_set, List.getElem?_set, List.getElem?_map, List.length_map]
        by_cases hij : i = j
        · subst hij; rw [if_pos rfl, if_pos hil, if_pos rfl, if_pos hil]; rfl
        · rw [if_neg hij, if_neg hij]
      rw [e1]; exact hI4
    · obtain ⟨j, hj⟩ := List.mem_iff_getElem?.1 hq
      rcases hget j q hj with ⟨_, rfl⟩ | ⟨hji, hj2⟩
      · exact hk4.ownsRow hown' (fun k hk' e => hv'm (by rw [hk', e]))
      · have ho := h1.own q (List.mem_of_getElem? hj2)
        refine hk4.ownsRow (hk3.ownsRow ho (fun k hk' hk2 => ?_)) (fun k hk' e => not_map h1.map ho (by rw [hk', e]))
        exact h1.apart i j p q hi hj2 (fun e => hji e.symm) k hk2 hk'
    · rcases hget j q hj with ⟨rfl, rfl⟩ | ⟨hji, hj2⟩
      · rcases hget j' q' hj' with ⟨rfl, rfl⟩ | ⟨hji', hj2'⟩
        · exact hne rfl
        · rcases hat k hk1 with h | h
          · exact h1.apart j j' p q' hi hj2' hne k h hk2
          · have := ((h1.own q' (List.mem_of_getElem? hj2')).lt k hk2).2; omega
      · rcases hget j' q' hj' with ⟨rfl, rfl⟩ | ⟨hji', hj2'⟩
        · rcases hat k hk2 with h | h
          · exact h1.apart j j' q p hj2 hi hne k hk1 h
          · have := ((h1.own q (List.mem_of_getElem? hj2)).lt k hk1).2; omega
        · exact h1.apart j j' q q' hj2 hj2' hne k hk1 hk2
    · obtain ⟨j, hj⟩ := List.mem_iff_getElem?.1 hq
      rcases hget j q hj with ⟨_, rfl⟩ | ⟨hji, hj2⟩
      · rcases hat k hk' with h | h
        · exact .inl (h1.fR p hp k h)
        · exact .inr h
      · exact .inl (h1.fR q (List.mem_of_getElem? hj2) k hk')
    · obtain ⟨j, hj⟩ := List.mem_iff_getElem?.1 hq
      rcases hget j q hj with ⟨_, rfl⟩ | ⟨hji, hj2⟩
      · simp only [p', if_pos]
        refine ⟨by simp, by simp⟩
      · have hne : q.key ≠ p.key := by
          intro e
          have g1 : (l.map GEnt.key)[j]? = some q.key := by rw [List.getElem?_map, hj2]; rfl
          have g2 : (l.map GEnt.key)[i]? = some p.key := by rw [List.getElem?_map, hi]; rfl
          obtain ⟨l1, q1⟩ := List.getElem?_eq_some_iff.1 g1
          obtain ⟨l2, q2⟩ := List.getElem?_eq_some_iff.1 g2
          exact hji ((List.getElem_inj h1.nd).1 (by rw [q1, q2, e]))
        simp only [if_neg hne]
        exact h2 q (List.mem_of_getElem? hj2)
    · rw [hkeys] at hy'
      have hne : y ≠ p.key := by rintro rfl; exact hy' (List.mem_map.2 ⟨p, hp, rfl⟩)
      simp only [if_neg hne]
      exact h3 y hy'
  · have hmiss : ∀ p ∈ gview l, p.1 ≠ (y : Int) := by
      intro p hp e
      obtain ⟨q, hq, rfl⟩ := List.mem_map.1 hp
      simp only [Int.natCast_inj] at e
      exact hy (List.mem_map.2 ⟨q, hq, e⟩)
    refine ⟨.slice none 0 0, ⟨_, h1.map, fun W' hm' hz' => (hm'.run_lookup_miss ht hk hz' hmiss).2⟩, by rw [h3 y hy]; exact World.ownsRow_nil _ _ _ _, fun k hk' => by simp [Value.ownBlock] at hk', ?_⟩
    intro Wa W3 v' a ka hg hown' hat
    have hk3 : Keeps (fun _ => False) W W3 := ka.grown hg (fun k hk => by simp [Value.ownBlock] at hk)
    have hm3 := h1.map.keeps hk3 (fun h => h)
    obtain ⟨W4, hrun, hI4, hk4⟩ := hm3.run_update_new ht hk hmiss v'
    have hv'm : v'.ownBlock ≠ some mb := not_map hm3 hown'
    have hvn : ∀ k, v'.ownBlock = some k → W.heap.size ≤ k := by
      intro k hk'
      rcases hat k hk' with h | h
      · simp [Value.ownBlock] at h
      · exact h
    let p' : GEnt := ⟨y, v', (f y).length + 1, (f y).flatMap cell ++ cell a⟩
    have hget : ∀ (j : Nat) q, (l ++ [p'])[j]? = some q → (j = l.length ∧ q = p') ∨ (j < l.length ∧ l[j]? = some q) := by
      intro j q hq
      by_cases hjl : j < l.length
      · rw [List.getElem?_append_left hjl] at hq; exact .inr ⟨hjl, hq⟩
      · rw [List.getElem?_append_right (by omega)] at hq
        have h0 := (List.getElem?_eq_some_iff.1 hq).1
        simp at h0
        have hj : j = l.length := by omega
        subst hj
        simp at hq
        exact .inl ⟨rfl, hq.symm⟩
    refine ⟨W4, hrun, ⟨l ++ [p'], ⟨by unfold gview at *; simpa using hI4, ?_, fun q hq => ?_, fun j j' q q' hj hj' hne k hk1 hk2 => ?_, .inl h1.fM, fun q hq k hk' => ?_⟩, fun q hq => ?_, fun z hz' => ?_⟩, hk4⟩
    · rw [List.map_append]
      unfold List.Nodup
      rw [List.pairwise_append]
      refine ⟨h1.nd, by simp, fun a ha b hb => ?_⟩
      simp [p'] at hb
      subst hb
      rintro rfl
      exact hy ha
    · rcases List.mem_append.1 hq with hq | hq
      · have ho := h1.own q hq
        exact hk4.ownsRow (hk3.ownsRow ho (fun _ _ h => h)) (fun k hk' e => not_map h1.map ho (by rw [hk', e]))
      · simp at hq; subst hq
        exact hk4.ownsRow hown' (fun k hk' e => hv'm (by rw [hk', e]))
    · rcases hget j q hj with ⟨rfl, rfl⟩ | ⟨hjl, hj2⟩
      · rcases hget j' q' hj' with ⟨rfl, rfl⟩ | ⟨hjl', hj2'⟩
        · exact hne rfl
        · have h1' := ((h1.own q' (List.mem_of_getElem? hj2')).lt k hk2).2
          have := hvn k hk1; omega
      · rcases hget j' q' hj' with ⟨rfl, rfl⟩ | ⟨hjl', hj2'⟩
        · have h1' := ((h1.own q (List.mem_of_getElem? hj2)).lt k hk1).2
          have := hvn k hk2; omega
        · exact h1.apart j j' q q' hj2 hj2' hne k hk1 hk2
    · rcases List.mem_append.1 hq with hq | hq
      · exact .inl (h1.fR q hq k hk')
      · simp at hq; subst hq
        exact .inr (hvn k hk')
    · rcases List.mem_append.1 hq with hq | hq
      · have hne : q.key ≠ y := fun e => hy (List.mem_map.2 ⟨q, hq, e⟩)
        simp only [if_neg hne]
        exact h2 q hq
      · simp at hq; subst hq
        simp only [p', if_pos]
        refine ⟨by simp, by simp⟩
    · rw [List.map_append] at hz'
      have hne : z ≠ y := by rintro rfl; exact hz' (by simp [p'])
      simp only [if_neg hne]
      exact h3 z (fun h => hz' (List.mem_append_left _ h))
end

end Go.Proofs.Ytcfcmmajlkkabaa

/- space.Costs: what its loops know. -/
namespace Go.Proofs.Ytcfcmmajlkkabaa
open Go.RowKit Go.Shelf

theorem Try.info_sarc : (Try.prog.info? 151).map (fun i => (i.zero, i.size, i.bytes)) = some (some (.agg #[.int .u32 0, .int .i64 0]), 2, 16) := by kernel_rfl

theorem Oper.wpIn_append_lies {F : Fence} {n : Nat} {P : Program} (w : World) {o : Oper} {a : Act} {K : Act → World → Prop} {Q : Exit → Act → World → Prop}
    (s x : Operand) (t : TypeId) (hop : o.op = Op.call { callee := Callee.builtin Builtin.append, args := #[s, x], argTypes := #[t, t] })
    (base : Nat) (e : TypeId) (i : TypeInfo) (z : Value) (size bytes : Nat) (h1 : P.underlying t = some (.slice e)) (h2 : P.info? e = some i) (h3 : i.zero = some z) (h4 : i.size = size) (h5 : i.bytes = bytes) (h6 : z.cells.size = size) (h7 : 0 < size)
    (v : Value) (k : Nat) (xs : List Value) (hs : a.eval s = v) (hown : w.ownsRow base e size v k xs) (ad : Addr) (m c : Nat) (news : List Value) (hx : a.eval x = .slice (some ad) m c) (hn : news.length = m * size)
    (hc : ∀ j u, news[j]? = some u → w.cell? (ad.add j) = some u) (h1c : ∀ u ∈ news, u.oneCell' = true) (hm : 0 < m) (b1 : k + m ≤ maxLen) (b2 : (k + m) * bytes ≤ 140737488355328) (b3 : base ≤ w.heap.size) (H : Nat) (hH : w.heap.size = H)
    (hK : ∀ g cap w', w'.ownsRow base e size (.slice (some ⟨g, 0, none⟩) (k + m) cap) (k + m) (xs ++ news) → w.grownBy w' v.ownBlock → (v.ownBlock = some g ∨ g = H) → g < w'.heap.size → K (a.put o.dst (.slice (some ⟨g, 0, none⟩) (k + m) cap)) w') :
    o.wpIn F n P a w K Q := by
  obtain ⟨g, cap, w', hrun, r1, r2, r3, r4⟩ := run_append_lies (P := P) w t o.type base e i z size bytes h1 h2 h3 h4 h5 h6 h7 v k xs hown ad m c news hn hc h1c hm b1 b2 b3 H hH
  unfold Oper.wpIn
  refine ⟨?_, ?_⟩
  · simp [Oper.about, hop, resolve, Target.leads, Sem.run_pure]
  · rw [Oper.semAt_plain F _ _ (by rw [hop]; intro c hc'; cases hc')]
    simp [execOp, hop, resolve, invoke, builtin, hs, hx, hrun, Result.andThen]
    exact hK g cap w' r1 r2 r3 r4

/-! ### the arcs into each state -/
def arcC (p : Nat × Int) : List Value := [.int .u32 (p.1 : Int), .int .i64 p.2]
def addB (f : Nat → List (Nat × Int)) (s : Nat) (l : List Stp) : Nat → List (Nat × Int) := fun y => f y ++ (l.filter fun x => x.to == y).map fun x => (s, x.cost)
theorem addB_nil (f : Nat → List (Nat × Int)) (s : Nat) : addB f s [] = f := by funext y; simp [addB]
theorem addB_snoc (f : Nat → List (Nat × Int)) (s : Nat) (l : List Stp) (x : Stp) : addB f s (l ++ [x]) = fun z => if z = x.to then addB f s l x.to ++ [(s, x.cost)] else addB f s l z := by
  funext z
  unfold addB
  rw [List.filter_append, List.map_append, ← List.append_assoc]
  by_cases h : z = x.to
  · subst h; rw [if_pos rfl]; simp
  · rw [if_neg h]
    have : (x.to == z) = false := by simpa using fun e => h e.symm
    simp [this]
def backF (ops : List Wop) : List Nat → Nat → List (Nat × Int) := fun L y => L.flatMap fun s => ((wsteps ops s).filter fun x => x.to == y).map fun x => (s, x.cost)
theorem backF_nil (ops : List Wop) : backF ops [] = fun _ => [] := by funext y; rfl
theorem backF_snoc (ops : List Wop) (L : List Nat) (s : Nat) : backF ops (L ++ [s]) = addB (backF ops L) s (wsteps ops s) := by
  funext y; unfold backF addB; rw [List.flatMap_append]; simp
theorem backF_mem {ops : List Wop} {L : List Nat} {x s : Nat} {o : Wop} (hx : x ∈ L) (ho : o ∈ ops) (hc : o.can x = true) (hn : o.next x = s) : (x, o.cost) ∈ backF ops L s := by
  obtain ⟨k, hk⟩ := List.mem_iff_getElem?.1 ho
  unfold backF
  refine List.mem_flatMap.2 ⟨x, hx, List.mem_map.2 ⟨⟨k, o.cost, o.next x⟩, List.mem_filter.2 ⟨wsteps_mem.2 ⟨o, hk, hc, rfl, rfl⟩, by simpa using hn⟩, rfl⟩⟩
theorem backF_spec {ops : List Wop} {L : List Nat} {p : Nat × Int} {s : Nat} (h : p ∈ backF ops L s) : p.1 ∈ L ∧ ∃ o ∈ ops, o.can p.1 = true ∧ o.next p.1 = s ∧ o.cost = p.2 := by
  unfold backF at h
  obtain ⟨x, hx, h⟩ := List.mem_flatMap.1 h
  obtain ⟨y, hy, rfl⟩ := List.mem_map.1 h
  obtain ⟨hy, hs⟩ := List.mem_filter.1 hy
  obtain ⟨o, h1, h2, h3, h4⟩ := wsteps_mem.1 hy
  exact ⟨hx, o, List.mem_of_getElem? h1, h2, by rw [← h4]; simpa using hs, h3.symm⟩
theorem addB_len (f : Nat → List (Nat × Int)) (s : Nat) (l : List Stp) (y : Nat) : (addB f s l y).length ≤ (f y).length + l.length := by
  unfold addB; rw [List.length_append, List.length_map]; have := List.length_filter_le (fun x : Stp => x.to == y) l; omega
theorem backF_len {ops : List Wop} (hm : ops.length ≤ 40) : ∀ (L : List Nat) (y : Nat), (backF ops L y).length ≤ 40 * L.length
  | [], y => by simp [backF]
  | s :: r, y => by
    have h1 := backF_len hm r y
    have h2 := wsteps_le ops s
    have h3 := List.length_filter_le (fun x : Stp => x.to == y) (wsteps ops s)
    unfold backF at h1 ⊢
    rw [List.flatMap_cons, List.length_append, List.length_map, List.length_cons]
    omega

/-! ### the state of the walk -/
/-- The queue's blocks are no blocks of deferred calls. -/
theorem U.QRep.live {w : World} {Q : Nat} {A : List (Int × Int)} {t : Int} {F : Nat → Prop} (h : U.QRep w Q A t F) : U.QRep w Q A t (fun b => F b ∧ b < w.heap.size ∧ w.heap[b]? ≠ some (.deferred (some []))) := by
  obtain ⟨v, Mb, l, L, E, h⟩ := h
  refine ⟨v, Mb, l, L, E, { h with fQ := ⟨h.fQ, h.lt.1, cells_not_deferred h.q⟩, fM := ⟨h.fM, h.lt.2.1, map_not_deferred h.mp⟩, fH := fun b hb => ⟨h.fH b hb, h.lt.2.2 b hb, ?_⟩ }⟩
  rcases hb with hb | ⟨e, he, rfl⟩
  · exact row_not_deferred h.rep.row b hb
  · obtain ⟨j, hj⟩ := List.mem_iff_getElem?.1 he
    exact cells_not_deferred (h.rep.ent j e hj)

structure CSt (w0 : World) (b5 mb bo Q : Nat) (f : Nat → List (Nat × Int)) (L : List Nat) (D : Nat → Int) (A : List (Int × Int)) (t : Int) (F G : Nat → Prop) (W : World) : Prop where
  keep : Keeps (fun _ => False) w0 W
  x5 : Boxed W b5 146 (.map (some mb))
  out : IMap W bo .u32 (outV L D)
  back : GMap w0.heap.size 151 2 mb arcC f G W
  q : U.QRep W Q A t F
  l5 : w0.heap.size ≤ b5
  lo : w0.heap.size ≤ bo
  lF : ∀ k, F k → w0.heap.size ≤ k ∧ k < W.heap.size ∧ k ≠ b5 ∧ k ≠ bo ∧ ¬ G k
  lG : ∀ k, G k → w0.heap.size ≤ k ∧ k < W.heap.size ∧ k ≠ b5 ∧ k ≠ bo
  nd : ∀ k, F k → W.heap[k]? ≠ some (.deferred (some []))

theorem Keeps.nd {S : Nat → Prop} {W W' : World} (hk : Keeps S W W') {k : Nat} (hl : k < W.heap.size) (hs : ¬ S k) (h : W.heap[k]? ≠ some (.deferred (some []))) : W'.heap[k]? ≠ some (.deferred (some [])) := by
  rw [hk.block k hl hs]; exact h

section
variable {w0 : World} {b5 mb bo Q : Nat} {f : Nat → List (Nat × Int)} {L : List Nat} {D : Nat → Int} {A : List (Int × Int)} {t : Int} {F G : Nat → Prop} {W W' : World}
theorem CSt.o5 (h : CSt w0 b5 mb bo Q f L D A t F G W) : b5 ≠ bo := fun e => box_not_map h.out h.x5 e.symm
/-- Nothing of it has changed. -/
theorem CSt.by {S : Nat → Prop} (h : CSt w0 b5 mb bo Q f L D A t F G W) (hk : Keeps S W W') (s5 : ¬ S b5) (so : ¬ S bo) (sF : ∀ k, F k → ¬ S k) (sG : ∀ k, G k → ¬ S k) (hS : ∀ k, S k → w0.heap.size ≤ k) : CSt w0 b5 mb bo Q f L D A t F G W' :=
  ⟨h.keep.trans' hk (fun i hi => .inr (hS i hi)), hk.heap h.x5 s5, h.out.keeps hk so, h.back.keeps hk sG, h.q.keeps hk sF, h.l5, h.lo,
   fun k hF => ⟨(h.lF k hF).1, Nat.lt_of_lt_of_le (h.lF k hF).2.1 hk.size, (h.lF k hF).2.2⟩, fun k hG => ⟨(h.lG k hG).1, Nat.lt_of_lt_of_le (h.lG k hG).2.1 hk.size, (h.lG k hG).2.2⟩, fun k hF => Keeps.nd hk (h.lF k hF).2.1 (sF k hF) (h.nd k hF)⟩
theorem CSt.keeps0 (h : CSt w0 b5 mb bo Q f L D A t F G W) (hk : Keeps (fun _ => False) W W') : CSt w0 b5 mb bo Q f L D A t F G W' :=
  h.by hk (fun h => h) (fun h => h) (fun _ _ h => h) (fun _ _ h => h) (fun _ h => h.elim)
/-- The map of costs has changed. -/
theorem CSt.outed {L' : List Nat} {D' : Nat → Int} (h : CSt w0 b5 mb bo Q f L D A t F G W) (hI : IMap W' bo .u32 (outV L' D')) (hk : Keeps (fun k => k = bo) W W') : CSt w0 b5 mb bo Q f L' D' A t F G W' :=
  ⟨h.keep.trans' hk (fun i hi => .inr (by subst hi; exact h.lo)), hk.heap h.x5 h.o5, hI, h.back.keeps hk (fun b hb => (h.lG b hb).2.2.2), h.q.keeps hk (fun b hb => (h.lF b hb).2.2.2.1), h.l5, h.lo,
   fun k hF => ⟨(h.lF k hF).1, Nat.lt_of_lt_of_le (h.lF k hF).2.1 hk.size, (h.lF k hF).2.2⟩, fun k hG => ⟨(h.lG k hG).1, Nat.lt_of_lt_of_le (h.lG k hG).2.1 hk.size, (h.lG k hG).2.2⟩, fun k hF => Keeps.nd hk (h.lF k hF).2.1 (h.lF k hF).2.2.2.1 (h.nd k hF)⟩
theorem CSt.congr {D' : Nat → Int} (h : CSt w0 b5 mb bo Q f L D A t F G W) (hD : ∀ x ∈ L, D x = D' x) : CSt w0 b5 mb bo Q f L D' A t F G W := { h with out := by rw [← outV_congr hD]; exact h.out }
theorem CSt.kd (h : CSt w0 b5 mb bo Q f L D A t F G W) (hk : Keeps F W W') : KeepsD W W' := KeepsD.of hk h.nd
/-- The queue has changed. -/
theorem CSt.queued {A' : List (Int × Int)} {t' : Int} {F' : Nat → Prop} (h : CSt w0 b5 mb bo Q f L D A t F G W) (hq : U.QRep W' Q A' t' F') (hF : ∀ k, F' k → F k ∨ W.heap.size ≤ k) (hk : Keeps F W W') :
    CSt w0 b5 mb bo Q f L D A' t' (fun k => F' k ∧ k < W'.heap.size ∧ W'.heap[k]? ≠ some (.deferred (some []))) G W' :=
  ⟨h.keep.trans' hk (fun i hi => .inr (h.lF i hi).1), hk.heap h.x5 (fun e => (h.lF _ e).2.2.1 rfl), h.out.keeps hk (fun e => (h.lF _ e).2.2.2.1 rfl), h.back.keeps hk (fun b hb e => (h.lF b e).2.2.2.2 hb), hq.live, h.l5, h.lo,
   fun k hk' => by
    rcases hF k hk'.1 with h1 | h1
    · exact ⟨(h.lF k h1).1, hk'.2.1, (h.lF k h1).2.2⟩
    · have h2 := h.x5.lt
      have h3 := h.out.lt
      have h4 := h.keep.size
      exact ⟨by omega, hk'.2.1, by omega, by omega, fun e => by have := (h.lG k e).2.1; omega⟩,
   fun k hG => ⟨(h.lG k hG).1, Nat.lt_of_lt_of_le (h.lG k hG).2.1 hk.size, (h.lG k hG).2.2⟩, fun k hk' => hk'.2.2⟩
/-- The rows of arcs have changed. -/
theorem CSt.backed {S : Nat → Prop} {f' : Nat → List (Nat × Int)} {G' : Nat → Prop} (h : CSt w0 b5 mb bo Q f L D A t F G W) (hb : GMap w0.heap.size 151 2 mb arcC f' G' W') (hG : ∀ k, G' k → G k ∨ W.heap.size ≤ k) (hk : Keeps S W W') (hS : ∀ k, S k → G k) :
    CSt w0 b5 mb bo Q f' L D A t F (fun k => k < W'.heap.size ∧ G' k) W' :=
  ⟨h.keep.trans' hk (fun i hi => .inr (h.lG i (hS i hi)).1), hk.heap h.x5 (fun e => (h.lG _ (hS _ e)).2.2.1 rfl), h.out.keeps hk (fun e => (h.lG _ (hS _ e)).2.2.2 rfl), hb.mono (fun b h1 h2 => ⟨h1, h2⟩), h.q.keeps hk (fun b hF e => (h.lF b hF).2.2.2.2 (hS b e)), h.l5, h.lo,
   fun k hF => ⟨(h.lF k hF).1, Nat.lt_of_lt_of_le (h.lF k hF).2.1 hk.size, (h.lF k hF).2.2.1, (h.lF k hF).2.2.2.1, fun e => by
    rcases hG k e.2 with h1 | h1
    · exact (h.lF k hF).2.2.2.2 h1
    · have := (h.lF k hF).2.1; omega⟩,
   fun k hk' => by
    rcases hG k hk'.2 with h1 | h1
    · exact ⟨(h.lG k h1).1, hk'.1, (h.lG k h1).2.2⟩
    · have h2 := h.x5.lt
      have h3 := h.out.lt
      have h4 := h.keep.size
      exact ⟨by omega, hk'.1, by omega, by omega⟩,
   fun k hF => Keeps.nd hk (h.lF k hF).2.1 (fun e => (h.lF k hF).2.2.2.2 (hS k e)) (h.nd k hF)⟩

theorem GMap.steady {α : Type} {B0 : Nat} {T : TypeId} {sz mb : Nat} {cell : α → List Value} {f : Nat → List α} {G : Nat → Prop} {row : Option Nat} {B : Nat} (h : GMap B0 T sz mb cell f G W) (hg : W.grownBy W' row)
    (hr : ∀ r, row = some r → B ≤ r ∧ ∃ o : Obj, W.heap[r]? = some o ∧ o.isCells = false) (hB : mb < B) : GMap B0 T sz mb cell f G W' := by
  obtain ⟨l, h1, h2⟩ := h
  exact ⟨l, ⟨steady_map hg (fun r e => (hr r e).1) hB h1.map, h1.nd, fun p hp => steady_row hg (fun r e => (hr r e).2) (h1.own p hp), h1.apart, h1.fM, h1.fR⟩, h2⟩
theorem CSt.steady {row : Option Nat} {B : Nat} (h : CSt w0 b5 mb bo Q f L D A t F G W) (hg : W.grownBy W' row) (hr : ∀ r, row = some r → B ≤ r ∧ ∃ o : Obj, W.heap[r]? = some o ∧ o.isCells = false) (hB : w0.heap.size ≤ B) (hbo : bo < B) (hmb : mb < B) (hF : ∀ k, F k → k < B) : CSt w0 b5 mb bo Q f L D A t F G W' :=
  ⟨steady_keeps0 hg (fun r e => (hr r e).1) hB h.keep, steady_heap hg (fun r e => (hr r e).2) h.x5, steady_map hg (fun r e => (hr r e).1) hbo h.out, h.back.steady hg hr hmb, h.q.keeps (steady_keeps hg) (fun b hb e => by have := (hr b e).1; have := hF b hb; omega), h.l5, h.lo,
   fun k hF => ⟨(h.lF k hF).1, Nat.lt_of_lt_of_le (h.lF k hF).2.1 (steady_keeps hg).size, (h.lF k hF).2.2⟩, fun k hG => ⟨(h.lG k hG).1, Nat.lt_of_lt_of_le (h.lG k hG).2.1 (steady_keeps hg).size, (h.lG k hG).2.2⟩, fun k hk => Keeps.nd (steady_keeps hg) (h.lF k hk).2.1 (fun e => by have := (hr k e).1; have := hF k hk; omega) (h.nd k hk)⟩
end

theorem arcC_get : ∀ (l : List (Nat × Int)) (j : Nat) (p : Nat × Int), l[j]? = some p → (l.flatMap arcC)[j * 2]? = some (.int .u32 (p.1 : Int)) ∧ (l.flatMap arcC)[j * 2 + 1]? = some (.int .i64 p.2)
  | [], j, p, h => by simp at h
  | q :: r, 0, p, h => by simp at h; subst h; simp [arcC]
  | q :: r, j + 1, p, h => by
    have h' := arcC_get r j p (by simpa using h)
    rw [List.flatMap_cons, show (j + 1) * 2 = j * 2 + 1 + 1 by omega, show j * 2 + 1 + 1 + 1 = j * 2 + 1 + 1 + 1 from rfl]
    exact ⟨by simpa [arcC] using h'.1, by simpa [arcC] using h'.2⟩
theorem arow_at {w : World} {base k : Nat} {e : TypeId} {v : Value} {l : List (Nat × Int)} {p : Nat × Int} (h : w.ownsRow base e 2 v l.length (l.flatMap arcC)) (hk : l[k]? = some p) :
    ∃ gg cap, v = .slice (some ⟨gg, 0, none⟩) l.length cap ∧ gg < w.heap.size ∧ w.cell? ⟨gg, k * 2, none⟩ = some (.int .u32 (p.1 : Int)) ∧ w.cell? ⟨gg, k * 2 + 1, none⟩ = some (.int .i64 p.2) := by
  have hl := (List.getElem?_eq_some_iff.1 hk).1
  obtain ⟨c0, c1⟩ := arcC_get l k p hk
  rcases h.2 with ⟨_, h0⟩ | ⟨g, cap, cur, rfl, hb, hg, hn, hm, hs, ht⟩
  · omega
  · have key : ∀ (j : Nat) (x : Value), (l.flatMap arcC)[j]? = some x → w.cell? ⟨g, j, none⟩ = some x := by
      intro j x hj
      rw [cell_of_blk hg]
      rw [← ht, List.getElem?_take] at hj
      split at hj
      · simpa using hj
      · cases hj
    exact ⟨g, cap, rfl, lt_of_heap hg, key _ _ c0, key _ _ c1⟩
theorem ownsRow_formN {w : World} {base size n : Nat} {e : TypeId} {v : Value} {xs : List Value} (h : w.ownsRow base e size v n xs) : ∃ ao cap, v = .slice ao n cap := by
  rcases h.2 with ⟨hv, h0⟩ | ⟨g, cap, cur, hv, _⟩
  · exact ⟨none, 0, by rw [hv, h0]⟩
  · exact ⟨_, cap, hv⟩
theorem drop_getS {α : Type} {l : List α} {n : Nat} {k : α} (h : l[n]? = some k) : l.drop n = k :: l.drop (n + 1) := by
  obtain ⟨hl, he⟩ := List.getElem?_eq_some_iff.1 h
  rw [List.drop_eq_getElem_cons hl, he]
/-- Set, whether the item lies in the queue or not. -/
theorem U.set_both (w : World) (Q : Nat) (A : List (Int × Int)) (t : Int) (F : Nat → Prop) (h : U.QRep w Q A t F) (x k : Int) (ht : 0 ≤ t ∧ t ≤ 1000000000000000) (hA : A.length ≤ 999999) :
    Calls Try.prog 95 #[.pointer (some ⟨Q, 0, none⟩), .int .u32 x, .int .i64 k] w fun e w' => e = .returned (.tuple #[]) ∧ ∃ F2, U.QRep w' Q (putA A x k) (t + 1) F2 ∧ (∀ b, F2 b → F b ∨ w.heap.size ≤ b) ∧ Keeps F w w' := by
  by_cases hm : ∃ p ∈ A, p.1 = x
  · obtain ⟨⟨x', k0⟩, hp, rfl⟩ := hm
    exact (U.set_old w Q A t F h x' k k0 hp ht).mono fun e w' ⟨h1, h2, h3⟩ => ⟨h1, F, h2, fun b hb => .inl hb, h3⟩
  · exact (U.set_new w Q A t F h x k (fun p hp e => hm ⟨p, hp, e⟩) ht hA).mono fun e w' ⟨h1, h2, h3⟩ => ⟨h1, _, h2, fun b hb => hb, h3⟩
theorem LInv.anyS {ops : List Wop} {L : List Nat} {acc : Nat → Bool} {D : Nat → Int} {A : List (Int × Int)} {s s' : Nat} (h : LInv ops L acc D A s []) : LInv ops L acc D A s' [] :=
  ⟨h.inv, h.key, fun x hx o ho hc hd => by
    rcases h.pend x hx o ho hc hd with h1 | h1 | ⟨_, h1⟩
    · exact .inl h1
    · exact .inr (.inl h1)
    · cases h1⟩

structure CLoop (ops : List Wop) (acc : Nat → Bool) (L : List Nat) (w0 : World) (b5 mb bo Q i : Nat) (ds : List Deferred) (W : World) : Prop where
  st : ∃ (t : Int) (F G : Nat → Prop), CSt w0 b5 mb bo Q (backF ops (L.take i)) (L.take i) (start0 acc) (queue0 acc (L.take i)) t F G W ∧ 0 ≤ t ∧ t ≤ i
  marks : Marks ds W w0.heap.size

/-- Within the loop over the steps of s, when the steps l have come. -/
def CI (w0 : World) (b5 mb bo Q : Nat) (f : Nat → List (Nat × Int)) (L : List Nat) (D : Nat → Int) (A : List (Int × Int)) (t : Int) (F : Nat → Prop) (s : Nat) (ds : List Deferred) (Bs b9 : Nat) (l : List Stp) (W : World) : Prop :=
  ∃ G, CSt w0 b5 mb bo Q (addB f s l) L D A t F G W ∧ Marks ds W w0.heap.size ∧ W.heap[Bs]? = some (.cells #[.int .u32 (s : Int)] 90 (0, 0)) ∧ W.heap[b9]? = some (.cells #[.int .u32 (s : Int)] 90 (0, 0)) ∧ ∀ k, G k → k ≠ Bs ∧ k ≠ b9

end Go.Proofs.Ytcfcmmajlkkabaa
