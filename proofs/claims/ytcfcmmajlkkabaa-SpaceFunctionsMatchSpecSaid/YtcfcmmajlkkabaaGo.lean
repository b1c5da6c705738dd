/- The plain law of the reference's arcs, steps to go and shortest ways. Nothing here speaks of one program. -/
import Derived.Test.YtcfcmmajlkkabaaTree
namespace Go.Proofs.Ytcfcmmajlkkabaa

structure Arc where
  frm : Nat
  to : Nat
  op : Nat
  cost : Int

theorem nodup_ix {L : List Nat} (h : L.Nodup) {i j x : Nat} (hi : L[i]? = some x) (hj : L[j]? = some x) : i = j := by
  obtain ⟨l1, g1⟩ := List.getElem?_eq_some_iff.1 hi
  obtain ⟨l2, g2⟩ := List.getElem?_eq_some_iff.1 hj
  exact (List.getElem_inj h).1 (by rw [g1, g2])

/-! ### the arcs -/
def hits (L : List Nat) (i j : Nat) (c : Int) (y : Nat) : Nat → List Arc
  | 0 => []
  | k + 1 => hits L i j c y k ++ (if L[k]? = some y then [⟨i, k, j, c⟩] else [])
def opArcs (ops : List Wop) (L : List Nat) (i x : Nat) : Nat → List Arc
  | 0 => []
  | j + 1 => opArcs ops L i x j ++ (match ops[j]? with
    | some o => if o.can x = true then hits L i j o.cost (o.next x) L.length else []
    | none => [])
def arcsTo (ops : List Wop) (L : List Nat) : Nat → List Arc
  | 0 => []
  | i + 1 => arcsTo ops L i ++ (match L[i]? with
    | some x => opArcs ops L i x ops.length
    | none => [])
def arcs (ops : List Wop) (L : List Nat) : List Arc := arcsTo ops L L.length

theorem hits_len (L : List Nat) (i j : Nat) (c : Int) (y : Nat) : ∀ k, (hits L i j c y k).length ≤ k
  | 0 => Nat.le_refl _
  | k + 1 => by
    have := hits_len L i j c y k
    rw [hits, List.length_append]
    split <;> simp <;> omega
theorem opArcs_len (ops : List Wop) (L : List Nat) (i x : Nat) : ∀ j, (opArcs ops L i x j).length ≤ j * L.length
  | 0 => by simp [opArcs]
  | j + 1 => by
    have := opArcs_len ops L i x j
    rw [opArcs, List.length_append, Nat.succ_mul]
    split
    · split
      · have := hits_len L i j ‹Wop›.cost (‹Wop›.next x) L.length
        omega
      · simp; omega
    · simp; omega
theorem arcsTo_len (ops : List Wop) (L : List Nat) : ∀ i, (arcsTo ops L i).length ≤ i * (ops.length * L.length)
  | 0 => by simp [arcsTo]
  | i + 1 => by
    have := arcsTo_len ops L i
    rw [arcsTo, List.length_append, Nat.succ_mul]
    split
    · have := opArcs_len ops L i ‹Nat› ops.length
      omega
    · simp; omega

theorem mem_hits {L : List Nat} {i j : Nat} {c : Int} {y : Nat} {a : Arc} : ∀ {k}, a ∈ hits L i j c y k ↔ a.frm = i ∧ a.op = j ∧ a.cost = c ∧ a.to < k ∧ L[a.to]? = some y
  | 0 => by simp [hits]
  | k + 1 => by
    rw [hits, List.mem_append, mem_hits]
    constructor
    · rintro (⟨h1, h2, h3, h4, h5⟩ | h)
      · exact ⟨h1, h2, h3, by omega, h5⟩
      · split at h
        · simp at h; subst h; exact ⟨rfl, rfl, rfl, by simp, by assumption⟩
        · cases h
    · rintro ⟨h1, h2, h3, h4, h5⟩
      by_cases hk : a.to = k
      · right
        rw [hk] at h5
        rw [if_pos h5]
        cases a; simp at *; exact ⟨h1, hk, h2, h3⟩
      · exact .inl ⟨h1, h2, h3, by omega, h5⟩
theorem mem_opArcs {ops : List Wop} {L : List Nat} {i x : Nat} {a : Arc} : ∀ {j}, a ∈ opArcs ops L i x j ↔ a.frm = i ∧ a.op < j ∧ ∃ o, ops[a.op]? = some o ∧ o.can x = true ∧ a.cost = o.cost ∧ L[a.to]? = some (o.next x)
  | 0 => by simp [opArcs]
  | j + 1 => by
    rw [opArcs, List.mem_append, mem_opArcs]
    constructor
    · rintro (⟨h1, h2, h3⟩ | h)
      · exact ⟨h1, by omega, h3⟩
      · cases ho : ops[j]? with
        | none => rw [ho] at h; cases h
        | some o =>
          rw [ho] at h; simp only at h
          split at h
          · rename_i hc
            obtain ⟨h1, h2, h3, h4, h5⟩ := mem_hits.1 h
            exact ⟨h1, by omega, o, by rw [h2]; exact ho, hc, h3, h5⟩
          · cases h
    · rintro ⟨h1, h2, o, h3, h4, h5, h6⟩
      by_cases hj : a.op = j
      · right
        rw [← hj, h3]; simp only
        rw [if_pos h4]
        exact mem_hits.2 ⟨h1, rfl, h5, (List.getElem?_eq_some_iff.1 h6).1, h6⟩
      · exact .inl ⟨h1, by omega, o, h3, h4, h5, h6⟩
theorem mem_arcsTo {ops : List Wop} {L : List Nat} {a : Arc} : ∀ {i}, a ∈ arcsTo ops L i ↔ a.frm < i ∧ ∃ x o, L[a.frm]? = some x ∧ ops[a.op]? = some o ∧ o.can x = true ∧ a.cost = o.cost ∧ L[a.to]? = some (o.next x)
  | 0 => by simp [arcsTo]
  | i + 1 => by
    rw [arcsTo, List.mem_append, mem_arcsTo]
    constructor
    · rintro (⟨h1, h2⟩ | h)
      · exact ⟨by omega, h2⟩
      · cases hx : L[i]? with
        | none => rw [hx] at h; cases h
        | some x =>
          rw [hx] at h; simp only at h
          obtain ⟨h1, h2, o, h3⟩ := mem_opArcs.1 h
          exact ⟨by omega, x, o, by rw [h1]; exact hx, h3⟩
    · rintro ⟨h1, x, o, h2, h3, h4⟩
      by_cases hi : a.frm = i
      · right
        rw [← hi, h2]; simp only
        exact mem_opArcs.2 ⟨rfl, (List.getElem?_eq_some_iff.1 h3).1, o, h3, h4⟩
      · exact .inl ⟨by omega, x, o, h2, h3, h4⟩
theorem mem_arcs {ops : List Wop} {L : List Nat} {a : Arc} : a ∈ arcs ops L ↔ ∃ x o, L[a.frm]? = some x ∧ ops[a.op]? = some o ∧ o.can x = true ∧ a.cost = o.cost ∧ L[a.to]? = some (o.next x) := by
  unfold arcs
  rw [mem_arcsTo]
  constructor
  · rintro ⟨_, h⟩; exact h
  · rintro ⟨x, o, h1, h2⟩; exact ⟨(List.getElem?_eq_some_iff.1 h1).1, x, o, h1, h2⟩
theorem arcs_lt {ops : List Wop} {L : List Nat} {a : Arc} (h : a ∈ arcs ops L) : a.frm < L.length ∧ a.to < L.length ∧ a.op < ops.length := by
  obtain ⟨x, o, h1, h2, _, _, h3⟩ := mem_arcs.1 h
  exact ⟨(List.getElem?_eq_some_iff.1 h1).1, (List.getElem?_eq_some_iff.1 h3).1, (List.getElem?_eq_some_iff.1 h2).1⟩
theorem arcs_len {ops : List Wop} {L : List Nat} (h1 : L.length ≤ 2000) (h2 : ops.length ≤ 40) : (arcs ops L).length ≤ 160000000 := by
  have := arcsTo_len ops L L.length
  have h3 : ops.length * L.length ≤ 40 * 2000 := Nat.mul_le_mul h2 h1
  have h4 : L.length * (ops.length * L.length) ≤ 2000 * (40 * 2000) := Nat.mul_le_mul h1 h3
  unfold arcs
  omega

/-! ### the steps to go -/
/-- The number of known entries. -/
def known (d : List Int) : Nat := (d.filter fun x => decide (0 ≤ x)).length
def stable (d : List Int) (a : Arc) : Prop := ∀ y, d[a.to]? = some y → 0 ≤ y → ∃ x, d[a.frm]? = some x ∧ 0 ≤ x ∧ x ≤ y + 1
/-- How far from done: an unknown entry weighs most. -/
def weight (n : Nat) (d : List Int) : Nat := (d.map fun x => if 0 ≤ x then x.toNat else n + 1).sum

structure GoInv (A : List Arc) (acc : List Bool) (d : List Int) : Prop where
  len : d.length = acc.length
  lo : ∀ x ∈ d, -1 ≤ x
  hi : ∀ x ∈ d, x ≤ known d
  zero : ∀ i : Nat, d[i]? = some 0 ↔ acc[i]? = some true
  down : ∀ (i : Nat) (x : Int), d[i]? = some x → 0 < x → ∃ a ∈ A, a.frm = i ∧ ∃ y, d[a.to]? = some y ∧ 0 ≤ y ∧ y ≤ x - 1

theorem known_le (d : List Int) : known d ≤ d.length := List.length_filter_le _ _

theorem known_set {d : List Int} {i : Nat} {x z : Int} (hi : d[i]? = some x) (hz : 0 ≤ z) : known (d.set i z) = known d + (if 0 ≤ x then 0 else 1) := by
  induction d generalizing i with
  | nil => simp at hi
  | cons y r ih =>
    cases i with
    | zero =>
      simp at hi; subst hi
      unfold known
      rw [List.set_cons_zero, List.filter_cons, List.filter_cons, if_pos (by simpa using hz)]
      by_cases hy : 0 ≤ y
      · rw [if_pos (by simpa using hy), if_pos hy]; simp
      · rw [if_neg (by simpa using hy), if_neg hy]; simp
    | succ i =>
      simp only [List.getElem?_cons_succ] at hi
      have := ih hi
      unfold known at this ⊢
      rw [List.set_cons_succ, List.filter_cons, List.filter_cons]
      by_cases hy : 0 ≤ y
      · rw [if_pos (by simpa using hy), if_pos (by simpa using hy), List.length_cons, List.length_cons, this]; omega
      · rw [if_neg (by simpa using hy), if_neg (by simpa using hy), this]
theorem weight_set {n : Nat} {d : List Int} {i : Nat} {x z : Int} (hi : d[i]? = some x) (hz : 0 ≤ z) (hzn : z ≤ n) (hx : x < 0 ∨ z < x) : weight n (d.set i z) < weight n d := by
  induction d generalizing i with
  | nil => simp at hi
  | cons y r ih =>
    cases i with
    | zero =>
      simp at hi; subst hi
      unfold weight
      simp only [List.set_cons_zero, List.map_cons, List.sum_cons]
      rw [if_pos hz]
      split <;> omega
    | succ i =>
      simp only [List.getElem?_cons_succ] at hi
      have := ih hi
      unfold weight at this ⊢
      simp only [List.set_cons_succ, List.map_cons, List.sum_cons]
      omega

theorem getElem?_setS {α : Type} (d : List α) (i j : Nat) (z : α) : (d.set i z)[j]? = if i = j ∧ i < d.length then some z else d[j]? := by
  rw [List.getElem?_set]
  by_cases h : i = j
  · subst h
    by_cases hl : i < d.length
    · simp [hl]
    · simp [hl]
  · simp [h]

theorem GoInv.step {A : List Arc} {acc : List Bool} {d : List Int} (h : GoInv A acc d) {a : Arc} (ha : a ∈ A) {x y : Int} (hx : d[a.frm]? = some x) (hy : d[a.to]? = some y) (hy0 : 0 ≤ y) (hxy : x < 0 ∨ y + 1 < x) :
    GoInv A acc (d.set a.frm (y + 1)) ∧ weight d.length (d.set a.frm (y + 1)) < weight d.length d := by
  have hfl := (List.getElem?_eq_some_iff.1 hx).1
  have hkn := known_set hx (show (0 : Int) ≤ y + 1 by omega)
  have hyk := h.hi y (List.mem_of_getElem? hy)
  have hxk := h.hi x (List.mem_of_getElem? hx)
  have hbnd : y + 1 ≤ known (d.set a.frm (y + 1)) := by
    rw [hkn]; split
    · omega
    · omega
  have hne : a.to ≠ a.frm := by
    intro e
    rw [e, hx] at hy; cases hy
    omega
  have hkl := known_le (d.set a.frm (y + 1))
  rw [List.length_set] at hkl
  refine ⟨⟨by rw [List.length_set]; exact h.len, fun z hz => ?_, fun z hz => ?_, fun i => ?_, fun i z hz h0 => ?_⟩, weight_set hx (by omega) (by omega) hxy⟩
  · rcases List.mem_or_eq_of_mem_set hz with hz | rfl
    · exact h.lo z hz
    · omega
  · rcases List.mem_or_eq_of_mem_set hz with hz | rfl
    · have := h.hi z hz
      rw [hkn]; split <;> omega
    · exact hbnd
  · rw [getElem?_setS]
    by_cases hi : a.frm = i
    · subst hi
      rw [if_pos ⟨rfl, hfl⟩]
      have hz := h.zero a.frm
      rw [hx] at hz
      constructor
      · intro e; simp only [Option.some.injEq] at e; omega
      · intro e
        have := hz.2 e
        simp only [Option.some.injEq] at this; omega
    · rw [if_neg (by simp [hi])]; exact h.zero i
  · rw [getElem?_setS] at hz
    by_cases hi : a.frm = i
    · subst hi
      rw [if_pos ⟨rfl, hfl⟩] at hz; cases hz
      refine ⟨a, ha, rfl, y, ?_, hy0, by omega⟩
      rw [getElem?_setS, if_neg (by intro e; exact hne e.1.symm)]; exact hy
    · rw [if_neg (by simp [hi])] at hz
      obtain ⟨b, hb, h1, u, h2, h3, h4⟩ := h.down i z hz h0
      refine ⟨b, hb, h1, ?_⟩
      by_cases hbt : a.frm = b.to
      · rw [← hbt, hx] at h2; cases h2
        refine ⟨y + 1, ?_, by omega, by omega⟩
        rw [getElem?_setS, if_pos ⟨hbt, hfl⟩]
      · refine ⟨u, ?_, h3, h4⟩
        rw [getElem?_setS, if_neg (by simp [hbt])]; exact h2

def goStart (acc : List Bool) : List Int := acc.map fun b => if b then 0 else -1
theorem GoInv.start (A : List Arc) (acc : List Bool) : GoInv A acc (goStart acc) := by
  unfold goStart
  refine ⟨by simp, fun x hx => ?_, fun x hx => ?_, fun i => ?_, fun i x hx h0 => ?_⟩
  · obtain ⟨b, _, rfl⟩ := List.mem_map.1 hx; cases b <;> simp
  · obtain ⟨b, _, rfl⟩ := List.mem_map.1 hx; cases b <;> simp <;> omega
  · rw [List.getElem?_map]
    cases hb : acc[i]? with
    | none => simp
    | some b => cases b <;> simp
  · rw [List.getElem?_map] at hx
    cases hb : acc[i]? with
    | none => rw [hb] at hx; cases hx
    | some b => rw [hb] at hx; cases b <;> simp at hx <;> omega

structure GoOk (A : List Arc) (acc : List Bool) (d : List Int) : Prop extends GoInv A acc d where
  relax : ∀ a ∈ A, stable d a

theorem GoOk.next {A : List Arc} {acc : List Bool} {d : List Int} (h : GoOk A acc d) {i : Nat} {x : Int} (hx : d[i]? = some x) (h0 : 0 < x) : ∃ a ∈ A, a.frm = i ∧ d[a.to]? = some (x - 1) := by
  obtain ⟨a, ha, h1, y, h2, h3, h4⟩ := h.down i x hx h0
  obtain ⟨x', h5, h6, h7⟩ := h.relax a ha y h2 h3
  rw [h1, hx] at h5; cases h5
  exact ⟨a, ha, h1, by rw [h2]; congr 1; omega⟩

/-! ### the greedy way down -/
inductive Greedy (A : List Arc) (d : List Int) : Nat → List Nat → Prop
  | nil {f : Nat} : d[f]? = some 0 → Greedy A d f []
  | cons {a : Arc} {v : Int} {l : List Nat} : a ∈ A → d[a.frm]? = some v → 0 < v → d[a.to]? = some (v - 1) → (∀ b ∈ A, b.frm = a.frm → d[b.to]? = some (v - 1) → a.op ≤ b.op) → Greedy A d a.to l → Greedy A d a.frm (a.op :: l)

theorem Greedy.length {A : List Arc} {d : List Int} {f : Nat} {l : List Nat} (h : Greedy A d f l) : d[f]? = some (l.length : Int) := by
  induction h with
  | nil h => exact h
  | cons ha h1 h2 h3 h4 _ ih =>
    rw [h3] at ih
    rw [h1]
    simp only [Option.some.injEq] at ih ⊢
    simp only [List.length_cons]; omega

/-- The list is closed under the steps. -/
def Shut (ops : List Wop) (L : List Nat) : Prop := L.Nodup ∧ ∀ x ∈ L, ∀ o ∈ ops, o.can x = true → o.next x ∈ L

theorem shut_reached {ops : List Wop} {s : Nat} {L : List Nat} (h : reached ops s = some L) : Shut ops L := by
  obtain ⟨h1, _, _, h4⟩ := reached_some h
  refine ⟨h1, fun x hx o ho hc => (h4 _).2 (.step ((h4 x).1 hx) ?_)⟩
  unfold nexts
  exact List.mem_map.2 ⟨o, List.mem_filter.2 ⟨ho, hc⟩, rfl⟩

theorem go_low {ops : List Wop} {L : List Nat} (hs : Shut ops L) {p : Nat → Bool} {d : List Int} (h : GoOk (arcs ops L) (L.map p) d) : ∀ (q : List Nat) {f x y : Nat}, L[f]? = some x → runOps ops x q = some y → p y = true → ∃ v, d[f]? = some v ∧ 0 ≤ v ∧ v ≤ q.length
  | [], f, x, y, hf, hr, hp => by
    simp [runOps] at hr; subst hr
    exact ⟨0, (h.zero f).2 (by rw [List.getElem?_map, hf]; simp [hp]), by omega, by simp⟩
  | o :: q, f, x, y, hf, hr, hp => by
    rw [runOps] at hr
    cases ho : ops[o]? with
    | none => rw [ho] at hr; cases hr
    | some op =>
      rw [ho] at hr; simp only at hr
      split at hr
      · rename_i hc
        have hm := hs.2 x (List.mem_of_getElem? hf) op (List.mem_of_getElem? ho) hc
        obtain ⟨k, hk⟩ := List.mem_iff_getElem?.1 hm
        obtain ⟨v, h1, h2, h3⟩ := go_low hs h q hk hr hp
        obtain ⟨u, h4, h5, h6⟩ := h.relax ⟨f, k, o, op.cost⟩ (mem_arcs.2 ⟨x, op, hf, ho, hc, rfl, hk⟩) v h1 h2
        exact ⟨u, h4, h5, by simp only [List.length_cons]; omega⟩
      · cases hr

theorem go_none {ops : List Wop} {L : List Nat} (hs : Shut ops L) {p : Nat → Bool} {d : List Int} (h : GoOk (arcs ops L) (L.map p) d) {f x : Nat} (hf : L[f]? = some x) {v : Int} (hv : d[f]? = some v) (hneg : v < 0) : Best ops x p none := by
  intro q y hq
  cases hp : p y with
  | false => rfl
  | true =>
    obtain ⟨u, h1, h2, _⟩ := go_low hs h q hf hq hp
    rw [hv] at h1; cases h1; omega

theorem go_best {ops : List Wop} {L : List Nat} (hs : Shut ops L) {p : Nat → Bool} {d : List Int} (h : GoOk (arcs ops L) (L.map p) d) {f : Nat} {l : List Nat} (hg : Greedy (arcs ops L) d f l) :
    ∀ {x : Nat}, L[f]? = some x → Best ops x p (some l) := by
  induction hg with
  | nil h0 =>
    intro x hf
    have := (h.zero _).1 h0
    rw [List.getElem?_map, hf] at this
    simp at this
    exact ⟨⟨x, rfl, this⟩, fun q y _ _ => sle_nil q⟩
  | @cons a v l ha h1 h2 h3 h4 hg ih =>
    intro x hf
    obtain ⟨x', o, e1, e2, e3, e4, e5⟩ := mem_arcs.1 ha
    rw [hf] at e1; cases e1
    obtain ⟨⟨y, k1, k2⟩, k3⟩ := ih e5
    have hlen := Greedy.length hg
    rw [h3] at hlen
    simp only [Option.some.injEq] at hlen
    refine ⟨⟨y, by rw [runOps, e2]; simp only; rw [if_pos e3]; exact k1, k2⟩, fun q z hq hz => ?_⟩
    obtain ⟨u, g1, g2, g3⟩ := go_low hs h q hf hq hz
    rw [h1] at g1; cases g1
    by_cases hlt : l.length + 1 < q.length
    · exact .inl (by simp only [List.length_cons]; exact hlt)
    · cases q with
      | nil => simp at g3; omega
      | cons b q =>
        simp only [List.length_cons] at hlt g3
        have hql : q.length = l.length := by omega
        rw [runOps] at hq
        cases hb : ops[b]? with
        | none => rw [hb] at hq; cases hq
        | some ob =>
          rw [hb] at hq; simp only at hq
          split at hq
          · rename_i hc
            obtain ⟨k, hk⟩ := List.mem_iff_getElem?.1 (hs.2 x (List.mem_of_getElem? hf) ob (List.mem_of_getElem? hb) hc)
            obtain ⟨u, f1, f2, f3⟩ := go_low hs h q hk hq hz
            have hb2 : (⟨a.frm, k, b, ob.cost⟩ : Arc) ∈ arcs ops L := mem_arcs.2 ⟨x, ob, hf, hb, hc, rfl, hk⟩
            obtain ⟨u', f4, f5, f6⟩ := h.relax _ hb2 u f1 f2
            have f4' : d[a.frm]? = some u' := f4
            rw [h1] at f4'; cases f4'
            have hu : u = v - 1 := by omega
            subst hu
            have hle := h4 _ hb2 rfl f1
            have hle' : a.op ≤ b := hle
            refine .inr ⟨by simp only [List.length_cons]; omega, ?_⟩
            rcases Nat.lt_or_ge a.op b with hab | hab
            · exact .inl hab
            · have hab' : a.op = b := by omega
              refine .inr ⟨hab', ?_⟩
              rw [← hab', e2] at hb; cases hb
              rcases k3 q z hq hz with hs | hs
              · omega
              · exact hs.2
          · cases hq

end Go.Proofs.Ytcfcmmajlkkabaa
