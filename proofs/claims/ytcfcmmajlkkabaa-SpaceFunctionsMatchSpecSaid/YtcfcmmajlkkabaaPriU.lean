/- Prices: two solutions agree; the depths of a breadth-first tree are one. -/
import Derived.Test.YtcfcmmajlkkabaaPrice
import Derived.Test.YtcfcmmajlkkabaaPath
namespace Go.Proofs.Ytcfcmmajlkkabaa

theorem PriOk.walk {A : List Arc} {wt : Arc → Int} {n s : Nat} {d : List Int} (h : PriOk A wt n s d) (hA : ∀ a ∈ A, 0 ≤ wt a) {i : Nat} {c : Int} (hw : WalkA A wt s i c) : 0 ≤ c ∧ ∃ x, d[i]? = some x ∧ 0 ≤ x ∧ x ≤ c := by
  induction hw with
  | nil => exact ⟨Int.le_refl _, 0, h.start, Int.le_refl _, Int.le_refl _⟩
  | snoc _ ha ih =>
    obtain ⟨h0, x, hx, hx0, hxc⟩ := ih
    have hc := hA _ ha
    obtain ⟨y, hy, hy0, hyx⟩ := h.relax _ ha x hx hx0
    exact ⟨by omega, y, hy, hy0, by omega⟩

theorem PriOk.le {A : List Arc} {wt : Arc → Int} {n s : Nat} {d d' : List Int} (h : PriOk A wt n s d) (h' : PriOk A wt n s d') (hA : ∀ a ∈ A, 0 ≤ wt a) (i : Nat) (x y : Int) (hx : d[i]? = some x) (hy : d'[i]? = some y) (h0 : 0 ≤ y) : 0 ≤ x ∧ x ≤ y := by
  obtain ⟨_, x', hx', h1, h2⟩ := h.walk hA (h'.real i y hy h0)
  rw [hx] at hx'; cases hx'
  exact ⟨h1, h2⟩

theorem PriOk.unique {A : List Arc} {wt : Arc → Int} {n s : Nat} {d d' : List Int} (h : PriOk A wt n s d) (h' : PriOk A wt n s d') (hA : ∀ a ∈ A, 0 ≤ wt a) : d = d' := by
  apply List.ext_getElem?
  intro i
  cases hx : d[i]? with
  | none =>
    rw [List.getElem?_eq_none_iff] at hx
    symm; rw [List.getElem?_eq_none_iff, h'.len, ← h.len]; exact hx
  | some x =>
    have hl := (List.getElem?_eq_some_iff.1 hx).1
    have hl' : i < d'.length := by rw [h'.len, ← h.len]; exact hl
    obtain ⟨y, hy⟩ : ∃ y, d'[i]? = some y := ⟨_, List.getElem?_eq_getElem hl'⟩
    have hxl := h.lo x (List.mem_of_getElem? hx)
    have hyl := h'.lo y (List.mem_of_getElem? hy)
    rw [hy]
    congr 1
    by_cases h0 : 0 ≤ y
    · have h1 := h.le h' hA i x y hx hy h0
      have h2 := h'.le h hA i y x hy hx h1.1
      omega
    · by_cases h1 : 0 ≤ x
      · have := h'.le h hA i y x hy hx h1; omega
      · omega

/-! ### depths -/
def depL (T : List Ent) : List (Int × Value) := T.map fun e => ((e.to : Int), Value.int .i64 (e.path.length : Int))
def depT (T : List Ent) (x : Nat) : Int := match T.find? (fun e => e.to == x) with
  | some e => (e.path.length : Int)
  | none => 0

theorem depT_eq {T : List Ent} (hn : (keysT T).Nodup) {e : Ent} (he : e ∈ T) : depT T e.to = (e.path.length : Int) := by
  unfold depT
  cases hf : T.find? (fun f => f.to == e.to) with
  | none => have := List.find?_eq_none.1 hf e he; simp at this
  | some f =>
    have h1 := List.mem_of_find?_eq_some hf
    have h2 := List.find?_some hf
    simp only [beq_iff_eq] at h2
    obtain ⟨j, hj⟩ := List.mem_iff_getElem?.1 h1
    obtain ⟨k, hk⟩ := List.mem_iff_getElem?.1 he
    have g1 : (keysT T)[j]? = some f.to := by unfold keysT; rw [List.getElem?_map, hj]; rfl
    have g2 : (keysT T)[k]? = some e.to := by unfold keysT; rw [List.getElem?_map, hk]; rfl
    obtain ⟨l1, q1⟩ := List.getElem?_eq_some_iff.1 g1
    obtain ⟨l2, q2⟩ := List.getElem?_eq_some_iff.1 g2
    have : j = k := (List.getElem_inj hn).1 (by rw [q1, q2, h2])
    subst this
    rw [hj] at hk; cases hk; rfl

theorem depL_nodup {T : List Ent} (hn : (keysT T).Nodup) : ((depL T).map Prod.fst).Nodup := by
  unfold depL
  rw [List.map_map]
  unfold keysT List.Nodup at hn
  unfold List.Nodup
  rw [List.pairwise_map] at hn ⊢
  exact hn.imp (fun {a b} h e => h (by have e' : ((a.to : Nat) : Int) = (b.to : Int) := e; omega))
theorem depL_mem {T : List Ent} {e : Ent} (he : e ∈ T) : ((e.to : Int), Value.int .i64 (e.path.length : Int)) ∈ depL T := List.mem_map.2 ⟨e, he, rfl⟩
theorem depL_miss {T : List Ent} {x : Nat} (hx : x ∉ keysT T) : ∀ p ∈ depL T, p.1 ≠ (x : Int) := by
  intro p hp e
  obtain ⟨f, hf, rfl⟩ := List.mem_map.1 hp
  simp only [Int.natCast_inj] at e
  exact hx (List.mem_map.2 ⟨f, hf, e⟩)

/-- Where all has been taken, all that can be reached lies in the tree. -/
theorem TreeOk.all {ops : List Wop} {s i : Nat} {T : List Ent} (h : TreeOk ops s i T) (hi : T.length ≤ i) {x : Nat} (hr : Reach ops s x) : ∃ e ∈ T, e.to = x := by
  induction hr with
  | refl => exact ⟨_, List.mem_of_getElem? h.head, rfl⟩
  | step _ hy ih =>
    obtain ⟨e, he, rfl⟩ := ih
    obtain ⟨j, hj⟩ := List.mem_iff_getElem?.1 he
    have hjl := (List.getElem?_eq_some_iff.1 hj).1
    rw [← wsteps_nexts] at hy
    obtain ⟨x, hx, rfl⟩ := List.mem_map.1 hy
    obtain ⟨f, hf, h1, _⟩ := h.closed j e (by omega) hj x hx
    exact ⟨f, hf, h1⟩

theorem run_walk {ops : List Wop} {L : List Nat} (hsh : Shut ops L) {wt : Arc → Int} (hw : ∀ a, wt a = 1) {s i : Nat} (hs : L[i]? = some s) : ∀ (n : Nat) (p : List Nat), p.length = n → ∀ y, runOps ops s p = some y → ∃ k : Nat, L[k]? = some y ∧ WalkA (arcs ops L) wt i k (p.length : Int) := by
  intro n
  induction n with
  | zero =>
    intro p hp y hy
    have : p = [] := List.length_eq_zero_iff.1 hp
    subst this
    simp [runOps] at hy
    subst hy
    exact ⟨i, hs, .nil⟩
  | succ n ih =>
    intro p hp z hz
    have hne : p ≠ [] := by intro e; subst e; cases hp
    obtain ⟨q, o, rfl⟩ : ∃ q o, p = q ++ [o] := ⟨p.dropLast, p.getLast hne, (List.dropLast_concat_getLast hne).symm⟩
    obtain ⟨y, op, h1, h2, h3, rfl⟩ := runOps_snoc hz
    obtain ⟨k, hk, hwk⟩ := ih q (by simpa using hp) y h1
    obtain ⟨m, hm⟩ := List.mem_iff_getElem?.1 (hsh.2 y (List.mem_of_getElem? hk) op (List.mem_of_getElem? h2) h3)
    refine ⟨m, hm, ?_⟩
    have := WalkA.snoc (a := ⟨k, m, o, op.cost⟩) hwk (mem_arcs.2 ⟨y, op, hk, h2, h3, rfl, hm⟩)
    rw [hw] at this
    simpa using this

theorem dep_ok {ops : List Wop} {s i : Nat} {L : List Nat} (hsh : Shut ops L) (hr : ∀ x, x ∈ L ↔ Reach ops s x) {k : Nat} (hk : L[k]? = some s) (hi : (tree ops s i).length ≤ i) {wt : Arc → Int} (hw : ∀ a, wt a = 1) :
    PriOk (arcs ops L) wt L.length k (L.map (depT (tree ops s i))) := by
  have ok := tree_ok ops s i
  have hin : ∀ x ∈ L, ∃ e ∈ tree ops s i, e.to = x := fun x hx => ok.all hi ((hr x).1 hx)
  have h0 : ∀ x ∈ L, 0 ≤ depT (tree ops s i) x := by
    intro x hx
    obtain ⟨e, he, rfl⟩ := hin x hx
    rw [depT_eq ok.nodup he]; omega
  refine ⟨by simp, fun x hx => ?_, ?_, fun j x hx _ => ?_, fun a ha x hx _ => ?_⟩
  · obtain ⟨y, hy, rfl⟩ := List.mem_map.1 hx
    have := h0 y hy; omega
  · rw [List.getElem?_map, hk]
    have h1 := depT_eq ok.nodup (List.mem_of_getElem? ok.head)
    simp only [Option.map_some, Option.some.injEq]
    simpa using h1
  · rw [List.getElem?_map] at hx
    cases hj : L[j]? with
    | none => rw [hj] at hx; cases hx
    | some y =>
      rw [hj] at hx
      simp only [Option.map_some, Option.some.injEq] at hx
      obtain ⟨e, he, rfl⟩ := hin y (List.mem_of_getElem? hj)
      rw [depT_eq ok.nodup he] at hx
      obtain ⟨m, hm, hwk⟩ := run_walk hsh hw hk _ e.path rfl e.to (ok.run e he)
      have : m = j := nodup_ix hsh.1 hm hj
      subst this
      rw [← hx]; exact hwk
  · obtain ⟨y, o, h1, h2, h3, h4, h5⟩ := mem_arcs.1 ha
    rw [List.getElem?_map, h1] at hx
    simp only [Option.map_some, Option.some.injEq] at hx
    obtain ⟨e, he, rfl⟩ := hin y (List.mem_of_getElem? h1)
    rw [depT_eq ok.nodup he] at hx
    obtain ⟨j, hj⟩ := List.mem_iff_getElem?.1 he
    have hjl := (List.getElem?_eq_some_iff.1 hj).1
    obtain ⟨f, hf, hft, hle⟩ := ok.closed j e (by omega) hj ⟨a.op, o.cost, o.next e.to⟩ (wsteps_mem.2 ⟨o, h2, h3, rfl, rfl⟩)
    simp only at hft hle
    refine ⟨depT (tree ops s i) (o.next e.to), by rw [List.getElem?_map, h5]; rfl, ?_, ?_⟩
    · exact h0 _ (List.mem_of_getElem? h5)
    · rw [hw, ← hft, depT_eq ok.nodup hf, ← hx]
      rcases hle with hl | ⟨hl, _⟩
      · rw [List.length_append] at hl; simp at hl; omega
      · rw [List.length_append] at hl; simp at hl; omega

end Go.Proofs.Ytcfcmmajlkkabaa
