/- deepening.search: what the search has in memory. deepening.search: its second loop: the goal state that is chosen, the next bound; plain, and in memory. astar.Best: best-first search with a heuristic. No condition beyond what each theorem says. -/
import Derived.Test.YtkjmgafnaddhkaaGreatJ5
import Derived.Test.YtkjmgafnaddhkaaGreatJ4
import Derived.Sort.LoopGhostIn

namespace Go.Proofs.YtkjmgafnaddhkaaGreat
open Go.RowKit Go.Shelf

/-- The heuristic's own memory, the record with the two maps, the line, and the boxes of the variables. -/
structure SrM (w : World) (FH : Nat → Prop) (I : World → Prop) (fn : Value) (b4 b5 b8 b9 rb mp mr : Nat) (bd : Int) (P : Nat → Option Int) (fp : Nat → Option SArc) (A : List Nat) (vl : Value) (W : World) : Prop where
  keep : Keeps FH w W
  hI : I W
  price : FMap W mp intV P
  par_ : FMap W mr backV fp
  line : Tail W w.heap.size 82 vl (A.map encW)
  x4 : Boxed W b4 77 fn
  x5 : Boxed W b5 3 (.int .i64 bd)
  x8 : Boxed W b8 79 (.pointer (some ⟨rb, 0, none⟩))
  x9 : Boxed W b9 72 vl
  xr : W.heap[rb]? = some (.cells #[.map (some mp), .map (some mr), .int .i64 1000000000, .int .u32 0, .bool false] 84 (0, 0))
  ord : w.heap.size ≤ b4 ∧ b4 < b5 ∧ b5 < mp ∧ mp < mr ∧ mr < rb ∧ rb < b8 ∧ b8 < b9
  row : ∀ k, vl.ownBlock = some k → b8 < k ∧ k ≠ b9

section
variable {w W W' : World} {L : List Nat} {H : Nat → Int} {gh n0 : Nat} {pa cb : Array Value} {FH : Nat → Prop} {I : World → Prop} {fn vl : Value} {b4 b5 b8 b9 rb mp mr : Nat} {bd : Int} {P P' : Nat → Option Int} {fp fp' : Nat → Option SArc} {A : List Nat}
theorem SrM.by {S : Nat → Prop} (hh : Heur gh pa cb L H n0 w.heap.size FH I) (h : SrM w FH I fn b4 b5 b8 b9 rb mp mr bd P fp A vl W) (hk : Keeps S W W') (hS : ∀ k, S k → w.heap.size ≤ k) (c4 : ¬ S b4) (c5 : ¬ S b5) (c8 : ¬ S b8) (c9 : ¬ S b9) (cr : ¬ S rb) (e1 : ¬ S mp) (e2 : ¬ S mr) (el : ∀ k, vl.ownBlock = some k → ¬ S k) :
    SrM w FH I fn b4 b5 b8 b9 rb mp mr bd P fp A vl W' :=
  ⟨h.keep.trans' hk (fun i hi => .inr (hS i hi)), hh.steady h.hI hk hS, h.price.keeps hk e1, h.par_.keeps hk e2, h.line.keeps hk el, hk.heap h.x4 c4, hk.heap h.x5 c5, hk.heap h.x8 c8, hk.heap h.x9 c9, hk.heap h.xr cr, h.ord, h.row⟩
theorem SrM.keeps0 (hh : Heur gh pa cb L H n0 w.heap.size FH I) (h : SrM w FH I fn b4 b5 b8 b9 rb mp mr bd P fp A vl W) (hk : Keeps (fun _ => False) W W') : SrM w FH I fn b4 b5 b8 b9 rb mp mr bd P fp A vl W' :=
  h.by hh hk (fun _ h => h.elim) (fun h => h) (fun h => h) (fun h => h) (fun h => h) (fun h => h) (fun h => h) (fun h => h) (fun _ _ h => h)
/-- The heuristic has been asked. -/
theorem SrM.asked (hh : Heur gh pa cb L H n0 w.heap.size FH I) (h : SrM w FH I fn b4 b5 b8 b9 rb mp mr bd P fp A vl W) (hk : Keeps FH W W') (hI : I W') : SrM w FH I fn b4 b5 b8 b9 rb mp mr bd P fp A vl W' := by
  have no : ∀ k, w.heap.size ≤ k → ¬ FH k := fun k hk h => by have := (hh.lo k h).2; omega
  obtain ⟨o1, o2, o3, o4, o5, o6, o7⟩ := h.ord
  exact ⟨h.keep.trans hk, hI, h.price.keeps hk (no _ (by omega)), h.par_.keeps hk (no _ (by omega)), h.line.keeps hk (fun k hk' => no _ (by have := h.row k hk'; omega)), hk.heap h.x4 (no _ (by omega)), hk.heap h.x5 (no _ (by omega)), hk.heap h.x8 (no _ (by omega)), hk.heap h.x9 (no _ (by omega)), hk.heap h.xr (no _ (by omega)), h.ord, h.row⟩
theorem SrM.priced (hh : Heur gh pa cb L H n0 w.heap.size FH I) (h : SrM w FH I fn b4 b5 b8 b9 rb mp mr bd P fp A vl W) (hk : Keeps (fun k => k = mp) W W') (hp : FMap W' mp intV P') : SrM w FH I fn b4 b5 b8 b9 rb mp mr bd P' fp A vl W' := by
  obtain ⟨o1, o2, o3, o4, o5, o6, o7⟩ := h.ord
  have lo : ∀ k, k = mp → w.heap.size ≤ k := fun k e => by omega
  exact ⟨h.keep.trans' hk (fun i hi => .inr (lo i hi)), hh.steady h.hI hk lo, hp, h.par_.keeps hk (by omega), h.line.keeps hk (fun k hk' => by have := h.row k hk'; omega), hk.heap h.x4 (by omega), hk.heap h.x5 (by omega), hk.heap h.x8 (by omega), hk.heap h.x9 (by omega), hk.heap h.xr (by omega), h.ord, h.row⟩
theorem SrM.pard (hh : Heur gh pa cb L H n0 w.heap.size FH I) (h : SrM w FH I fn b4 b5 b8 b9 rb mp mr bd P fp A vl W) (hk : Keeps (fun k => k = mr) W W') (hp : FMap W' mr backV fp') : SrM w FH I fn b4 b5 b8 b9 rb mp mr bd P fp' A vl W' := by
  obtain ⟨o1, o2, o3, o4, o5, o6, o7⟩ := h.ord
  have lo : ∀ k, k = mr → w.heap.size ≤ k := fun k e => by omega
  exact ⟨h.keep.trans' hk (fun i hi => .inr (lo i hi)), hh.steady h.hI hk lo, h.price.keeps hk (by omega), hp, h.line.keeps hk (fun k hk' => by have := h.row k hk'; omega), hk.heap h.x4 (by omega), hk.heap h.x5 (by omega), hk.heap h.x8 (by omega), hk.heap h.x9 (by omega), hk.heap h.xr (by omega), h.ord, h.row⟩
theorem SrM.steady {row : Option Nat} {B : Nat} (hh : Heur gh pa cb L H n0 w.heap.size FH I) (h : SrM w FH I fn b4 b5 b8 b9 rb mp mr bd P fp A vl W) (hg : W.grownBy W' row) (hr : ∀ r, row = some r → B ≤ r ∧ ∃ o : Obj, W.heap[r]? = some o ∧ o.isCells = false) (hB : w.heap.size ≤ B) (m1 : mp < B) (m2 : mr < B) : SrM w FH I fn b4 b5 b8 b9 rb mp mr bd P fp A vl W' := by
  have cell : ∀ {k : Nat}, (∃ cs T fr, W.heap[k]? = some (.cells cs T fr)) → ¬ row = some k := fun hc e => by
    obtain ⟨cs, T, fr, hc⟩ := hc
    obtain ⟨_, o, ho, hn⟩ := hr _ e
    rw [hc] at ho; cases ho; cases hn
  have lt : ∀ {k : Nat}, k < B → ¬ row = some k := fun hk e => by have := (hr _ e).1; omega
  exact h.by hh (steady_keeps hg) (fun k e => by have := (hr k e).1; omega) (cell ⟨_, _, _, h.x4⟩) (cell ⟨_, _, _, h.x5⟩) (cell ⟨_, _, _, h.x8⟩) (cell ⟨_, _, _, h.x9⟩) (cell ⟨_, _, _, h.xr⟩) (lt m1) (lt m2) (fun k hk => by
    obtain ⟨cur, hc⟩ := h.line.block k hk
    exact cell ⟨_, _, _, hc⟩)
theorem SrM.nd (h : SrM w FH I fn b4 b5 b8 b9 rb mp mr bd P fp A vl W) : W.heap[mp]? ≠ some (.deferred (some [])) ∧ W.heap[mr]? ≠ some (.deferred (some [])) ∧ W.heap[b9]? ≠ some (.deferred (some [])) :=
  ⟨h.price.not_deferred, h.par_.not_deferred, cells_not_deferred h.x9⟩
/-- The first of the line is taken. -/
theorem SrM.pop {g off n cap x : Nat} (hh : Heur gh pa cb L H n0 w.heap.size FH I) (h : SrM w FH I fn b4 b5 b8 b9 rb mp mr bd P fp (x :: A) (.slice (some ⟨g, off, none⟩) (n + 1) cap) W) (hn : A.length = n) :
    SrM w FH I fn b4 b5 b8 b9 rb mp mr bd P fp A (.slice (some (cutAt g off cap)) n (cap - 1)) (W.setCell ⟨b9, 0, none⟩ (.slice (some (cutAt g off cap)) n (cap - 1))) := by
  have hk : Keeps (fun b => b = b9) W (W.setCell ⟨b9, 0, none⟩ (.slice (some (cutAt g off cap)) n (cap - 1))) := (Keeps.refl (fun b => b = b9) W).setCell (p := ⟨b9, 0, none⟩) (.inl rfl) _
  have hl := h.line
  rw [List.map_cons] at hl
  obtain ⟨o1, o2, o3, o4, o5, o6, o7⟩ := h.ord
  have hg := h.row g (by simp [Value.ownBlock])
  have lo : ∀ k, k = b9 → w.heap.size ≤ k := fun k e => by omega
  refine ⟨h.keep.trans' hk (fun i hi => .inr (lo i hi)), hh.steady h.hI hk lo, h.price.keeps hk (by omega), h.par_.keeps hk (by omega), (hl.cut (by simpa using hn)).keeps hk (fun k hk' e => ?_), hk.heap h.x4 (by omega), hk.heap h.x5 (by omega), hk.heap h.x8 (by omega), h.x9.set _, hk.heap h.xr (by omega), h.ord, fun k hk' => ?_⟩
  · simp [Value.ownBlock, cutAt_block] at hk'; omega
  · simp [Value.ownBlock, cutAt_block] at hk'; omega
/-- One more is put in the line. -/
theorem SrM.push {W3 : World} {o : Obj} {gg off m cap x : Nat} (hh : Heur gh pa cb L H n0 w.heap.size FH I) (h : SrM w FH I fn b4 b5 b8 b9 rb mp mr bd P fp A vl W) (hown : Tail W3 w.heap.size 82 (.slice (some ⟨gg, off, none⟩) m cap) (A.map encW ++ [encW x]))
    (hg : (W.alloc o).grownBy W3 vl.ownBlock) (hat : vl.ownBlock = some gg ∨ gg = W.heap.size + 1) : SrM w FH I fn b4 b5 b8 b9 rb mp mr bd P fp (A ++ [x]) (.slice (some ⟨gg, off, none⟩) m cap) (W3.setCell ⟨b9, 0, none⟩ (.slice (some ⟨gg, off, none⟩) m cap)) := by
  have h' := h.keeps0 hh ((Keeps.refl (fun _ => False) W).alloc o)
  have hk1 : Keeps (fun b => vl.ownBlock = some b) (W.alloc o) W3 := (Keeps.refl _ _).grown hg (fun k hk => .inl hk)
  obtain ⟨o1, o2, o3, o4, o5, o6, o7⟩ := h.ord
  have nr : ∀ k, k ≤ b8 ∨ k = b9 → ¬ vl.ownBlock = some k := fun k hk e => by have := h.row k e; omega
  have hx9 : Boxed W3 b9 72 vl := hk1.heap h'.x9 (nr _ (.inr rfl))
  have hk2 : Keeps (fun b => b = b9) W3 (W3.setCell ⟨b9, 0, none⟩ (.slice (some ⟨gg, off, none⟩) m cap)) := (Keeps.refl (fun b => b = b9) W3).setCell (p := ⟨b9, 0, none⟩) (.inl rfl) _
  have hgb : b8 < gg ∧ gg ≠ b9 := by
    rcases hat with e | e
    · exact h.row gg e
    · have := h.x9.lt; omega
  have lo1 : ∀ k, vl.ownBlock = some k → w.heap.size ≤ k := fun k e => by have := h.row k e; omega
  have lo2 : ∀ k, k = b9 → w.heap.size ≤ k := fun k e => by omega
  refine ⟨(h'.keep.trans' hk1 (fun i e => .inr (lo1 i e))).trans' hk2 (fun i e => .inr (lo2 i e)), hh.steady (hh.steady h'.hI hk1 lo1) hk2 lo2, (h'.price.keeps hk1 (nr _ (.inl (by omega)))).keeps hk2 (by omega), (h'.par_.keeps hk1 (nr _ (.inl (by omega)))).keeps hk2 (by omega), ?_,
    hk2.heap (hk1.heap h'.x4 (nr _ (.inl (by omega)))) (by omega), hk2.heap (hk1.heap h'.x5 (nr _ (.inl (by omega)))) (by omega), hk2.heap (hk1.heap h'.x8 (nr _ (.inl (by omega)))) (by omega), hx9.set _, hk2.heap (hk1.heap h'.xr (nr _ (.inl (by omega)))) (by omega), h.ord, fun k hk' => ?_⟩
  · rw [List.map_append]
    exact hown.keeps hk2 (fun k hk' e => by simp [Value.ownBlock] at hk'; omega)
  · simp [Value.ownBlock] at hk'; omega
end

/-- Arcs of s that have not come yet. -/
def ToDoN (ops : List Wop) (s : Nat) (l : List Stp) (R : List SArc) : Prop := ∀ a ∈ R, ∃ e ∈ wsteps ops s, a = arcOf e ∧ e ∉ l
theorem ToDoN.start (ops : List Wop) (L : List Nat) (s : Nat) : ToDoN ops s [] (nextG ops L s) := fun a ha => by
  unfold nextG at ha
  split at ha
  · obtain ⟨e, he, rfl⟩ := List.mem_map.1 ha
    exact ⟨e, he, rfl, by simp⟩
  · cases ha
theorem ToDoN.done {ops : List Wop} {s : Nat} {R : List SArc} (h : ToDoN ops s (wsteps ops s) R) : R = [] := by
  cases R with
  | nil => rfl
  | cons a r => obtain ⟨e, h1, _, h2⟩ := h a (by simp); exact absurd h1 h2
theorem DeepI.more {ops : List Wop} {L : List Nat} {st : Nat} {H : Nat → Int} {b : Int} {P : Nat → Option Int} {par : Nat → Option SArc} {A : List Nat} {s : Nat} {R R' : List SArc} (h : DeepI ops L st H b P par A s R) (hR : ∀ b ∈ R, b ∈ R') : DeepI ops L st H b P par A s R' :=
  ⟨h.dom, h.start, h.from_, h.way, h.key, fun x p hp => (h.pend x p hp).imp (fun h => h) (fun h a ha => (h a ha).imp (fun h => h) (fun h => h.imp (fun h => h) (fun h => ⟨h.1, hR a h.2⟩)))⟩
/-- The arc of y comes up. -/
theorem DeepI.next {ops : List Wop} {L : List Nat} {st : Nat} {H : Nat → Int} {b : Int} {P : Nat → Option Int} {par : Nat → Option SArc} {A : List Nat} {s : Nat} {R : List SArc} (h : DeepI ops L st H b P par A s R) {l : List Stp} (ht : ToDoN ops s l R) (y : Stp) :
    ∃ R', DeepI ops L st H b P par A s (arcOf y :: R') ∧ ToDoN ops s (l ++ [y]) R' := by
  classical
  refine ⟨R.filter fun b => decide (b ≠ arcOf y), h.more (fun b hb => ?_), fun a ha => ?_⟩
  · by_cases e : b = arcOf y
    · rw [e]; simp
    · exact List.mem_cons_of_mem _ (List.mem_filter.2 ⟨hb, by simpa using e⟩)
  · obtain ⟨h1, h2⟩ := List.mem_filter.1 ha
    obtain ⟨e, g2, g3, g4⟩ := ht a h1
    refine ⟨e, g2, g3, fun hm => ?_⟩
    rcases List.mem_append.1 hm with hm | hm
    · exact g4 hm
    · rw [List.mem_singleton] at hm; subst hm
      have : a ≠ arcOf e := by simpa using h2
      exact this g3
theorem step_arc {ops : List Wop} {L : List Nat} {s : Nat} (hs : s ∈ L) {y : Stp} (hy : y ∈ wsteps ops s) : arcOf y ∈ nextG ops L s := by
  unfold nextG
  rw [if_pos hs]
  exact List.mem_map.2 ⟨y, hy, rfl⟩

/-- Within the loop over the steps of s, when the steps l have come. -/
def SrBI (ops : List Wop) (L : List Nat) (st : Nat) (H : Nat → Int) (w : World) (FH : Nat → Prop) (I : World → Prop) (fn : Value) (b4 b5 b8 b9 rb mp mr : Nat) (bd : Int) (s : Nat) (ps : Int) (M0 : Nat) (ds : List Deferred) (Bs b10 : Nat) (l : List Stp) (W : World) : Prop :=
  ∃ (P : Nat → Option Int) (par : Nat → Option SArc) (A : List Nat) (vl : Value) (R : List SArc), SrM w FH I fn b4 b5 b8 b9 rb mp mr bd P (parF st par) A vl W ∧ DeepI ops L st H bd P par A s R ∧ ToDoN ops s l R ∧ P s = some ps ∧
    2 * weightB L 900000000 P + A.length < M0 ∧ A.length + weightB L 900000000 P ≤ 1800000000000 ∧ Marks ds W w.heap.size ∧ W.heap[Bs]? = some (.cells #[.int .u32 (s : Int)] 82 (0, 0)) ∧ W.heap[b10]? = some (.cells #[.int .u32 (s : Int)] 82 (0, 0)) ∧ (∀ k, vl.ownBlock = some k → k ≠ Bs ∧ k ≠ b10) ∧ Stamp W mp

theorem DeepI.anyS {ops : List Wop} {L : List Nat} {st : Nat} {H : Nat → Int} {b : Int} {P : Nat → Option Int} {par : Nat → Option SArc} {A : List Nat} {s s' : Nat} (h : DeepI ops L st H b P par A s []) : DeepI ops L st H b P par A s' [] :=
  ⟨h.dom, h.start, h.from_, h.way, h.key, fun x p hp => (h.pend x p hp).imp (fun h => h) (fun h a ha => (h a ha).imp (fun h => h) (fun h => h.imp (fun h => h) (fun h => absurd h.2 (by simp))))⟩

end Go.Proofs.YtkjmgafnaddhkaaGreat

namespace Go.Proofs.YtkjmgafnaddhkaaGreat
open Go.RowKit Go.Shelf

/-! ### plain -/
/-- The goal state that is chosen among the states that have come. -/
structure GoalL (acc : Nat → Bool) (P : Nat → Option Int) (left : Nat → Bool) (fnd : Bool) (g : Nat) : Prop where
  none_ : fnd = false → ∀ x p, P x = some p → left x = false → acc x = false
  some_ : fnd = true → ∃ p, P g = some p ∧ acc g = true ∧ ∀ x q, P x = some q → left x = false → acc x = true → p ≤ q
theorem GoalL.start (acc : Nat → Bool) (P : Nat → Option Int) : GoalL acc P (fun x => (P x).isSome) false 0 :=
  ⟨fun _ x p hp hl => (by rw [hp] at hl; cases hl), fun h => by cases h⟩
theorem GoalL.done {acc : Nat → Bool} {P : Nat → Option Int} {left : Nat → Bool} {fnd : Bool} {g : Nat} (h : GoalL acc P left fnd g) (hl : ∀ x, left x = false) : GoalOk acc P fnd g :=
  ⟨fun hf x p hp => h.none_ hf x p hp (hl x), fun hf => by
    obtain ⟨p, h1, h2, h3⟩ := h.some_ hf
    exact ⟨p, h1, h2, fun x q hq ha => h3 x q hq (hl x) ha⟩⟩
theorem GoalL.skip {acc : Nat → Bool} {P : Nat → Option Int} {left : Nat → Bool} {fnd : Bool} {g x : Nat} {p : Int} (h : GoalL acc P left fnd g) (hp : P x = some p) (hn : acc x = false ∨ (fnd = true ∧ ∀ q, P g = some q → q ≤ p)) : GoalL acc P (fun z => left z && decide (z ≠ x)) fnd g := by
  have old : ∀ z, (left z && decide (z ≠ x)) = false → z ≠ x → left z = false := fun z h1 h2 => by
    cases hl : left z with
    | false => rfl
    | true => rw [hl] at h1; simp [h2] at h1
  refine ⟨fun hf z q hq hl => ?_, fun hf => ?_⟩
  · by_cases e : z = x
    · subst e
      rcases hn with h1 | ⟨h1, _⟩
      · exact h1
      · rw [hf] at h1; cases h1
    · exact h.none_ hf z q hq (old z hl e)
  · obtain ⟨p0, h1, h2, h3⟩ := h.some_ hf
    refine ⟨p0, h1, h2, fun z q hq hl ha => ?_⟩
    by_cases e : z = x
    · subst e
      rw [hp] at hq; cases hq
      rcases hn with h4 | ⟨_, h4⟩
      · rw [h4] at ha; cases ha
      · exact h4 p0 h1
    · exact h3 z q hq (old z hl e) ha
theorem GoalL.take {acc : Nat → Bool} {P : Nat → Option Int} {left : Nat → Bool} {fnd : Bool} {g x : Nat} {p : Int} (h : GoalL acc P left fnd g) (hp : P x = some p) (ha : acc x = true) (hn : fnd = false ∨ ∀ q, P g = some q → p ≤ q) : GoalL acc P (fun z => left z && decide (z ≠ x)) true x := by
  have old : ∀ z, (left z && decide (z ≠ x)) = false → z ≠ x → left z = false := fun z h1 h2 => by
    cases hl : left z with
    | false => rfl
    | true => rw [hl] at h1; simp [h2] at h1
  refine ⟨fun hf => (by cases hf), fun _ => ⟨p, hp, ha, fun z q hq hl hz => ?_⟩⟩
  by_cases e : z = x
  · subst e; rw [hp] at hq; cases hq; exact Int.le_refl _
  · cases hf : fnd with
    | false => rw [h.none_ hf z q hq (old z hl e)] at hz; cases hz
    | true =>
      obtain ⟨p0, h1, _, h3⟩ := h.some_ hf
      rcases hn with h4 | h4
      · rw [hf] at h4; cases h4
      · have := h4 p0 h1; have := h3 z q hq (old z hl e) hz; omega

/-- The least worth above the bound on the arcs that have come. -/
structure NxOk (ops : List Wop) (H : Nat → Int) (bd : Int) (P : Nat → Option Int) (D : Nat → Nat → Prop) (nx : Int) : Prop where
  le : nx ≤ 1000000000
  is : nx = 1000000000 ∨ Cand ops H bd (costP P) nx
  least : ∀ x p i o, P x = some p → D x i → ops[i]? = some o → o.can x = true → H (o.next x) < 1000000000 → bd < p / 4096 + o.cost + H (o.next x) → nx ≤ p / 4096 + o.cost + H (o.next x)
theorem NxOk.start (ops : List Wop) (H : Nat → Int) (bd : Int) (P : Nat → Option Int) {D : Nat → Nat → Prop} (hD : ∀ x p i, P x = some p → ¬ D x i) : NxOk ops H bd P D 1000000000 :=
  ⟨Int.le_refl _, .inl rfl, fun x p i _ hp hd _ _ _ _ => absurd hd (hD x p i hp)⟩
theorem NxOk.to {ops : List Wop} {H : Nat → Int} {bd : Int} {P : Nat → Option Int} {D D' : Nat → Nat → Prop} {nx : Int} (h : NxOk ops H bd P D nx) (hD : ∀ x i o, (P x).isSome = true → D' x i → ops[i]? = some o → o.can x = true → D x i) : NxOk ops H bd P D' nx :=
  ⟨h.le, h.is, fun x p i o hp hd ho hc hH hb => h.least x p i o hp (hD x i o (by rw [hp]; rfl) hd ho hc) ho hc hH hb⟩
theorem NxOk.done {ops : List Wop} {H : Nat → Int} {bd : Int} {P : Nat → Option Int} {D : Nat → Nat → Prop} {nx : Int} (h : NxOk ops H bd P D nx) (hD : ∀ x i, D x i) : NextOk ops H bd (costP P) nx := by
  refine ⟨h.le, h.is, fun u hu => ?_⟩
  obtain ⟨x, c, o, hc, ho, hcan, hH, rfl, hb⟩ := hu
  obtain ⟨p, hp, rfl⟩ := costP_some hc
  obtain ⟨i, hi⟩ := List.mem_iff_getElem?.1 ho
  exact h.least x p i o hp (hD x i) hi hcan hH hb
/-- One more arc has come. -/
theorem NxOk.more {ops : List Wop} {H : Nat → Int} {bd : Int} {P : Nat → Option Int} {D D' : Nat → Nat → Prop} {nx nx' : Int} (h : NxOk ops H bd P D nx) {x i : Nat} {p : Int} {o : Wop} (hp : P x = some p) (ho : ops[i]? = some o) (hc : o.can x = true) (hD : ∀ z j, D' z j → D z j ∨ (z = x ∧ j = i))
    (hn : (¬ (H (o.next x) < 1000000000 ∧ bd < p / 4096 + o.cost + H (o.next x)) ∧ nx' = nx) ∨ (H (o.next x) < 1000000000 ∧ bd < p / 4096 + o.cost + H (o.next x) ∧ nx' = min nx (p / 4096 + o.cost + H (o.next x)))) : NxOk ops H bd P D' nx' := by
  have hle : nx' ≤ nx := by rcases hn with ⟨_, rfl⟩ | ⟨_, _, rfl⟩ <;> omega
  refine ⟨by have := h.le; omega, ?_, fun z q j o' hq hd ho' hc' hH hb => ?_⟩
  · rcases hn with ⟨_, rfl⟩ | ⟨h1, h2, rfl⟩
    · exact h.is
    · by_cases hlt : nx ≤ p / 4096 + o.cost + H (o.next x)
      · rw [Int.min_eq_left hlt]; exact h.is
      · rw [Int.min_eq_right (by omega)]
        exact .inr ⟨x, p / 4096, o, costP_of hp, List.mem_of_getElem? ho, hc, h1, rfl, h2⟩
  · rcases hD z j hd with h1 | ⟨rfl, rfl⟩
    · have := h.least z q j o' hq h1 ho' hc' hH hb; omega
    · rw [hp] at hq; cases hq
      rw [ho] at ho'; cases ho'
      rcases hn with ⟨h1, _⟩ | ⟨_, _, rfl⟩
      · exact absurd ⟨hH, hb⟩ h1
      · exact Int.min_le_right _ _

/-! ### in memory -/
structure Sr2 (w : World) (FH : Nat → Prop) (I : World → Prop) (fn : Value) (b4 b5 b8 rb mp mr rit : Nat) (bd : Int) (P : Nat → Option Int) (fp : Nat → Option SArc) (nx : Int) (g : Nat) (fnd : Bool) (left : Nat → Bool) (cnt : Nat) (W : World) : Prop where
  keep : Keeps FH w W
  hI : I W
  rg : RgF W mp rit intV P left cnt
  par_ : FMap W mr backV fp
  x4 : Boxed W b4 77 fn
  x5 : Boxed W b5 3 (.int .i64 bd)
  x8 : Boxed W b8 79 (.pointer (some ⟨rb, 0, none⟩))
  xr : W.heap[rb]? = some (.cells #[.map (some mp), .map (some mr), .int .i64 nx, .int .u32 (g : Int), .bool fnd] 84 (0, 0))
  ord : w.heap.size ≤ b4 ∧ b4 < b5 ∧ b5 < mp ∧ mp < mr ∧ mr < rb ∧ rb < b8 ∧ b8 < rit
section
variable {w W W' : World} {L : List Nat} {H : Nat → Int} {gh n0 : Nat} {pa cb : Array Value} {FH : Nat → Prop} {I : World → Prop} {fn : Value} {b4 b5 b8 rb mp mr rit : Nat} {bd : Int} {P : Nat → Option Int} {fp : Nat → Option SArc} {nx : Int} {g : Nat} {fnd : Bool} {left : Nat → Bool} {cnt : Nat}
theorem Sr2.by {S : Nat → Prop} (hh : Heur gh pa cb L H n0 w.heap.size FH I) (h : Sr2 w FH I fn b4 b5 b8 rb mp mr rit bd P fp nx g fnd left cnt W) (hk : Keeps S W W') (hS : ∀ k, S k → w.heap.size ≤ k) (c4 : ¬ S b4) (c5 : ¬ S b5) (c8 : ¬ S b8) (cr : ¬ S rb) (e1 : ¬ S mp) (e2 : ¬ S mr) (e3 : ¬ S rit) :
    Sr2 w FH I fn b4 b5 b8 rb mp mr rit bd P fp nx g fnd left cnt W' :=
  ⟨h.keep.trans' hk (fun i hi => .inr (hS i hi)), hh.steady h.hI hk hS, h.rg.keeps hk e1 e3, h.par_.keeps hk e2, hk.heap h.x4 c4, hk.heap h.x5 c5, hk.heap h.x8 c8, hk.heap h.xr cr, h.ord⟩
theorem Sr2.keeps0 (hh : Heur gh pa cb L H n0 w.heap.size FH I) (h : Sr2 w FH I fn b4 b5 b8 rb mp mr rit bd P fp nx g fnd left cnt W) (hk : Keeps (fun _ => False) W W') : Sr2 w FH I fn b4 b5 b8 rb mp mr rit bd P fp nx g fnd left cnt W' :=
  h.by hh hk (fun _ h => h.elim) (fun h => h) (fun h => h) (fun h => h) (fun h => h) (fun h => h) (fun h => h) (fun h => h)
theorem Sr2.asked (hh : Heur gh pa cb L H n0 w.heap.size FH I) (h : Sr2 w FH I fn b4 b5 b8 rb mp mr rit bd P fp nx g fnd left cnt W) (hk : Keeps FH W W') (hI : I W') : Sr2 w FH I fn b4 b5 b8 rb mp mr rit bd P fp nx g fnd left cnt W' := by
  have no : ∀ k, w.heap.size ≤ k → ¬ FH k := fun k hk h => by have := (hh.lo k h).2; omega
  obtain ⟨o1, o2, o3, o4, o5, o6, o7⟩ := h.ord
  exact ⟨h.keep.trans hk, hI, h.rg.keeps hk (no _ (by omega)) (no _ (by omega)), h.par_.keeps hk (no _ (by omega)), hk.heap h.x4 (no _ (by omega)), hk.heap h.x5 (no _ (by omega)), hk.heap h.x8 (no _ (by omega)), hk.heap h.xr (no _ (by omega)), h.ord⟩
/-- The step of the range. -/
theorem Sr2.turned {left' : Nat → Bool} {cnt' : Nat} (hh : Heur gh pa cb L H n0 w.heap.size FH I) (h : Sr2 w FH I fn b4 b5 b8 rb mp mr rit bd P fp nx g fnd left cnt W) (hk : Keeps (fun j => j = rit) W W') (hr : RgF W' mp rit intV P left' cnt') : Sr2 w FH I fn b4 b5 b8 rb mp mr rit bd P fp nx g fnd left' cnt' W' := by
  obtain ⟨o1, o2, o3, o4, o5, o6, o7⟩ := h.ord
  have lo : ∀ k, k = rit → w.heap.size ≤ k := fun k e => by omega
  exact ⟨h.keep.trans' hk (fun i hi => .inr (lo i hi)), hh.steady h.hI hk lo, hr, h.par_.keeps hk (by omega), hk.heap h.x4 (by omega), hk.heap h.x5 (by omega), hk.heap h.x8 (by omega), hk.heap h.xr (by omega), h.ord⟩
/-- A store into the record. -/
theorem Sr2.stored {nx' : Int} {g' : Nat} {fnd' : Bool} (hh : Heur gh pa cb L H n0 w.heap.size FH I) (h : Sr2 w FH I fn b4 b5 b8 rb mp mr rit bd P fp nx g fnd left cnt W) (hk : Keeps (fun j => j = rb) W W') (hr : W'.heap[rb]? = some (.cells #[.map (some mp), .map (some mr), .int .i64 nx', .int .u32 (g' : Int), .bool fnd'] 84 (0, 0))) : Sr2 w FH I fn b4 b5 b8 rb mp mr rit bd P fp nx' g' fnd' left cnt W' := by
  obtain ⟨o1, o2, o3, o4, o5, o6, o7⟩ := h.ord
  have lo : ∀ k, k = rb → w.heap.size ≤ k := fun k e => by omega
  exact ⟨h.keep.trans' hk (fun i hi => .inr (lo i hi)), hh.steady h.hI hk lo, h.rg.keeps hk (by omega) (by omega), h.par_.keeps hk (by omega), hk.heap h.x4 (by omega), hk.heap h.x5 (by omega), hk.heap h.x8 (by omega), hr, h.ord⟩
theorem Sr2.steady {row : Option Nat} {B : Nat} (hh : Heur gh pa cb L H n0 w.heap.size FH I) (h : Sr2 w FH I fn b4 b5 b8 rb mp mr rit bd P fp nx g fnd left cnt W) (hg : W.grownBy W' row) (hr : ∀ r, row = some r → B ≤ r ∧ ∃ o : Obj, W.heap[r]? = some o ∧ o.isCells = false) (hB : w.heap.size ≤ B) (m1 : mp < B) (m2 : mr < B) (m3 : rit < B) : Sr2 w FH I fn b4 b5 b8 rb mp mr rit bd P fp nx g fnd left cnt W' := by
  have cell : ∀ {k : Nat}, (∃ cs T fr, W.heap[k]? = some (.cells cs T fr)) → ¬ row = some k := fun hc e => by
    obtain ⟨cs, T, fr, hc⟩ := hc
    obtain ⟨_, o, ho, hn⟩ := hr _ e
    rw [hc] at ho; cases ho; cases hn
  have lt : ∀ {k : Nat}, k < B → ¬ row = some k := fun hk e => by have := (hr _ e).1; omega
  exact h.by hh (steady_keeps hg) (fun k e => by have := (hr k e).1; omega) (cell ⟨_, _, _, h.x4⟩) (cell ⟨_, _, _, h.x5⟩) (cell ⟨_, _, _, h.x8⟩) (cell ⟨_, _, _, h.xr⟩) (lt m1) (lt m2) (lt m3)
theorem SrM.two {vl : Value} {b9 : Nat} {A : List Nat} {n : Nat} (hh : Heur gh pa cb L H n0 w.heap.size FH I) (h : SrM w FH I fn b4 b5 b8 b9 rb mp mr bd P fp A vl W) (hk : Keeps (fun _ => False) W W') (hr : RgF W' mp W.heap.size intV P (fun x => (P x).isSome) n) : Sr2 w FH I fn b4 b5 b8 rb mp mr W.heap.size bd P fp 1000000000 0 false (fun x => (P x).isSome) n W' := by
  have h' := h.keeps0 hh hk
  have := h.x8.lt
  exact ⟨h'.keep, h'.hI, hr, h'.par_, h'.x4, h'.x5, h'.x8, h'.xr, by have := h.ord; omega⟩
end

/-- Arcs that have come: those of the states that have come, and of the state x those of the steps l. -/
def DoneA (left : Nat → Bool) (x : Nat) (l : List Stp) (z i : Nat) : Prop := (left z = false ∧ z ≠ x) ∨ (z = x ∧ ∃ e ∈ l, e.op = i)
/-- Within the second inner loop, when the steps l have come. -/
def Sr2I (ops : List Wop) (w : World) (FH : Nat → Prop) (I : World → Prop) (H : Nat → Int) (fn : Value) (b4 b5 b8 rb mp mr rit : Nat) (bd : Int) (P : Nat → Option Int) (fp : Nat → Option SArc) (g : Nat) (fnd : Bool) (left : Nat → Bool) (cnt : Nat) (x : Nat) (p : Int) (ds : List Deferred) (Bs b16 : Nat) (l : List Stp) (W : World) : Prop :=
  ∃ nx, Sr2 w FH I fn b4 b5 b8 rb mp mr rit bd P fp nx g fnd left cnt W ∧ NxOk ops H bd P (DoneA left x l) nx ∧ Marks ds W w.heap.size ∧ W.heap[Bs]? = some (.cells #[.int .u32 (x : Int)] 82 (0, 0)) ∧ W.heap[b16]? = some (.cells #[.int .i64 p] 3 (0, 0))

end Go.Proofs.YtkjmgafnaddhkaaGreat

namespace Go.Proofs.YtkjmgafnaddhkaaGreat
open Go.RowKit Go.Shelf
attribute [local go_sem] Oper.semAt_some

set_option maxRecDepth 100000 in
theorem aprice_any (w : World) (c : Int) (hc : 0 ≤ c ∧ c ≤ 1000000) : Calls Tryz.prog 98 #[.int .i64 c] w fun e w' => e = .returned (.int .i64 (4096 * c + 1)) ∧ w = w' := by
  go_enter Tryz.func98, Tryz.ntmps98
  go_wp2_with fail
  go_ret
  exact ⟨by simp [Int.mul_comm], rfl⟩

end Go.Proofs.YtkjmgafnaddhkaaGreat
