/- space.Steps: what its first loop knows. -/
import Derived.Test.YtcfcmmajlkkabaaFirst
import Derived.Test.YtcfcmmajlkkabaaPriU
namespace Go.Proofs.Ytcfcmmajlkkabaa
open Go.RowKit Go.Shelf

theorem tree_short {ops : List Wop} {s : Nat} : ∀ (i j : Nat) (e : Ent), (tree ops s i)[j]? = some e → e.path.length ≤ j
  | 0, j, e, h => by
    simp only [tree] at h
    cases j with
    | zero => simp at h; subst h; simp
    | succ j => simp at h
  | i + 1, j, e, h => by
    cases hT : (tree ops s i)[i]? with
    | none =>
      have e1 : tree ops s (i + 1) = tree ops s i := by simp only [tree, hT]
      rw [e1] at h
      exact tree_short i j e h
    | some f =>
      rw [tree_step hT] at h
      by_cases hj : j < (tree ops s i).length
      · rw [List.getElem?_append_left hj] at h
        exact tree_short i j e h
      · rw [List.getElem?_append_right (by omega)] at h
        obtain ⟨x, _, rfl⟩ := mem_frs (List.mem_of_getElem? h)
        have h1 := tree_short i i f hT
        have h2 := (List.getElem?_eq_some_iff.1 hT).1
        simp only [Ent.of, List.length_append, List.length_singleton]
        omega

theorem ex_fnD {p : (Nat → Value) → Act} {a : Act} (h : a = p (fun k => a.tmps.getD k undef)) : ∃ u, a = p u := ⟨_, h⟩

/-- What space.Steps knows between two steps. -/
structure DepS (w0 : World) (b1 b2 b3 : Nat) (T : List Ent) (q : List Nat) (vl : Value) (W : World) : Prop where
  keep : Keeps (fun _ => False) w0 W
  x1 : Boxed W b1 85 vl
  x3 : Boxed W b3 106 (.map (some b2))
  line : Tail W w0.heap.size 90 vl (q.map encW)
  map : IMap W b2 .u32 (depL T)
  l1 : w0.heap.size ≤ b1
  l2 : w0.heap.size ≤ b2
  l3 : w0.heap.size ≤ b3

section
variable {w0 : World} {b1 b2 b3 : Nat} {T : List Ent} {q : List Nat} {vl : Value} {W : World}
theorem DepS.by {W' : World} {S : Nat → Prop} (h : DepS w0 b1 b2 b3 T q vl W) (hk : Keeps S W W') (s1 : ¬ S b1) (s2 : ¬ S b2) (s3 : ¬ S b3) (ss : ∀ k, vl.ownBlock = some k → ¬ S k) (hS : ∀ k, S k → w0.heap.size ≤ k) : DepS w0 b1 b2 b3 T q vl W' :=
  ⟨h.keep.trans' hk (fun i hi => .inr (hS i hi)), hk.heap h.x1 s1, hk.heap h.x3 s3, h.line.keeps hk ss, h.map.keeps hk s2, h.l1, h.l2, h.l3⟩
theorem DepS.keeps0 {W' : World} (h : DepS w0 b1 b2 b3 T q vl W) (hk : Keeps (fun _ => False) W W') : DepS w0 b1 b2 b3 T q vl W' :=
  h.by hk (fun h => h) (fun h => h) (fun h => h) (fun _ _ h => h) (fun _ h => h.elim)
theorem DepS.row1 (h : DepS w0 b1 b2 b3 T q vl W) : vl.ownBlock ≠ some b1 := h.line.not_box h.x1 (by decide)
theorem DepS.row3 (h : DepS w0 b1 b2 b3 T q vl W) : vl.ownBlock ≠ some b3 := h.line.not_box h.x3 (by decide)
theorem DepS.row2 (h : DepS w0 b1 b2 b3 T q vl W) : vl.ownBlock ≠ some b2 := Tail.not_map h.map h.line
theorem DepS.box13 (h : DepS w0 b1 b2 b3 T q vl W) : b1 ≠ b3 := by
  rintro rfl
  have := (show W.heap[b1]? = _ from h.x1).symm.trans h.x3
  simp at this
theorem DepS.steady {W' : World} {row : Option Nat} {B : Nat} (h : DepS w0 b1 b2 b3 T q vl W) (hg : W.grownBy W' row) (hr : ∀ r, row = some r → B ≤ r ∧ ∃ o : Obj, W.heap[r]? = some o ∧ o.isCells = false) (hB : w0.heap.size ≤ B) (hb2 : b2 < B) : DepS w0 b1 b2 b3 T q vl W' :=
  ⟨steady_keeps0 hg (fun r e => (hr r e).1) hB h.keep, steady_heap hg (fun r e => (hr r e).2) h.x1, steady_heap hg (fun r e => (hr r e).2) h.x3, h.line.steady hg (fun r e => (hr r e).2), steady_map hg (fun r e => (hr r e).1) hb2 h.map, h.l1, h.l2, h.l3⟩

/-- The first of the line is taken. -/
theorem DepS.pop {g off n cap x : Nat} (h : DepS w0 b1 b2 b3 T (x :: q) (.slice (some ⟨g, off, none⟩) (n + 1) cap) W) (hn : q.length = n) :
    DepS w0 b1 b2 b3 T q (.slice (some (cutAt g off cap)) n (cap - 1)) (W.setCell ⟨b1, 0, none⟩ (.slice (some (cutAt g off cap)) n (cap - 1))) := by
  have hk : Keeps (fun b => b = b1) W (W.setCell ⟨b1, 0, none⟩ (.slice (some (cutAt g off cap)) n (cap - 1))) := (Keeps.refl (fun b => b = b1) W).setCell (p := ⟨b1, 0, none⟩) (.inl rfl) _
  have hl := h.line
  rw [List.map_cons] at hl
  refine ⟨h.keep.trans' hk (fun i hi => .inr (by subst hi; exact h.l1)), h.x1.set _, hk.heap h.x3 (fun e => h.box13 e.symm), ?_, h.map.keeps hk (box_not_map h.map h.x1), h.l1, h.l2, h.l3⟩
  refine (hl.cut (by simpa using hn)).keeps hk (fun k hk' e => ?_)
  subst e
  simp [Value.ownBlock, cutAt_block] at hk'
  exact h.row1 (by simp [Value.ownBlock, hk'])

/-- One more is put in the line. -/
theorem DepS.push {W3 : World} {o : Obj} {gg off m cap x : Nat} (h : DepS w0 b1 b2 b3 T q vl W) (hown : Tail W3 w0.heap.size 90 (.slice (some ⟨gg, off, none⟩) m cap) (q.map encW ++ [encW x]))
    (hg : (W.alloc o).grownBy W3 vl.ownBlock) (hat : vl.ownBlock = some gg ∨ gg = W.heap.size + 1) : DepS w0 b1 b2 b3 T (q ++ [x]) (.slice (some ⟨gg, off, none⟩) m cap) (W3.setCell ⟨b1, 0, none⟩ (.slice (some ⟨gg, off, none⟩) m cap)) := by
  have h' := h.keeps0 ((Keeps.refl (fun _ => False) W).alloc o)
  have hk1 : Keeps (fun b => vl.ownBlock = some b) (W.alloc o) W3 := (Keeps.refl _ _).grown hg (fun k hk => .inl hk)
  have hx1 : Boxed W3 b1 85 vl := hk1.heap h'.x1 h.row1
  have hk2 : Keeps (fun b => b = b1) W3 (W3.setCell ⟨b1, 0, none⟩ (.slice (some ⟨gg, off, none⟩) m cap)) := (Keeps.refl (fun b => b = b1) W3).setCell (p := ⟨b1, 0, none⟩) (.inl rfl) _
  have hgb : gg ≠ b1 := by
    rcases hat with e | e
    · intro e'; exact h.row1 (by rw [e, e'])
    · have := h.x1.lt; omega
  refine ⟨(h'.keep.trans' hk1 (fun i e => .inr (h.line.lt i e).1)).trans' hk2 (fun i e => .inr (by subst e; exact h.l1)), hx1.set _, hk2.heap (hk1.heap h'.x3 h.row3) (fun e => h.box13 e.symm), ?_, (h'.map.keeps hk1 h.row2).keeps hk2 (box_not_map h.map h.x1), h.l1, h.l2, h.l3⟩
  rw [List.map_append]
  exact hown.keeps hk2 (fun k hk' e => by simp [Value.ownBlock] at hk'; omega)

/-- One more is seen. -/
theorem DepS.see {W' : World} {e : Ent} (h : DepS w0 b1 b2 b3 T q vl W) (hI : IMap W' b2 .u32 (depL T ++ [((e.to : Int), .int .i64 (e.path.length : Int))])) (hk : Keeps (fun k => k = b2) W W') : DepS w0 b1 b2 b3 (T ++ [e]) q vl W' :=
  ⟨h.keep.trans' hk (fun i e => .inr (by subst e; exact h.l2)), hk.heap h.x1 (fun e => box_not_map h.map h.x1 e.symm), hk.heap h.x3 (fun e => box_not_map h.map h.x3 e.symm), h.line.keeps hk (fun k hk' e => by subst e; exact h.row2 hk'),
    by simpa [depL] using hI, h.l1, h.l2, h.l3⟩
end

structure DepLoop (ops : List Wop) (st : Nat) (w0 : World) (b1 b2 b3 i : Nat) (q : List Nat) (vl : Value) (ds : List Deferred) (W : World) : Prop where
  s : DepS w0 b1 b2 b3 (tree ops st i) q vl W
  q : q = (keysT (tree ops st i)).drop i
  marks : Marks ds W w0.heap.size

/-- Within the loop over the steps of e, when the steps l have come. -/
def DepI (w0 : World) (b1 b2 b3 : Nat) (T : List Ent) (q : List Nat) (e : Ent) (ds : List Deferred) (Bs Bx : Nat) (l : List Stp) (W : World) : Prop :=
  ∃ vl, DepS w0 b1 b2 b3 (T ++ frs e (keysT T) l) (q ++ keysT (frs e (keysT T) l)) vl W ∧ Marks ds W w0.heap.size ∧ W.heap[Bs]? = some (.cells #[.int .u32 (e.to : Int)] 90 (0, 0)) ∧ W.heap[Bx]? = some (.cells #[.int .u32 (e.to : Int)] 90 (0, 0)) ∧ (∀ k, vl.ownBlock = some k → k ≠ Bs) ∧ (∀ k, vl.ownBlock = some k → k ≠ Bx)

theorem DepS.count {w0 : World} {b1 b2 b3 : Nat} {T : List Ent} {q : List Nat} {vl : Value} {W : World} (h : DepS w0 b1 b2 b3 T q vl W) : mapLen W b2 = T.length ∧ boxLen W b1 = q.length := by
  obtain ⟨es, c, h1, h2⟩ := h.map.length
  obtain ⟨g, off, cap, hv, _⟩ := h.line.form
  constructor
  · unfold mapLen; rw [h1]; simp only; rw [h2]; simp [depL]
  · unfold boxLen; rw [h.x1.cell]; simp only; rw [hv]; simp [sliceLen]

end Go.Proofs.Ytcfcmmajlkkabaa
