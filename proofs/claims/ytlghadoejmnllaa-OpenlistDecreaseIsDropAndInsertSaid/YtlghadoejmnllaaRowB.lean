/- The rows' frame: an argument of type []api.QueueOp, read. -/
import Derived.Test.YtlghadoejmnllaaRowA
import Derived.Deep.SlicePairs
namespace Go.Proofs.Ytlghadoejmnllaa
open Go.ChangeShapes Go.WideShapes Go.ChangeAt Go.RowKit Go.Deep

theorem opCells_inv (ops : List QOp) : ∀ (j : Nat) (x : Value), (opCells ops)[j]? = some x → ∃ i o, ops[i]? = some o ∧ ((j = i * 3 ∧ x = .int .i64 o.k) ∨ (j = i * 3 + 1 ∧ x = .int .i64 o.i) ∨ (j = i * 3 + 2 ∧ x = .int .i64 o.y)) := by
  induction ops with
  | nil => intro j x h; simp [opCells] at h
  | cons o r ih =>
    intro j x h
    have e : opCells (o :: r) = .int .i64 o.k :: .int .i64 o.i :: .int .i64 o.y :: opCells r := rfl
    rw [e] at h
    match j, h with
    | 0, h => simp at h; exact ⟨0, o, rfl, .inl ⟨rfl, h.symm⟩⟩
    | 1, h => simp at h; exact ⟨0, o, rfl, .inr (.inl ⟨rfl, h.symm⟩)⟩
    | 2, h => simp at h; exact ⟨0, o, rfl, .inr (.inr ⟨rfl, h.symm⟩)⟩
    | j + 3, h =>
      simp only [List.getElem?_cons_succ] at h
      obtain ⟨i, o', h1, h2⟩ := ih j x h
      refine ⟨i + 1, o', by simpa using h1, ?_⟩
      rcases h2 with ⟨h2, h3⟩ | ⟨h2, h3⟩ | ⟨h2, h3⟩
      · exact .inl ⟨by omega, h3⟩
      · exact .inr (.inl ⟨by omega, h3⟩)
      · exact .inr (.inr ⟨by omega, h3⟩)

theorem queueOp_struct : ∃ f0 f1 f2 : Field, Try.prog.underlying 38 = some (.struct #[f0, f1, f2]) ∧ (f0.type = 3 ∧ f1.type = 3 ∧ f2.type = 3) ∧ f0.offset = 0 ∧ f1.offset = 1 ∧ f2.offset = 2 :=
  ⟨_, _, _, Try.underlying38, ⟨rfl, rfl, rfl⟩, rfl, rfl, rfl⟩

theorem cells_op : Try.prog.cellsOf 38 = 3 := by kernel_rfl

theorem opened_ops {H : Type} {enc : TypeId × Value → H} {W : World} {v : Value} {d0 : DataW H} {p : List MemPlace}
    (h0 : DataW.Trod enc Try.prog W 0 (fun _ => true) true 22 v d0 p) (hv : ∃ a n c, v = .slice a n c) : ∃ ops, Sl W v ops.length (opCells ops) := by
  obtain ⟨a0, len, cap, rfl⟩ := hv
  obtain ⟨fuel, hf⟩ := h0
  rcases open_slice Try.underlying22 hf with ⟨hcs, hx⟩ | ⟨a, len', cap', m, n, D, Pl, hcs, hb, hl, hm, hmm, hx, each⟩
  · simp [Value.cells] at hcs
    obtain ⟨rfl, rfl, rfl⟩ := hcs
    exact ⟨[], none, 0, rfl, by simp, fun h => by simp at h⟩
  · simp [Value.cells] at hcs
    obtain ⟨rfl, rfl, rfl⟩ := hcs
    simp only [if_true] at hmm
    obtain ⟨f0, f1, f2, hs, ⟨t0, t1, t2⟩, s0, s1, s2⟩ := queueOp_struct
    have all : ∀ i, i < len → ∃ o : QOp, W.cell? (a.add (i * 3)) = some (.int .i64 o.k) ∧ W.cell? (a.add (i * 3 + 1)) = some (.int .i64 o.i) ∧ W.cell? (a.add (i * 3 + 2)) = some (.int .i64 o.y) := by
      intro i hi
      obtain ⟨cs', h1, h2⟩ := each i (by omega)
      rw [cells_op] at h1
      obtain ⟨_, hlen, hcell⟩ := World.cells?_some h1
      obtain ⟨xs, k, hk, hxy, _, hxl, hff⟩ := DataW.trod_struct hs h2
      match xs, hxl, cs', hlen with
      | [y0, y1, y2], _, [v0, v1, v2], _ =>
        have g0 := hff 0 f0 rfl
        have g1 := hff 1 f1 rfl
        have g2 := hff 2 f2 rfl
        simp [t0, t1, t2, s0, s1, s2, cells_int] at g0 g1 g2
        obtain ⟨x0, e0, _⟩ := DataW.trod_int Try.underlying3 g0
        obtain ⟨x1, e1, _⟩ := DataW.trod_int Try.underlying3 g1
        obtain ⟨x2, e2, _⟩ := DataW.trod_int Try.underlying3 g2
        simp at e0 e1 e2
        subst e0 e1 e2
        have c0 := hcell 0 (by omega)
        have c1 := hcell 1 (by omega)
        have c2 := hcell 2 (by omega)
        rw [add_add] at c0 c1 c2
        exact ⟨⟨x0, x1, x2⟩, by simpa using c0, by simpa using c1, by simpa using c2⟩
    have hops : ∀ n, n ≤ len → ∃ ops : List QOp, ops.length = n ∧ ∀ i o, ops[i]? = some o → W.cell? (a.add (i * 3)) = some (.int .i64 o.k) ∧ W.cell? (a.add (i * 3 + 1)) = some (.int .i64 o.i) ∧ W.cell? (a.add (i * 3 + 2)) = some (.int .i64 o.y) := by
      intro n
      induction n with
      | zero => intro _; exact ⟨[], rfl, by simp⟩
      | succ n ih =>
        intro hn
        obtain ⟨ops, h1, h2⟩ := ih (by omega)
        obtain ⟨o, ho⟩ := all n (by omega)
        refine ⟨ops ++ [o], by simp [h1], fun i o' hi => ?_⟩
        by_cases hin : i < ops.length
        · rw [List.getElem?_append_left hin] at hi
          exact h2 i o' hi
        · rw [List.getElem?_append_right (by omega)] at hi
          have hz : i - ops.length = 0 := by
            have := (List.getElem?_eq_some_iff.1 hi).1; simp at this; omega
          rw [hz] at hi
          simp at hi
          subst hi
          have : i = n := by omega
          subst this
          exact ho
    obtain ⟨ops, hlen, hcells⟩ := hops len (Nat.le_refl _)
    refine ⟨ops, some a, cap, by rw [hlen], by rw [hlen]; omega, fun h => ?_⟩
    obtain ⟨o, ho⟩ := all 0 (by omega)
    obtain ⟨b, off, spot⟩ := a
    have hspot : spot = none := by simpa [Addr.add] using World.cell?_spot ho.1
    subst hspot
    refine ⟨b, off, rfl, fun j x hj => ?_⟩
    obtain ⟨i, o', h1, h2⟩ := opCells_inv ops j x hj
    obtain ⟨g0, g1, g2⟩ := hcells i o' h1
    rw [add_plain] at g0 g1 g2
    rcases h2 with ⟨rfl, rfl⟩ | ⟨rfl, rfl⟩ | ⟨rfl, rfl⟩
    · exact g0
    · exact g1
    · exact g2

end Go.Proofs.Ytlghadoejmnllaa
