/- novelty.search: what the round knows. -/
import Derived.Test.YtcfcmmajlkkabaaSchA
import Derived.Test.YtcfcmmajlkkabaaKitA
namespace Go.Proofs.Ytcfcmmajlkkabaa
open Go.RowKit Go.Shelf

theorem ex_fn {p : (Nat → Value) → Act} {a : Act} (h : a = p (fun k => a.tmps.getD k undef)) : ∃ u, a = p u := ⟨_, h⟩

theorem Tail.at {w : World} {base : Nat} {e : TypeId} {v : Value} {xs : List Value} {g off n cap : Nat} (h : Tail w base e v xs) (hv : v = .slice (some ⟨g, off, none⟩) n cap) {i : Nat} {x : Value} (hx : xs[i]? = some x) : w.cell? ⟨g, off + i, none⟩ = some x := by
  obtain ⟨g', off', cap', cur, hv', hb, hg, h1, h2, h3, h4⟩ := h
  rw [hv'] at hv
  simp only [Value.slice.injEq, Option.some.injEq, Addr.mk.injEq] at hv
  obtain ⟨⟨rfl, rfl, _⟩, rfl, rfl⟩ := hv
  have hi := (List.getElem?_eq_some_iff.1 hx).1
  rw [cell_of_blk hg]
  have := congrArg (fun l : List Value => l[i]?) h4
  simp only [List.getElem?_take, List.getElem?_drop, hx, if_pos hi] at this
  simpa using this

theorem Tail.sl {w : World} {base : Nat} {e : TypeId} {v : Value} {xs : List Value} (h : Tail w base e v xs) : Sl w v xs.length xs := by
  obtain ⟨g, off, cap, hv, h1, h2, _, _⟩ := h.form
  exact ⟨_, cap, hv, by omega, fun _ => ⟨g, off, rfl, fun j x hx => h.at hv hx⟩⟩

theorem novL_snoc {acc : Nat → Bool} {cov : Nat → List Nat → Bool} {e : Ent} {T : List Ent} {l : List Stp} {x : Stp} (h : (novL acc cov e T l).2 = none) :
    novL acc cov e T (l ++ [x]) = if x.to ∈ keysT (novL acc cov e T l).1 then ((novL acc cov e T l).1, none)
      else if acc x.to = true then ((novL acc cov e T l).1 ++ [e.of x], some (e.of x))
      else if cov x.to (keysT (novL acc cov e T l).1) = true then ((novL acc cov e T l).1, none) else ((novL acc cov e T l).1 ++ [e.of x], none) := by
  rw [novL_append, h]
  simp only [novL]

theorem novL_some {acc : Nat → Bool} {cov : Nat → List Nat → Bool} {e f : Ent} {T : List Ent} {l l' : List Stp} (h : (novL acc cov e T l).2 = some f) (hp : l <+: l') : (novL acc cov e T l').2 = some f := by
  obtain ⟨r, rfl⟩ := hp
  rw [novL_append, h]

structure SchIn (w0 : World) (b1 b2 b3 : Nat) (L : List (Nat × TypeId × Value)) (bi i : Nat) (T : List Ent) (ds : List Deferred) (Bs to : Nat) (vl : Value) (W : World) : Prop where
  s : FirS w0 b1 b2 b3 T (keysT T) vl W
  fx : Fixed w0 L W
  bx : Boxed W bi 3 (.int .i64 (i : Int))
  lb : w0.heap.size ≤ bi
  marks : Marks ds W w0.heap.size
  bs : W.heap[Bs]? = some (.cells #[.int .u32 (to : Int)] 90 (0, 0))
  ns : vl.ownBlock ≠ some Bs
  nl : ∀ p ∈ L, p.1 ≠ b1 ∧ vl.ownBlock ≠ some p.1

section
variable {w0 : World} {b1 b2 b3 : Nat} {L : List (Nat × TypeId × Value)} {bi i : Nat} {T : List Ent} {ds : List Deferred} {Bs to : Nat} {vl : Value} {W : World}
theorem SchIn.keeps0 {W' : World} (h : SchIn w0 b1 b2 b3 L bi i T ds Bs to vl W) (hk : Keeps (fun _ => False) W W') : SchIn w0 b1 b2 b3 L bi i T ds Bs to vl W' :=
  ⟨h.s.keeps0 hk, h.fx.keeps0 hk, hk.heap h.bx (fun h => h), h.lb, h.marks.keeps (KeepsD.of0 hk), hk.heap h.bs (fun h => h), h.ns, h.nl⟩
theorem SchIn.steady {W0 W' : World} {row : Option Nat} (h : SchIn w0 b1 b2 b3 L bi i T ds Bs to vl W) (hm : Marks ds W0 w0.heap.size) (hg : W.grownBy W' row) (hr : ∀ r, row = some r → W0.heap.size ≤ r ∧ ∃ o : Obj, W.heap[r]? = some o ∧ o.isCells = false) (hB : w0.heap.size ≤ W0.heap.size) (hb2 : b2 < W0.heap.size) : SchIn w0 b1 b2 b3 L bi i T ds Bs to vl W' :=
  ⟨h.s.steady hg hr hB hb2, h.fx.steady hg (fun r e => (hr r e).2), steady_heap hg (fun r e => (hr r e).2) h.bx, h.lb, Marks.steady hm h.marks hg hr, steady_heap hg (fun r e => (hr r e).2) h.bs, h.ns, h.nl⟩

theorem SchIn.nm {p : Nat × TypeId × Value} (h : SchIn w0 b1 b2 b3 L bi i T ds Bs to vl W) (hp : p ∈ L) : p.1 ≠ b2 := fun e => box_not_map h.s.map (h.fx p hp).2 e.symm
theorem SchIn.bi1 (h : SchIn w0 b1 b2 b3 L bi i T ds Bs to vl W) : bi ≠ b1 := by
  rintro rfl
  have := (show W.heap[bi]? = _ from h.s.x1).symm.trans h.bx
  simp at this
theorem SchIn.bi2 (h : SchIn w0 b1 b2 b3 L bi i T ds Bs to vl W) : bi ≠ b2 := fun e => box_not_map h.s.map h.bx e.symm
theorem SchIn.bir (h : SchIn w0 b1 b2 b3 L bi i T ds Bs to vl W) : vl.ownBlock ≠ some bi := h.s.line.not_box h.bx (by decide)
theorem SchIn.bs1 (h : SchIn w0 b1 b2 b3 L bi i T ds Bs to vl W) : Bs ≠ b1 := by
  rintro rfl
  have := (show W.heap[Bs]? = _ from h.s.x1).symm.trans h.bs
  simp at this
theorem SchIn.bs2 (h : SchIn w0 b1 b2 b3 L bi i T ds Bs to vl W) : Bs ≠ b2 := by
  rintro rfl
  obtain ⟨es, c, hb, _⟩ := h.s.map
  rw [h.bs] at hb; cases hb

/-- One more is seen. -/
theorem SchIn.see {W' : World} {e : Ent} (h : SchIn w0 b1 b2 b3 L bi i T ds Bs to vl W) (hI : IMap W' b2 .u32 (parL T ++ [((e.to : Int), .agg #[.int .u32 (e.frm : Int), .int .i64 (e.op : Int)])])) (hk : Keeps (fun k => k = b2) W W') :
    FirS w0 b1 b2 b3 (T ++ [e]) (keysT T) vl W' ∧ Fixed w0 L W' ∧ Boxed W' bi 3 (.int .i64 (i : Int)) ∧ Marks ds W' w0.heap.size ∧ W'.heap[Bs]? = some (.cells #[.int .u32 (to : Int)] 90 (0, 0)) :=
  ⟨h.s.see hI hk, h.fx.by hk (fun p hp => h.nm hp), hk.heap h.bx h.bi2, h.marks.keeps (KeepsD.of hk (fun b hb => by subst hb; exact map_not_deferred h.s.map)), hk.heap h.bs h.bs2⟩

/-- One more is seen and kept. -/
theorem SchIn.add {W1 W3 : World} {o : Obj} {e : Ent} {gg off m cap : Nat} (h : SchIn w0 b1 b2 b3 L bi i T ds Bs to vl W) (hI : IMap W1 b2 .u32 (parL T ++ [((e.to : Int), .agg #[.int .u32 (e.frm : Int), .int .i64 (e.op : Int)])])) (hk : Keeps (fun k => k = b2) W W1)
    (hown : Tail W3 w0.heap.size 90 (.slice (some ⟨gg, off, none⟩) m cap) ((keysT T).map encW ++ [encW e.to])) (hg : (W1.alloc o).grownBy W3 vl.ownBlock) (hat : vl.ownBlock = some gg ∨ gg = W1.heap.size + 1) :
    SchIn w0 b1 b2 b3 L bi i (T ++ [e]) ds Bs to (.slice (some ⟨gg, off, none⟩) m cap) (W3.setCell ⟨b1, 0, none⟩ (.slice (some ⟨gg, off, none⟩) m cap)) ∧ Keeps (fun b => b = b2 ∨ b = b1 ∨ vl.ownBlock = some b) W (W3.setCell ⟨b1, 0, none⟩ (.slice (some ⟨gg, off, none⟩) m cap)) := by
  obtain ⟨s1, f1, x1, m1, z1⟩ := h.see hI hk
  have hp := s1.push (x := e.to) hown hg hat
  have ka := (Keeps.refl (fun _ => False) W1).alloc o
  have kg : Keeps (fun b => vl.ownBlock = some b) (W1.alloc o) W3 := (Keeps.refl _ _).grown hg (fun k hk => .inl hk)
  have ks : Keeps (fun b => b = b1) W3 (W3.setCell ⟨b1, 0, none⟩ (.slice (some ⟨gg, off, none⟩) m cap)) := (Keeps.refl (fun b => b = b1) W3).setCell (p := ⟨b1, 0, none⟩) (.inl rfl) _
  have k1 : Keeps (fun b => b = b1 ∨ vl.ownBlock = some b) W1 (W3.setCell ⟨b1, 0, none⟩ (.slice (some ⟨gg, off, none⟩) m cap)) :=
    ((ka.mono (fun _ _ h => h.elim)).trans (kg.mono (fun _ _ h => .inr h))).trans (ks.mono (fun _ _ h => .inl h))
  have hf : ∀ b, b < W1.heap.size → vl.ownBlock ≠ some b → gg ≠ b := by
    intro b hb hne e
    rcases hat with h1 | h1
    · exact hne (by rw [h1, e])
    · omega
  refine ⟨⟨?_, f1.by k1 (fun p hp => ?_), k1.heap x1 ?_, h.lb, m1.keeps (KeepsD.of k1 (fun b hb => ?_)), k1.heap z1 ?_, fun e' => ?_, fun p hp => ⟨(h.nl p hp).1, fun e' => ?_⟩⟩, (hk.mono (fun _ _ h => .inl h)).trans (k1.mono (fun _ _ h => .inr h))⟩
  · have : keysT (T ++ [e]) = keysT T ++ [e.to] := by simp [keysT]
    rw [this]; exact hp
  · rintro (h1 | h1)
    · exact (h.nl p hp).1 h1
    · exact (h.nl p hp).2 h1
  · rintro (h1 | h1)
    · exact h.bi1 h1
    · exact h.bir h1
  · rcases hb with rfl | hb
    · exact cells_not_deferred s1.x1
    · exact s1.line.not_deferred b hb
  · rintro (h1 | h1)
    · exact h.bs1 h1
    · exact h.ns h1
  · simp [Value.ownBlock] at e'
    exact hf Bs (lt_of_heap z1) h.ns e'
  · simp [Value.ownBlock] at e'
    exact hf p.1 (lt_of_heap (f1 p hp).2) (h.nl p hp).2 e'
end

theorem keepsFrom_of {S : Nat → Prop} {W W' : World} {B : Nat} (hk : Keeps S W W') (hS : ∀ k, S k → k < B ∨ ∃ cs t fr, W.heap[k]? = some (.cells cs t fr)) : KeepsFrom B W W' :=
  ⟨hk.size, fun k o hB hk0 hc => hk.heap hk0 (fun hs => by
    rcases hS k hs with h | ⟨cs, t, fr, h⟩
    · omega
    · rw [h] at hk0; cases hk0; cases hc)⟩

theorem SchIn.close {w0 : World} {b1 b2 b3 : Nat} {L : List (Nat × TypeId × Value)} {bi i : Nat} {T : List Ent} {ds : List Deferred} {Bs to : Nat} {vl : Value} {W W' : World} {S : Nat → Prop} {B : Nat} (h : SchIn w0 b1 b2 b3 L bi i T ds Bs to vl W) (hk : Keeps S W W')
    (hS : ∀ b, S b → b = b2 ∨ b = b1 ∨ vl.ownBlock = some b) (hb2 : b2 < B) : KeepsFrom B W W' ∧ KpS w0.heap.size Bs W W' := by
  refine ⟨keepsFrom_of hk (fun k hs => ?_), KpS.ofKeeps hk h.s.keep.size (fun k hlt hs => ?_) (lt_of_heap h.bs) (fun hs => ?_)⟩
  · rcases hS k hs with rfl | rfl | h1
    · exact .inl hb2
    · exact .inr ⟨_, _, _, h.s.x1⟩
    · obtain ⟨cur, hc⟩ := h.s.line.block k h1
      exact .inr ⟨_, _, _, hc⟩
  · rcases hS k hs with rfl | rfl | h1
    · have := h.s.l2; omega
    · have := h.s.l1; omega
    · have := (h.s.line.lt k h1).1; omega
  · rcases hS _ hs with h1 | h1 | h1
    · exact h.bs2 h1
    · exact h.bs1 h1
    · exact h.ns h1

def SchI (acc : Nat → Bool) (cov : Nat → List Nat → Bool) (w0 : World) (b1 b2 b3 : Nat) (L : List (Nat × TypeId × Value)) (bi i : Nat) (T : List Ent) (e : Ent) (ds : List Deferred) (Bs : Nat) (l : List Stp) (W : World) : Prop :=
  ∃ vl, SchIn w0 b1 b2 b3 L bi i (novL acc cov e T l).1 ds Bs e.to vl W ∧ (novL acc cov e T l).2 = none

structure SchX (acc : Nat → Bool) (cov : Nat → List Nat → Bool) (w0 : World) (b4 b5 b6 i : Nat) (T : List Ent) (e : Ent) (ds : List Deferred) (l : List Stp) (f : Ent) (v : Value) (W : World) : Prop where
  found : (novL acc cov e T l).2 = some f
  keep : Keeps (fun _ => False) w0 W
  marks : Marks ds W w0.heap.size
  x4 : Boxed W b4 22 v
  x5 : Boxed W b5 3 (.int .i64 ((i : Int) + 1))
  x6 : Boxed W b6 4 (.bool true)
  row : W.ownsRow w0.heap.size 3 1 v f.path.length ((intsP f.path).map (Value.int .i64))

def SchIx (acc : Nat → Bool) (cov : Nat → List Nat → Bool) (w0 : World) (b4 b5 b6 i : Nat) (T : List Ent) (e : Ent) (ds : List Deferred) (c : Code) (l : List Stp) (W : World) : Prop :=
  c = .ret ∧ ∃ f v, SchX acc cov w0 b4 b5 b6 i T e ds l f v W

theorem SchIx.steady {acc : Nat → Bool} {cov : Nat → List Nat → Bool} {w0 : World} {b4 b5 b6 i : Nat} {T : List Ent} {e : Ent} {ds : List Deferred} {c : Code} {l : List Stp} {W0 W W' : World} {row : Option Nat} (h : SchIx acc cov w0 b4 b5 b6 i T e ds c l W) (hm : Marks ds W0 w0.heap.size)
    (hg : W.grownBy W' row) (hr : ∀ r, row = some r → W0.heap.size ≤ r ∧ ∃ o : Obj, W.heap[r]? = some o ∧ o.isCells = false) (hB : w0.heap.size ≤ W0.heap.size) : SchIx acc cov w0 b4 b5 b6 i T e ds c l W' := by
  obtain ⟨hc, f, v, h⟩ := h
  have hr2 : ∀ r, row = some r → ∃ o : Obj, W.heap[r]? = some o ∧ o.isCells = false := fun r e => (hr r e).2
  exact ⟨hc, f, v, h.found, steady_keeps0 hg (fun r e => (hr r e).1) hB h.keep, Marks.steady hm h.marks hg hr, steady_heap hg hr2 h.x4, steady_heap hg hr2 h.x5, steady_heap hg hr2 h.x6, steady_row hg hr2 h.row⟩

end Go.Proofs.Ytcfcmmajlkkabaa
