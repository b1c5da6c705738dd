/- astar.Best: what the search has in memory between its steps. astar.Heuristic: a function value that remembers what it has said; astar.Value at the kind that says nothing. astar.Checked, for a kind that is permitted; astar.Heuristic; astar.Admissible. astar.Best: best-first search with a heuristic. No condition beyond what each theorem says. -/
import Derived.Test.YtjcgkmodmjckjaaGreatQ10
import Derived.Test.YtjcgkmodmjckjaaGreatQ5
import Derived.Test.YtjcgkmodmjckjaaGreatQ7
import Derived.Sort.LoopGhostIn

namespace Go.Proofs.YtjcgkmodmjckjaaGreat
open Go.RowKit Go.Shelf

theorem method_Goal (a : Addr) (w : World) : (method 362 50 (.pointer (some a)) "Goal").run Tryz.prog w = .ok (187, .pointer (some a)) w := by kernel_rfl

theorem FMap.len {α : Type} {w : World} {b : Nat} {enc : α → Value} {f : Nat → Option α} (h : FMap w b enc f) {L : List Nat} (hL : ∀ x v, f x = some v → x ∈ L) {P : Program} {t k e : TypeId} (ht : P.underlying t = some (.map k e)) (ty : TypeId) :
    ∃ n : Nat, n ≤ L.length ∧ (Builtin.len_ #[t] ty #[.map (some b)]).run P w = .ok (.int .i64 (n : Int)) w := by
  obtain ⟨l, h1, h2, h3⟩ := h
  refine ⟨l.length, ?_, by have := h1.run_len (P := P) ht ty; rwa [List.length_map] at this⟩
  have := nodup_sub_length (b := L) h2 (fun x hx => by
    obtain ⟨p, hp, rfl⟩ := List.mem_map.1 hx
    exact hL p.1 p.2 ((h3 _ _).2 hp))
  rwa [List.length_map] at this

theorem FMap.lenN {w : World} {b : Nat} {f : Nat → Option Unit} (h : FMap w b unitV f) {L : List Nat} (hn : L.Nodup) (hL : ∀ x v, f x = some v → x ∈ L) {P : Program} {t k e : TypeId} (ht : P.underlying t = some (.map k e)) (ty : TypeId) :
    (Builtin.len_ #[t] ty #[.map (some b)]).run P w = .ok (.int .i64 (((L.filter fun x => (f x).isSome).length : Nat) : Int)) w := by
  obtain ⟨l, h1, h2, h3⟩ := h
  have hr := h1.run_len (P := P) ht ty
  rw [List.length_map] at hr
  have e1 := nodup_sub_length (b := L.filter fun x => (f x).isSome) h2 (fun x hx => by
    obtain ⟨p, hp, rfl⟩ := List.mem_map.1 hx
    have h4 := (h3 _ _).2 hp
    exact List.mem_filter.2 ⟨hL p.1 p.2 h4, by rw [h4]; rfl⟩)
  have e2 := nodup_sub_length (b := l.map Prod.fst) (hn.filter fun x => (f x).isSome) (fun x hx => by
    obtain ⟨_, h5⟩ := List.mem_filter.1 hx
    obtain ⟨u, hu⟩ := Option.isSome_iff_exists.1 h5
    exact List.mem_map.2 ⟨(x, u), (h3 _ _).1 hu, rfl⟩)
  rw [List.length_map] at e1 e2
  rw [show (L.filter fun x => (f x).isSome).length = l.length by omega]
  exact hr
theorem WordsAt.past {w00 W : World} {base b s g : Nat} {v : Value} {ops : List Wop} (h : WordsAt w00 base b s g v ops) (hk : Keeps (fun _ => False) w00 W) : WordsAt W base b s g v ops := h.keeps0 hk

/-- A block that is neither one of deferred calls nor a step's. -/
def Clean (W : World) (k : Nat) : Prop := W.heap[k]? ≠ some (.deferred (some [])) ∧ ∀ cs fr, W.heap[k]? ≠ some (.cells cs 153 fr)
theorem Clean.keeps {S : Nat → Prop} {W W' : World} {k : Nat} (h : Clean W k) (hk : Keeps S W W') (hl : k < W.heap.size) (hs : ¬ S k) : Clean W' k := by
  have e := hk.block k hl hs
  exact ⟨by rw [e]; exact h.1, fun cs fr => by rw [e]; exact h.2 cs fr⟩
theorem U.QRep.clean {w : World} {Q : Nat} {A : List (Int × Int)} {t : Int} {F : Nat → Prop} (h : U.QRep w Q A t F) : U.QRep w Q A t (fun b => F b ∧ b < w.heap.size ∧ Clean w b) := by
  obtain ⟨v, Mb, l, L, E, h⟩ := h
  refine ⟨v, Mb, l, L, E, { h with fQ := ⟨h.fQ, h.lt.1, cells_not_deferred h.q, fun cs fr e => ?_⟩, fM := ⟨h.fM, h.lt.2.1, map_not_deferred h.mp, fun cs fr e => ?_⟩, fH := fun b hb => ⟨h.fH b hb, h.lt.2.2 b hb, ?_⟩ }⟩
  · have hq := h.q
    unfold U.QBlk at hq
    rw [hq] at e; simp at e
  · obtain ⟨es, c, hb, _⟩ := h.mp
    rw [hb] at e; cases e
  · rcases hb with hb | ⟨e, he, rfl⟩
    · refine ⟨row_not_deferred h.rep.row b hb, fun cs fr e => ?_⟩
      rcases h.rep.row.2 with ⟨hv, _⟩ | ⟨g, cap, cur, hv, _, hg, _⟩
      · rw [hv] at hb; simp [Value.ownBlock] at hb
      · rw [hv] at hb; simp [Value.ownBlock] at hb
        subst hb; rw [hg] at e; simp at e
    · obtain ⟨j, hj⟩ := List.mem_iff_getElem?.1 he
      refine ⟨cells_not_deferred (h.rep.ent j e hj), fun cs fr e' => ?_⟩
      rw [h.rep.ent j e hj] at e'; simp at e'

/-- What Best holds: the heuristic's own memory, the three maps and the queue, and the boxes of the variables that the loop's body names. -/
structure BestM (w : World) (FH : Nat → Prop) (I : World → Prop) (fn : Value) (b3 b8 b9 b10 mp mr md q : Nat) (P : Nat → Option Int) (fp : Nat → Option SArc) (dn : Nat → Option Unit) (A : List (Int × Int)) (t : Int) (F : Nat → Prop) (W : World) : Prop where
  keep : Keeps FH w W
  hI : I W
  m : AstM W w.heap.size mp mr md q P fp dn A t F
  x3 : Boxed W b3 56 fn
  x8 : Boxed W b8 136 (.map (some mp))
  x9 : Boxed W b9 139 (.map (some mr))
  x10 : Boxed W b10 140 (.pointer (some ⟨q, 0, none⟩))
  l3 : w.heap.size ≤ b3
  l8 : w.heap.size ≤ b8
  l9 : w.heap.size ≤ b9
  l10 : w.heap.size ≤ b10
  fb : ∀ k, F k → k ≠ b3 ∧ k ≠ b8 ∧ k ≠ b9 ∧ k ≠ b10

section
variable {w W W' : World} {L : List Nat} {H : Nat → Int} {gh n0 : Nat} {pa cb : Array Value} {FH : Nat → Prop} {I : World → Prop} {fn : Value} {b3 b8 b9 b10 mp mr md q : Nat} {P P' : Nat → Option Int} {fp fp' : Nat → Option SArc} {dn dn' : Nat → Option Unit} {A A' : List (Int × Int)} {t t' : Int} {F F' : Nat → Prop}
theorem BestM.by {S : Nat → Prop} (hh : Heur gh pa cb L H n0 w.heap.size FH I) (h : BestM w FH I fn b3 b8 b9 b10 mp mr md q P fp dn A t F W) (hk : Keeps S W W') (hS : ∀ k, S k → w.heap.size ≤ k) (c3 : ¬ S b3) (c8 : ¬ S b8) (c9 : ¬ S b9) (c10 : ¬ S b10) (e1 : ¬ S mp) (e2 : ¬ S mr) (e3 : ¬ S md) (e4 : ∀ k, F k → ¬ S k) :
    BestM w FH I fn b3 b8 b9 b10 mp mr md q P fp dn A t F W' :=
  ⟨h.keep.trans' hk (fun i hi => .inr (hS i hi)), hh.steady h.hI hk hS, h.m.keeps hk e1 e2 e3 e4, hk.heap h.x3 c3, hk.heap h.x8 c8, hk.heap h.x9 c9, hk.heap h.x10 c10, h.l3, h.l8, h.l9, h.l10, h.fb⟩
theorem BestM.keeps0 (hh : Heur gh pa cb L H n0 w.heap.size FH I) (h : BestM w FH I fn b3 b8 b9 b10 mp mr md q P fp dn A t F W) (hk : Keeps (fun _ => False) W W') : BestM w FH I fn b3 b8 b9 b10 mp mr md q P fp dn A t F W' :=
  h.by hh hk (fun _ h => h.elim) (fun h => h) (fun h => h) (fun h => h) (fun h => h) (fun h => h) (fun h => h) (fun h => h) (fun _ _ h => h)
/-- The heuristic has been asked. -/
theorem BestM.asked (hh : Heur gh pa cb L H n0 w.heap.size FH I) (h : BestM w FH I fn b3 b8 b9 b10 mp mr md q P fp dn A t F W) (hk : Keeps FH W W') (hI : I W') : BestM w FH I fn b3 b8 b9 b10 mp mr md q P fp dn A t F W' := by
  have no : ∀ k, w.heap.size ≤ k → ¬ FH k := fun k hk h => by have := (hh.lo k h).2; omega
  exact ⟨h.keep.trans hk, hI, h.m.low hk (fun k h => (hh.lo k h).2), hk.heap h.x3 (no _ h.l3), hk.heap h.x8 (no _ h.l8), hk.heap h.x9 (no _ h.l9), hk.heap h.x10 (no _ h.l10), h.l3, h.l8, h.l9, h.l10, h.fb⟩
theorem BestM.boxes (h : BestM w FH I fn b3 b8 b9 b10 mp mr md q P fp dn A t F W) {j : Nat} (hj : ∀ {g : Nat} {cs : Array Value} {T : TypeId} {fr : Nat × Nat}, W.heap[g]? = some (.cells cs T fr) → j ≠ g) : b3 ≠ j ∧ b8 ≠ j ∧ b9 ≠ j ∧ b10 ≠ j :=
  ⟨(hj h.x3).symm, (hj h.x8).symm, (hj h.x9).symm, (hj h.x10).symm⟩
theorem BestM.priced (hh : Heur gh pa cb L H n0 w.heap.size FH I) (h : BestM w FH I fn b3 b8 b9 b10 mp mr md q P fp dn A t F W) (hk : Keeps (fun k => k = mp) W W') (hp : FMap W' mp intV P') : BestM w FH I fn b3 b8 b9 b10 mp mr md q P' fp dn A t F W' := by
  have hb := h.boxes (fun hg => h.m.price.ne_cells hg)
  have lo : ∀ k, k = mp → w.heap.size ≤ k := fun k e => by rw [e]; exact h.m.lp
  exact ⟨h.keep.trans' hk (fun i hi => .inr (lo i hi)), hh.steady h.hI hk lo, h.m.priced hk hp, hk.heap h.x3 hb.1, hk.heap h.x8 hb.2.1, hk.heap h.x9 hb.2.2.1, hk.heap h.x10 hb.2.2.2, h.l3, h.l8, h.l9, h.l10, h.fb⟩
theorem BestM.pard (hh : Heur gh pa cb L H n0 w.heap.size FH I) (h : BestM w FH I fn b3 b8 b9 b10 mp mr md q P fp dn A t F W) (hk : Keeps (fun k => k = mr) W W') (hp : FMap W' mr backV fp') : BestM w FH I fn b3 b8 b9 b10 mp mr md q P fp' dn A t F W' := by
  have hb := h.boxes (fun hg => h.m.par_.ne_cells hg)
  have lo : ∀ k, k = mr → w.heap.size ≤ k := fun k e => by rw [e]; exact h.m.lr
  exact ⟨h.keep.trans' hk (fun i hi => .inr (lo i hi)), hh.steady h.hI hk lo, h.m.pard hk hp, hk.heap h.x3 hb.1, hk.heap h.x8 hb.2.1, hk.heap h.x9 hb.2.2.1, hk.heap h.x10 hb.2.2.2, h.l3, h.l8, h.l9, h.l10, h.fb⟩
theorem BestM.doned (hh : Heur gh pa cb L H n0 w.heap.size FH I) (h : BestM w FH I fn b3 b8 b9 b10 mp mr md q P fp dn A t F W) (hk : Keeps (fun k => k = md) W W') (hp : FMap W' md unitV dn') : BestM w FH I fn b3 b8 b9 b10 mp mr md q P fp dn' A t F W' := by
  have hb := h.boxes (fun hg => h.m.done.ne_cells hg)
  have lo : ∀ k, k = md → w.heap.size ≤ k := fun k e => by rw [e]; exact h.m.ld
  exact ⟨h.keep.trans' hk (fun i hi => .inr (lo i hi)), hh.steady h.hI hk lo, h.m.doned hk hp, hk.heap h.x3 hb.1, hk.heap h.x8 hb.2.1, hk.heap h.x9 hb.2.2.1, hk.heap h.x10 hb.2.2.2, h.l3, h.l8, h.l9, h.l10, h.fb⟩
theorem BestM.queued (hh : Heur gh pa cb L H n0 w.heap.size FH I) (h : BestM w FH I fn b3 b8 b9 b10 mp mr md q P fp dn A t F W) (hk : Keeps F W W') (hq : U.QRep W' q A' t' F') (hF : ∀ k, F' k → F k ∨ W.heap.size ≤ k) : BestM w FH I fn b3 b8 b9 b10 mp mr md q P fp dn A' t' (fun k => F' k ∧ k < W'.heap.size) W' := by
  have lo : ∀ k, F k → w.heap.size ≤ k := fun k e => (h.m.lF k e).1
  have z3 := h.x3.lt; have z8 := h.x8.lt; have z9 := h.x9.lt; have z10 := h.x10.lt
  refine ⟨h.keep.trans' hk (fun i hi => .inr (lo i hi)), hh.steady h.hI hk lo, h.m.queued hk hq hF h.keep.size, hk.heap h.x3 (fun e => (h.fb _ e).1 rfl), hk.heap h.x8 (fun e => (h.fb _ e).2.1 rfl), hk.heap h.x9 (fun e => (h.fb _ e).2.2.1 rfl), hk.heap h.x10 (fun e => (h.fb _ e).2.2.2 rfl), h.l3, h.l8, h.l9, h.l10, fun k hk' => ?_⟩
  rcases hF k hk'.1 with h1 | h1
  · exact h.fb k h1
  · omega
theorem BestM.live (h : BestM w FH I fn b3 b8 b9 b10 mp mr md q P fp dn A t F W) : BestM w FH I fn b3 b8 b9 b10 mp mr md q P fp dn A t (fun k => F k ∧ k < W.heap.size ∧ W.heap[k]? ≠ some (.deferred (some []))) W :=
  { h with m := h.m.live, fb := fun k hk => h.fb k hk.1 }
theorem BestM.clean (h : BestM w FH I fn b3 b8 b9 b10 mp mr md q P fp dn A t F W) : BestM w FH I fn b3 b8 b9 b10 mp mr md q P fp dn A t (fun k => F k ∧ k < W.heap.size ∧ Clean W k) W :=
  { h with m := { h.m with q := h.m.q.clean, lF := fun k hk => h.m.lF k hk.1 }, fb := fun k hk => h.fb k hk.1 }
theorem BestM.steady {row : Option Nat} {B : Nat} (hh : Heur gh pa cb L H n0 w.heap.size FH I) (h : BestM w FH I fn b3 b8 b9 b10 mp mr md q P fp dn A t F W) (hg : W.grownBy W' row) (hr : ∀ r, row = some r → B ≤ r ∧ ∃ o : Obj, W.heap[r]? = some o ∧ o.isCells = false) (hB : w.heap.size ≤ B) (m1 : mp < B) (m2 : mr < B) (m3 : md < B)
    (hF : ∀ k, F k → k < B ∨ ∃ cs T fr, W.heap[k]? = some (.cells cs T fr)) : BestM w FH I fn b3 b8 b9 b10 mp mr md q P fp dn A t F W' := by
  have cell : ∀ {k : Nat}, (∃ cs T fr, W.heap[k]? = some (.cells cs T fr)) → ¬ row = some k := fun hc e => by
    obtain ⟨cs, T, fr, hc⟩ := hc
    obtain ⟨_, o, ho, hn⟩ := hr _ e
    rw [hc] at ho; cases ho; cases hn
  have lt : ∀ {k : Nat}, k < B → ¬ row = some k := fun hk e => by have := (hr _ e).1; omega
  exact h.by hh (steady_keeps hg) (fun k e => by have := (hr k e).1; omega) (cell ⟨_, _, _, h.x3⟩) (cell ⟨_, _, _, h.x8⟩) (cell ⟨_, _, _, h.x9⟩) (cell ⟨_, _, _, h.x10⟩) (lt m1) (lt m2) (lt m3) (fun k hk => (hF k hk).elim lt cell)
/-- No block of it is one of deferred calls. -/
theorem BestM.nd (h : BestM w FH I fn b3 b8 b9 b10 mp mr md q P fp dn A t F W) : W.heap[mp]? ≠ some (.deferred (some [])) ∧ W.heap[mr]? ≠ some (.deferred (some [])) ∧ W.heap[md]? ≠ some (.deferred (some [])) :=
  ⟨h.m.price.not_deferred, h.m.par_.not_deferred, h.m.done.not_deferred⟩
end

/-- The same before the map of the expanded states is made. -/
structure PreM (w : World) (FH : Nat → Prop) (I : World → Prop) (fn : Value) (b3 b8 b9 b10 mp mr q : Nat) (P : Nat → Option Int) (fp : Nat → Option SArc) (A : List (Int × Int)) (t : Int) (F : Nat → Prop) (W : World) : Prop where
  keep : Keeps FH w W
  hI : I W
  price : FMap W mp intV P
  par_ : FMap W mr backV fp
  que : U.QRep W q A t F
  x3 : Boxed W b3 56 fn
  x8 : Boxed W b8 136 (.map (some mp))
  x9 : Boxed W b9 139 (.map (some mr))
  x10 : Boxed W b10 140 (.pointer (some ⟨q, 0, none⟩))
  lF : ∀ k, F k → w.heap.size ≤ k ∧ k < W.heap.size ∧ k ≠ mp ∧ k ≠ mr
  fb : ∀ k, F k → k ≠ b3 ∧ k ≠ b8 ∧ k ≠ b9 ∧ k ≠ b10
  l3 : w.heap.size ≤ b3
  l8 : w.heap.size ≤ b8
  l9 : w.heap.size ≤ b9
  l10 : w.heap.size ≤ b10
  lp : w.heap.size ≤ mp
  lr : w.heap.size ≤ mr
  n1 : mp ≠ mr
section
variable {w W W' : World} {L : List Nat} {H : Nat → Int} {gh n0 : Nat} {pa cb : Array Value} {FH : Nat → Prop} {I : World → Prop} {fn : Value} {b3 b8 b9 b10 mp mr q : Nat} {P : Nat → Option Int} {fp : Nat → Option SArc} {A A' : List (Int × Int)} {t t' : Int} {F F' : Nat → Prop}
theorem PreM.keeps0 (hh : Heur gh pa cb L H n0 w.heap.size FH I) (h : PreM w FH I fn b3 b8 b9 b10 mp mr q P fp A t F W) (hk : Keeps (fun _ => False) W W') : PreM w FH I fn b3 b8 b9 b10 mp mr q P fp A t F W' :=
  ⟨h.keep.trans (hk.mono (fun _ _ h => h.elim)), hh.steady h.hI hk (fun _ h => h.elim), h.price.keeps hk (fun h => h), h.par_.keeps hk (fun h => h), h.que.keeps hk (fun _ _ h => h), hk.heap h.x3 (fun h => h), hk.heap h.x8 (fun h => h), hk.heap h.x9 (fun h => h), hk.heap h.x10 (fun h => h),
   fun k hk' => ⟨(h.lF k hk').1, Nat.lt_of_lt_of_le (h.lF k hk').2.1 hk.size, (h.lF k hk').2.2⟩, h.fb, h.l3, h.l8, h.l9, h.l10, h.lp, h.lr, h.n1⟩
theorem PreM.asked (hh : Heur gh pa cb L H n0 w.heap.size FH I) (h : PreM w FH I fn b3 b8 b9 b10 mp mr q P fp A t F W) (hk : Keeps FH W W') (hI : I W') : PreM w FH I fn b3 b8 b9 b10 mp mr q P fp A t F W' := by
  have no : ∀ k, w.heap.size ≤ k → ¬ FH k := fun k hk h => by have := (hh.lo k h).2; omega
  exact ⟨h.keep.trans hk, hI, h.price.keeps hk (no _ h.lp), h.par_.keeps hk (no _ h.lr), h.que.keeps hk (fun k hF => no k (h.lF k hF).1), hk.heap h.x3 (no _ h.l3), hk.heap h.x8 (no _ h.l8), hk.heap h.x9 (no _ h.l9), hk.heap h.x10 (no _ h.l10),
   fun k hk' => ⟨(h.lF k hk').1, Nat.lt_of_lt_of_le (h.lF k hk').2.1 hk.size, (h.lF k hk').2.2⟩, h.fb, h.l3, h.l8, h.l9, h.l10, h.lp, h.lr, h.n1⟩
theorem PreM.queued (hh : Heur gh pa cb L H n0 w.heap.size FH I) (h : PreM w FH I fn b3 b8 b9 b10 mp mr q P fp A t F W) (hk : Keeps F W W') (hq : U.QRep W' q A' t' F') (hF : ∀ k, F' k → F k ∨ W.heap.size ≤ k) : PreM w FH I fn b3 b8 b9 b10 mp mr q P fp A' t' (fun k => F' k ∧ k < W'.heap.size) W' := by
  have lo : ∀ k, F k → w.heap.size ≤ k := fun k e => (h.lF k e).1
  have z3 := h.x3.lt; have z8 := h.x8.lt; have z9 := h.x9.lt; have z10 := h.x10.lt; have zp := h.price.lt; have zr := h.par_.lt; have zw := h.keep.size
  refine ⟨h.keep.trans' hk (fun i hi => .inr (lo i hi)), hh.steady h.hI hk lo, h.price.keeps hk (fun e => (h.lF _ e).2.2.1 rfl), h.par_.keeps hk (fun e => (h.lF _ e).2.2.2 rfl), U.QRep.mono hq (fun k hk' hF' => ⟨hF', hk'⟩), hk.heap h.x3 (fun e => (h.fb _ e).1 rfl), hk.heap h.x8 (fun e => (h.fb _ e).2.1 rfl), hk.heap h.x9 (fun e => (h.fb _ e).2.2.1 rfl), hk.heap h.x10 (fun e => (h.fb _ e).2.2.2 rfl), fun k hk' => ?_, fun k hk' => ?_, h.l3, h.l8, h.l9, h.l10, h.lp, h.lr, h.n1⟩
  · rcases hF k hk'.1 with h1 | h1
    · exact ⟨(h.lF k h1).1, hk'.2, (h.lF k h1).2.2⟩
    · exact ⟨by omega, hk'.2, by omega, by omega⟩
  · rcases hF k hk'.1 with h1 | h1
    · exact h.fb k h1
    · omega
theorem PreM.made (hh : Heur gh pa cb L H n0 w.heap.size FH I) (h : PreM w FH I fn b3 b8 b9 b10 mp mr q P fp A t F W) : BestM w FH I fn b3 b8 b9 b10 mp mr W.heap.size q P fp (fun _ => none) A t F (W.alloc (.map #[] 0)) := by
  have hk := (Keeps.refl (fun _ => False) W).alloc (.map #[] 0)
  have h' := h.keeps0 hh hk
  have zp := h.price.lt; have zr := h.par_.lt; have zw := h.keep.size
  exact ⟨h'.keep, h'.hI, ⟨h'.price, h'.par_, FMap.made W unitV, h'.que, fun k hF => ⟨(h'.lF k hF).1, (h'.lF k hF).2.1, (h'.lF k hF).2.2.1, (h'.lF k hF).2.2.2, by have := (h.lF k hF).2.1; omega⟩, h.lp, h.lr, zw, h.n1, by omega, by omega⟩,
    h'.x3, h'.x8, h'.x9, h'.x10, h.l3, h.l8, h.l9, h.l10, h.fb⟩
end

/-- What Best hands back. -/
def AstPost (ops : List Wop) (L : List Nat) (st : Nat) (acc : Nat → Bool) (H : Nat → Int) (w : World) (FH : Nat → Prop) (e : Ending) (w' : World) : Prop := Keeps FH w w' ∧ ∃ n : Nat, n ≤ L.length ∧
  ((LeastOf 4096 1 ops st acc (-1) ∧ e = .returned (.tuple #[.slice none 0 0, .int .i64 (n : Int), .bool false])) ∨
   (∃ (q : List Nat) (y : Nat) (p : Int) (v : Value), e = .returned (.tuple #[v, .int .i64 (n : Int), .bool true]) ∧ w'.ownsRow w.heap.size 3 1 v q.length ((intsP q).map (Value.int .i64)) ∧ q.length ≤ L.length ∧
      runOps ops st q = some y ∧ acc y = true ∧ wayN 4096 1 ops q = p ∧ 0 ≤ p ∧ LeastOf 4096 1 ops st acc p ∧ ∃ D : Nat → Bool, n = (L.filter D).length ∧ ExpOk ops L st H p D))

/-- The same, when the heuristic may say f times what a way costs. -/
def AstPostF (f : Int) (ops : List Wop) (L : List Nat) (st : Nat) (acc : Nat → Bool) (H : Nat → Int) (w : World) (FH : Nat → Prop) (I : World → Prop) (e : Ending) (w' : World) : Prop := Keeps FH w w' ∧ I w' ∧ ∃ n : Nat, n ≤ L.length ∧
  ((LeastOf 4096 1 ops st acc (-1) ∧ e = .returned (.tuple #[.slice none 0 0, .int .i64 (n : Int), .bool false])) ∨
   (∃ (q : List Nat) (y : Nat) (v : Value), e = .returned (.tuple #[v, .int .i64 (n : Int), .bool true]) ∧ w'.ownsRow w.heap.size 3 1 v q.length ((intsP q).map (Value.int .i64)) ∧ q.length ≤ L.length ∧
      runOps ops st q = some y ∧ acc y = true ∧ (∀ r z, runOps ops st r = some z → acc z = true → wayN 4096 1 ops q ≤ wayK f ops r) ∧ (f = 1 → ∃ D : Nat → Bool, n = (L.filter D).length ∧ ExpOk ops L st H (wayN 4096 1 ops q) D)))
theorem AstPostF.one {ops : List Wop} {L : List Nat} {st : Nat} {acc : Nat → Bool} {H : Nat → Int} {w : World} {FH : Nat → Prop} {I : World → Prop} {e : Ending} {w' : World} (h0 : ∀ o ∈ ops, 0 ≤ o.cost ∧ o.cost ≤ 100) (h : AstPostF 1 ops L st acc H w FH I e w') : AstPost ops L st acc H w FH e w' := by
  obtain ⟨h1, _, n, hn, h2⟩ := h
  refine ⟨h1, n, hn, h2.imp (fun h => h) ?_⟩
  rintro ⟨q, y, v, g1, g2, g3, g4, g5, g6, g7⟩
  obtain ⟨k1, k2⟩ := least_one h0 g4 g5 g6
  exact ⟨q, y, _, v, g1, g2, g3, g4, g5, rfl, k1, k2, g7 rfl⟩

/-- Arcs of s that have not come yet. -/
def ToDo (H : Nat → Int) (ops : List Wop) (s : Nat) (l : List Stp) (R : List SArc) : Prop := ∀ a ∈ R, H a.to < 1000000000 ∧ ∃ e ∈ wsteps ops s, a = arcOf e ∧ e ∉ l
theorem ToDo.start (H : Nat → Int) (ops : List Wop) (L : List Nat) (s : Nat) : ToDo H ops s [] (liveG H (nextG ops L) s) := fun a ha => by
  obtain ⟨h1, h2⟩ := List.mem_filter.1 ha
  refine ⟨by simpa using h2, ?_⟩
  unfold nextG at h1
  split at h1
  · obtain ⟨e, he, rfl⟩ := List.mem_map.1 h1
    exact ⟨e, he, rfl, by simp⟩
  · cases h1
theorem ToDo.done {H : Nat → Int} {ops : List Wop} {s : Nat} {R : List SArc} (h : ToDo H ops s (wsteps ops s) R) : R = [] := by
  cases R with
  | nil => rfl
  | cons a r => obtain ⟨_, e, h1, _, h2⟩ := h a (by simp); exact absurd h1 h2
theorem ToDo.dead {H : Nat → Int} {ops : List Wop} {s : Nat} {l : List Stp} {R : List SArc} (h : ToDo H ops s l R) {y : Stp} (hy : ¬ H y.to < 1000000000) : ToDo H ops s (l ++ [y]) R := fun a ha => by
  obtain ⟨h1, e, h2, h3, h4⟩ := h a ha
  refine ⟨h1, e, h2, h3, fun hm => ?_⟩
  rcases List.mem_append.1 hm with hm | hm
  · exact h4 hm
  · rw [List.mem_singleton] at hm; subst hm; rw [h3] at h1; exact hy h1
theorem SideI.more {G : Nat → List SArc} {S0 : Nat → Prop} {L : List Nat} {C : Int} {P : Nat → Option Int} {par : Nat → Option SArc} {A : List (Int × Int)} {s : Nat} {R R' : List SArc} (h : SideI G S0 L C P par A s R) (hR : ∀ b ∈ R, b ∈ R') : SideI G S0 L C P par A s R' :=
  ⟨h.dom, h.lo, h.start, h.from_, h.key, fun x p hp => (h.pend x p hp).imp (fun h => h) (fun h a ha => (h a ha).imp (fun h => h) (fun h => ⟨h.1, hR a h.2⟩))⟩
/-- The arc of y comes up. -/
theorem AstI.next {f : Int} {ops : List Wop} {L : List Nat} {st : Nat} {acc : Nat → Bool} {H : Nat → Int} {P : Nat → Option Int} {par : Nat → Option SArc} {A : List (Int × Int)} {s : Nat} {R : List SArc} {dn : Nat → Option Unit} (h : AstI f ops L st acc H P par A s R dn) {l : List Stp} (ht : ToDo H ops s l R) (y : Stp) :
    ∃ R', AstI f ops L st acc H P par A s (arcOf y :: R') dn ∧ ToDo H ops s (l ++ [y]) R' := by
  classical
  refine ⟨R.filter fun b => decide (b ≠ arcOf y), ⟨h.i.more (fun b hb => ?_), h.g, h.dIn, h.way, h.seen⟩, fun a ha => ?_⟩
  · by_cases e : b = arcOf y
    · rw [e]; simp
    · exact List.mem_cons_of_mem _ (List.mem_filter.2 ⟨hb, by simpa using e⟩)
  · obtain ⟨h1, h2⟩ := List.mem_filter.1 ha
    obtain ⟨g1, e, g2, g3, g4⟩ := ht a h1
    refine ⟨g1, e, g2, g3, fun hm => ?_⟩
    rcases List.mem_append.1 hm with hm | hm
    · exact g4 hm
    · rw [List.mem_singleton] at hm; subst hm
      have : a ≠ arcOf e := by simpa using h2
      exact this g3
theorem live_step {ops : List Wop} {L : List Nat} {H : Nat → Int} {s : Nat} (hs : s ∈ L) {y : Stp} (hy : y ∈ wsteps ops s) (h : H y.to < 1000000000) : arcOf y ∈ liveG H (nextG ops L) s := by
  unfold liveG nextG
  rw [if_pos hs]
  exact List.mem_filter.2 ⟨List.mem_map.2 ⟨y, hy, rfl⟩, decide_eq_true (show H (arcOf y).to < 1000000000 from h)⟩

/-- Within the loop over the steps of s, when the steps l have come; B: the heap's size ahead of the loop. -/
def AstBI (f : Int) (ops : List Wop) (L : List Nat) (st : Nat) (acc : Nat → Bool) (H : Nat → Int) (w : World) (FH : Nat → Prop) (I : World → Prop) (fn : Value) (b8 b9 b10 mp mr md q : Nat) (dn : Nat → Option Unit) (s : Nat) (ps T0 : Int) (M0 : Nat) (ds : List Deferred) (Bs b12 B : Nat) (l : List Stp) (W : World) : Prop :=
  ∃ (P : Nat → Option Int) (par : Nat → Option SArc) (A : List (Int × Int)) (t : Int) (F : Nat → Prop) (R : List SArc), BestM w FH I fn w.heap.size b8 b9 b10 mp mr md q P (parF st par) dn (liftA H A) t F W ∧ AstI f ops L st acc H P par A s R dn ∧ ToDo H ops s l R ∧ P s = some ps ∧
    0 ≤ t ∧ t + (weightB L 1000000000 P : Int) ≤ T0 ∧ 2 * weightB L 1000000000 P + A.length < M0 ∧ Marks ds W w.heap.size ∧ W.heap[Bs]? = some (.cells #[.int .u32 (s : Int)] 60 (0, 0)) ∧ W.heap[b12]? = some (.cells #[.int .u32 (s : Int)] 60 (0, 0)) ∧
    (∀ k, F k → (k < B ∨ ∃ cs T fr, W.heap[k]? = some (.cells cs T fr)) ∧ k ≠ Bs ∧ k ≠ b12 ∧ Clean W k)
theorem others_of {S : Nat → Prop} {W W' : World} {B : Nat} (hk : Keeps S W W') (hS : ∀ k, S k → k < B ∨ ∃ cs T fr, W.heap[k]? = some (.cells cs T fr)) : ∀ k o, B ≤ k → W.heap[k]? = some o → o.isCells = false → W'.heap[k]? = some o := fun k o hB h0 hc =>
  hk.heap h0 (fun hs => by
    rcases hS k hs with h | ⟨cs, T, fr, h⟩
    · omega
    · rw [h] at h0; cases h0; cases hc)
theorem close_of {S : Nat → Prop} {W W' : World} {B n0 Bs : Nat} (hk : Keeps S W W') (hS : ∀ k, S k → n0 ≤ k ∧ (k < B ∨ ∃ cs T fr, W.heap[k]? = some (.cells cs T fr)) ∧ k ≠ Bs) (hn : n0 ≤ W.heap.size) (hB : Bs < W.heap.size) : KeepsFrom B W W' ∧ KpS n0 Bs W W' :=
  ⟨⟨hk.size, others_of hk (fun k h => (hS k h).2.1)⟩, KpS.ofKeeps hk hn (fun k hlt hs => by have := (hS k hs).1; omega) hB (fun hs => (hS _ hs).2.2 rfl)⟩
theorem costLook {w : World} {mb : Nat} {P : Nat → Option Int} (hm : FMap w mb intV P) {x : Nat} {a : Int} (hx : P x = some a) : (Instr.lookup 136 (.map (some mb)) (.int .u32 (x : Int)) false).run Tryz.prog w = .ok (.int .i64 a) w :=
  (hm.look_some (P := Tryz.prog) Tryz.underlying136 Tryz.underlying60 hx).2
theorem costLookT {w : World} {mb : Nat} {P : Nat → Option Int} (hm : FMap w mb intV P) (x : Nat) : ∃ (a : Int) (b : Bool), (Instr.lookup 136 (.map (some mb)) (.int .u32 (x : Int)) true).run Tryz.prog w = .ok (.tuple #[.int .i64 a, .bool b]) w ∧ (b = true → P x = some a) ∧ (b = false → P x = none) := by
  cases hx : P x with
  | none => exact ⟨0, false, (hm.look_none (P := Tryz.prog) Tryz.underlying136 Tryz.underlying60 (show (zeroValue 3).run Tryz.prog w = .ok (.int .i64 0) w by kernel_rfl) hx).1, (fun h => by cases h), fun _ => rfl⟩
  | some a => exact ⟨a, true, (hm.look_some (P := Tryz.prog) Tryz.underlying136 Tryz.underlying60 hx).1, fun _ => rfl, fun h => by cases h⟩
theorem f8_keeps {F S : Nat → Prop} {W W' : World} {B Bs b12 : Nat} (h : ∀ k, F k → (k < B ∨ ∃ cs T fr, W.heap[k]? = some (.cells cs T fr)) ∧ k ≠ Bs ∧ k ≠ b12 ∧ Clean W k) (hk : Keeps S W W') (hs : ∀ k, F k → ¬ S k) (hl : ∀ k, F k → k < W.heap.size) :
    ∀ k, F k → (k < B ∨ ∃ cs T fr, W'.heap[k]? = some (.cells cs T fr)) ∧ k ≠ Bs ∧ k ≠ b12 ∧ Clean W' k := fun k hF =>
  ⟨(h k hF).1.imp (fun h => h) (fun ⟨cs, T, fr, hc⟩ => ⟨cs, T, fr, hk.heap hc (hs k hF)⟩), (h k hF).2.1, (h k hF).2.2.1, (h k hF).2.2.2.keeps hk (hl k hF) (hs k hF)⟩

end Go.Proofs.YtjcgkmodmjckjaaGreat

namespace Go.Proofs.YtjcgkmodmjckjaaGreat
open Go.RowKit Go.Shelf

/-- What Value says of a task's states for a kind. -/
def ValC (t : Tsk) (kind : Int) (L : List Nat) (H : Nat → Int) : Prop := ∀ (W : World) (vi vg vo vs : Value) (x : Nat), TaskAt W vi vg vo t → x ∈ L → Ints W vs (facts x) →
  Calls Tryz.prog 88 #[.agg #[.int .i64 t.n, vi, vg, vo], .int .i64 kind, vs] W fun e W' => e = .returned (.int .i64 (H x)) ∧ Keeps (fun _ => False) W W'

set_option maxRecDepth 100000 in
set_option maxHeartbeats 2000000 in
theorem value0_any (t : Tsk) (L : List Nat) : ValC t 0 L (fun _ => 0) := by
  intro w vi vg vo vs x h hx hs
  obtain ⟨ai, ci, h1, _⟩ := h.init.form
  obtain ⟨ag, cg, h2, _⟩ := h.goal.form
  obtain ⟨ao, co, h3, hmo⟩ := h.ops.form
  subst h1 h2 h3
  have K1 := Lib.hid ((Keeps.refl (fun _ => False) w).alloc (.cells #[.int .i64 t.n, .slice ai t.init.length ci, .slice ag t.goal.length cg, .slice ao t.ops.length co] 25))
  clear h hs
  go_enter Tryz.func88, Tryz.ntmps88
  go_wp2_with fail
  go_ret
  exact ⟨rfl, K1.out⟩

/-- The function value's own memory: the map of what it has said, the task and the kind. -/
structure HeurM (t : Tsk) (kind : Int) (H : Nat → Int) (w0 : World) (kb tb qb mb : Nat) (vi vg vo : Value) (W : World) : Prop where
  kbox : W.heap[kb]? = some (.cells #[.map (some mb)] 136 (0, 0))
  tbox : W.heap[tb]? = some (.cells #[.int .i64 t.n, vi, vg, vo] 25 (0, 0))
  qbox : W.heap[qb]? = some (.cells #[.int .i64 kind] 3 (0, 0))
  known : ∃ K, FMap W mb intV K ∧ ∀ x v, K x = some v → v = H x
  task : Keeps (fun _ => False) w0 W

theorem HeurM.keeps {t : Tsk} {kind : Int} {H : Nat → Int} {w0 W W' : World} {kb tb qb mb : Nat} {vi vg vo : Value} {S : Nat → Prop} (h : HeurM t kind H w0 kb tb qb mb vi vg vo W) (hk : Keeps S W W') (s1 : ¬ S kb) (s2 : ¬ S tb) (s3 : ¬ S qb) (s4 : ¬ S mb) (hS : ∀ k, S k → w0.heap.size ≤ k) : HeurM t kind H w0 kb tb qb mb vi vg vo W' := by
  obtain ⟨K, h1, h2⟩ := h.known
  exact ⟨hk.heap h.kbox s1, hk.heap h.tbox s2, hk.heap h.qbox s3, ⟨K, h1.keeps hk s4, h2⟩, h.task.trans' hk (fun i hi => .inr (hS i hi))⟩

set_option maxRecDepth 100000 in
set_option maxHeartbeats 2000000 in
theorem heur1_any (t : Tsk) (kind : Int) (L : List Nat) (H : Nat → Int) (hv : ValC t kind L H) (w0 : World) (kb tb qb mb : Nat) (vi vg vo : Value) (h0 : TaskAt w0 vi vg vo t) (hmb : w0.heap.size ≤ mb) (W : World) (x : Nat) (h : HeurM t kind H w0 kb tb qb mb vi vg vo W) (hx : x ∈ L) :
    Calls Tryz.prog 87 #[.int .u32 (x : Int), .pointer (some ⟨kb, 0, none⟩), .pointer (some ⟨tb, 0, none⟩), .pointer (some ⟨qb, 0, none⟩)] W fun e W' => e = .returned (.int .i64 (H x)) ∧ HeurM t kind H w0 kb tb qb mb vi vg vo W' ∧ Keeps (fun k => k = mb) W W' := by
  obtain ⟨ai, ci, h1, _⟩ := h0.init.form
  obtain ⟨ag, cg, h2, _⟩ := h0.goal.form
  obtain ⟨ao, co, h3, hmo⟩ := h0.ops.form
  subst h1 h2 h3
  obtain ⟨K, hK, hKH⟩ := h.known
  have HH := Lib.hid h; have HK := Lib.hid hK; have HKH := Lib.hid hKH; have HX := Lib.hid hx; have HV := Lib.hid hv; have H0 := Lib.hid h0
  have c1 : W.cell? ⟨kb, 0, none⟩ = some (.map (some mb)) := (cell_of_blk h.kbox).trans rfl
  have l1 := lt_of_heap h.kbox
  have n1 : kb ≠ mb := fun e => hK.ne_cells h.kbox e.symm
  have n2 : tb ≠ mb := fun e => hK.ne_cells h.tbox e.symm
  have n3 : qb ≠ mb := fun e => hK.ne_cells h.qbox e.symm
  obtain ⟨qv, qb', hlk, hqt, hqf⟩ := costLookT hK x
  clear h hK hKH hx hv h0
  go_enter Tryz.func87, Tryz.ntmps87
  cases qb' with
  | true =>
    have he := HKH.out x qv (hqt rfl)
    subst he
    clear hqt hqf
    go_wp2_with fail
    go_ret
    exact ⟨rfl, HH.out, Keeps.refl _ _⟩
  | false =>
    clear hqt hqf
    have KD := (Keeps.refl (fun _ => False) W).drew
    have HD := Lib.hid (HH.out.keeps KD (fun h => h) (fun h => h) (fun h => h) (fun h => h) (fun _ h => h.elim))
    have KDD := Lib.hid KD
    obtain ⟨t0, t1, t2, t3, tl⟩ := quad_cells HD.out.tbox
    have q0 : W.drew.cell? ⟨qb, 0, none⟩ = some (.int .i64 kind) := (cell_of_blk HD.out.qbox).trans rfl
    have ql := lt_of_heap HD.out.qbox
    clear KD
    go_wp2_with fail
    go_region_held3 (fun w' => w'.cell? ⟨tb, 0, none⟩ = some (.int .i64 t.n) ∧ w'.cell? ⟨tb, 1, none⟩ = some (.slice ai t.init.length ci) ∧ w'.cell? ⟨tb, 2, none⟩ = some (.slice ag t.goal.length cg) ∧ w'.cell? ⟨tb, 3, none⟩ = some (.slice ao t.ops.length co) ∧ w'.cell? ⟨qb, 0, none⟩ = some (.int .i64 kind))
      (go_keep)
      (first
        | (go_at_call 61; refine (facts_any _ x).mono ?_; rintro en wa ⟨vx, rfl, hrow, hka, _⟩; have hia := Ints.of_own hrow; have HIA := Lib.hid hia; have ha0 := hka.cell t0 (fun h => h); have ha1 := hka.cell t1 (fun h => h); have ha2 := hka.cell t2 (fun h => h); have ha3 := hka.cell t3 (fun h => h); have ha4 := hka.cell q0 (fun h => h); have KA := Lib.hid (KDD.out.trans hka); clear hrow hka hia)
        | (go_at_call 88; refine (HV.out _ _ _ _ _ x (H0.out.keeps0 (HH.out.task.trans KA.out)) HX.out HIA.out).mono ?_; rintro en wb ⟨rfl, hkb⟩; have hb0 := hkb.cell ha0 (fun h => h); have hb1 := hkb.cell ha1 (fun h => h); have hb2 := hkb.cell ha2 (fun h => h); have hb3 := hkb.cell ha3 (fun h => h); have hb4 := hkb.cell ha4 (fun h => h); have KB := Lib.hid (KA.out.trans hkb); clear hkb))
    all_goals
      have HB := Lib.hid (HH.out.keeps KB.out (fun h => h) (fun h => h) (fun h => h) (fun h => h) (fun _ h => h.elim))
      have hKb := HK.out.keeps KB.out (fun h => h)
      obtain ⟨wc, hrc, hmc, hkc⟩ := hKb.put (P := Tryz.prog) Tryz.underlying136 Tryz.underlying60 x (H x)
      unfold intV at hrc
      have k1c : wb.cell? ⟨kb, 0, none⟩ = some (.map (some mb)) := (cell_of_blk HB.out.kbox).trans rfl
      have k1l := lt_of_heap HB.out.kbox
      have HC := Lib.hid (show HeurM t kind H w0 kb tb qb mb _ _ _ wc ∧ Keeps (fun k => k = mb) W wc from ⟨⟨hkc.heap HB.out.kbox n1, hkc.heap HB.out.tbox n2, hkc.heap HB.out.qbox n3, ⟨_, hmc, fun y v hy => by
        unfold putP at hy
        split at hy
        · rename_i e; cases hy; rw [e]
        · exact HKH.out y v hy⟩, HB.out.task.trans' hkc (fun i hi => .inr (by rw [hi]; exact hmb))⟩, (KB.out.mono (fun _ _ h => h.elim)).trans hkc⟩)
      clear hmc hkc hKb
      go_wp2_with fail
      go_ret
      exact ⟨rfl, HC.out.1, HC.out.2⟩

/-- The function value keeps the contract of a heuristic. -/
theorem heur_is (t : Tsk) (kind : Int) (L : List Nat) (H : Nat → Int) (hv : ValC t kind L H) (w0 : World) (kb tb qb mb n0 B : Nat) (vi vg vo : Value) (h0 : TaskAt w0 vi vg vo t) (hmb : w0.heap.size ≤ mb) (hn : n0 ≤ mb) (b1 : kb < B) (b2 : tb < B) (b3 : qb < B) (b4 : mb < B) :
    Heur 87 #[] #[.pointer (some ⟨kb, 0, none⟩), .pointer (some ⟨tb, 0, none⟩), .pointer (some ⟨qb, 0, none⟩)] L H n0 B (fun k => k = mb) (HeurM t kind H w0 kb tb qb mb vi vg vo) := by
  refine ⟨enters_of Tryz.func87 (by kernel_rfl) rfl, fun W x hI hx => ?_, fun {S W W'} hI hk hS => ?_, fun {W k} hI hk => ?_, fun k hk => ?_⟩
  · exact (heur1_any t kind L H hv w0 kb tb qb mb vi vg vo h0 hmb W x hI hx).mono fun e W' h => h
  · exact hI.keeps hk (fun h => by have := hS _ h; omega) (fun h => by have := hS _ h; omega) (fun h => by have := hS _ h; omega) (fun h => by have := hS _ h; omega) (fun k h => by have := hS k h; omega)
  · obtain ⟨K, h1, _⟩ := hI.known
    rw [hk]; exact h1.not_deferred
  · rw [hk]; exact ⟨hn, b4⟩

end Go.Proofs.YtjcgkmodmjckjaaGreat

namespace Go.Proofs.YtjcgkmodmjckjaaGreat
open Go.RowKit Go.Shelf

theorem CheckedPost.form {t : Tsk} {w w' : World} {e : Ending} (h : CheckedPost t w e w') : ∃ pv lv c i, e = .returned (.tuple #[pv, lv, .agg #[.int .i64 c, .int .i64 i]]) := by
  rcases h.2 with ⟨_, h⟩ | ⟨_, _, h⟩ | ⟨_, _, _, b, v, vl, ws, h, _⟩
  · exact ⟨_, _, _, _, h⟩
  · exact ⟨_, _, _, _, h⟩
  · exact ⟨_, _, _, _, h⟩
theorem CheckedPost.past {t : Tsk} {w w1 w2 w' : World} {e : Ending} {S : Nat → Prop} (h : CheckedPost t w1 e w2) (hz : w.heap.size ≤ w1.heap.size) (hk : Keeps S w2 w') (hS : ∀ k, S k → k < w1.heap.size) (k0 : Keeps (fun _ => False) w w') : CheckedPost t w e w' := by
  refine ⟨k0, ?_⟩
  rcases h.2 with h | h | ⟨ok, l, hx, b, v, vl, ws, he, hw, hp, hs, hown⟩
  · exact .inl h
  · exact .inr (.inl h)
  · exact .inr (.inr ⟨ok, l, hx, b, v, vl, ws, he, (hw.keepsS hk (fun h => by have := hS _ h; have := hw.low; omega) (fun k hk' h => by have := hS _ h; have := (hw.own.lt k hk').1; omega)).mono hz, hp, hs, ownsRow_mono (hk.ownsRow hown (fun k hk' h => by have := hS _ h; have := (hown.lt k hk').1; omega)) hz⟩)

set_option maxRecDepth 100000 in
set_option maxHeartbeats 2000000 in
theorem acheck_any (w : World) (vi vg vo : Value) (t : Tsk) (h : TaskAt w vi vg vo t) :
    Calls Tryz.prog 48 #[.agg #[.int .i64 t.n, vi, vg, vo], .bool true] w (CheckedPost t w) := by
  obtain ⟨ai, ci, h1, _⟩ := h.init.form
  obtain ⟨ag, cg, h2, _⟩ := h.goal.form
  obtain ⟨ao, co, h3, hmo⟩ := h.ops.form
  subst h1 h2 h3
  have K1 := (Keeps.refl (fun _ => False) w).alloc (.cells #[.int .i64 t.n, .slice ai t.init.length ci, .slice ag t.goal.length cg, .slice ao t.ops.length co] 25)
  have HT := h.keeps0 (K1.alloc (.cells #[.int .i64 0, .int .i64 0] 29))
  have HB := (Four.new w (.int .i64 t.n) (.slice ai t.init.length ci) (.slice ag t.goal.length cg) (.slice ao t.ops.length co) 25).keeps0 ((Keeps.refl _ _).alloc (.cells #[.int .i64 0, .int .i64 0] 29))
  have HF : Flt w ((w.alloc (.cells #[.int .i64 t.n, .slice ai t.init.length ci, .slice ag t.goal.length cg, .slice ao t.ops.length co] 25)).alloc (.cells #[.int .i64 0, .int .i64 0] 29)) (w.heap.size + 1) 29 :=
    ⟨by have := heap_alloc_new (w.alloc (.cells #[.int .i64 t.n, .slice ai t.init.length ci, .slice ag t.goal.length cg, .slice ao t.ops.length co] 25)) (.cells #[.int .i64 0, .int .i64 0] 29); rwa [World.size_alloc] at this, by omega, K1.alloc _⟩
  replace HT := Lib.hid HT; replace HB := Lib.hid HB; replace HF := Lib.hid HF
  clear h K1
  go_enter Tryz.func48, Tryz.ntmps48
  go_upto_region 1 with fail
  generalize ((w.alloc (.cells #[.int .i64 t.n, .slice ai t.init.length ci, .slice ag t.goal.length cg, .slice ao t.ops.length co] 25)).alloc (.cells #[.int .i64 0, .int .i64 0] 29)) = w1 at HT HB HF ⊢
  have hbx := HB.out.lt
  obtain ⟨d0, d1, d2, d3⟩ := HB.out
  go_wp2_with fail
  refine (checked_any _ _ _ _ t HT.out).mono ?_; rintro e w2 hr
  obtain ⟨pv, lv, c, i, rfl⟩ := hr.form
  have HR := Lib.hid hr
  have KA := (Keeps.refl (fun _ => False) w2).alloc (.cells #[.int .i64 c, .int .i64 i] 29)
  have HF3 := Lib.hid (HF.out.keeps0 (hr.1.trans KA))
  have F0 := Lib.hid (heap_alloc_new w2 (.cells #[.int .i64 c, .int .i64 i] 29))
  have HKA := Lib.hid KA
  have hw1 := HF.out.cells.2.2.2.2
  have hww : w.heap.size ≤ w1.heap.size := HF.out.keep.size
  clear d0 d1 d2 d3 hbx hr KA HT HB HF
  go_upto_region 2 with fail
  generalize w2.alloc (.cells #[.int .i64 c, .int .i64 i] 29) = w3 at HF3 F0 HKA ⊢
  generalize w2.heap.size = b3 at F0 ⊢
  obtain ⟨f0, f1, _, _, fl⟩ := pair_cells F0.out
  obtain ⟨e0, e1, z0, z1, hF⟩ := HF3.out.cells
  go_wp2_with fail
  go_region
  all_goals
    go_wp2
    refine bodyPost_ret (results_tmp2_cell _ _ (w.heap.size + 1) 29 #[.int .i64 c, .int .i64 i] (0, 0) _ rfl rfl (((Keeps.refl (fun _ => False) _).drew).heap (HF3.out.set (.int .i64 c) (.int .i64 i)).1 (fun h => h)) Tryz.underlying29 rfl (by kernel_rfl)) rfl ?_
    exact HR.out.past hww ((HKA.out.mono (S' := fun k => k = w.heap.size + 1) (fun _ _ h => h.elim)).trans ((keeps_pair (w := w3) (w.heap.size + 1) (.int .i64 c) (.int .i64 i)).drew)) (fun k hk => by rw [hk]; exact hw1) ((HF3.out.set (.int .i64 c) (.int .i64 i)).2.drew)

set_option maxRecDepth 100000 in
set_option maxHeartbeats 2000000 in
theorem heuristic_any (w : World) (vi vg vo : Value) (t : Tsk) (kind : Int) (H : Nat → Int) (h : TaskAt w vi vg vo t) :
    Calls Tryz.prog 51 #[.agg #[.int .i64 t.n, vi, vg, vo], .int .i64 kind] w fun e w' => ∃ kb tb qb mb : Nat, e = .returned (.func (.func 87) #[] #[.pointer (some ⟨kb, 0, none⟩), .pointer (some ⟨tb, 0, none⟩), .pointer (some ⟨qb, 0, none⟩)]) ∧
      HeurM t kind H w kb tb qb mb vi vg vo w' ∧ w.heap.size ≤ mb ∧ kb < w'.heap.size ∧ tb < w'.heap.size ∧ qb < w'.heap.size ∧ mb < w'.heap.size ∧ Keeps (fun _ => False) w w' := by
  have hmm := @run_makeMap Tryz.prog
  have hmf : ∀ (fn : Fn) (first cap : Array Value) (w : World), (Instr.makeFunc fn first cap).run Tryz.prog w = .ok (.func fn first cap) w := fun _ _ _ _ => rfl
  obtain ⟨ai, ci, h1, _⟩ := h.init.form
  obtain ⟨ag, cg, h2, _⟩ := h.goal.form
  obtain ⟨ao, co, h3, hmo⟩ := h.ops.form
  subst h1 h2 h3
  clear h
  go_enter Tryz.func51, Tryz.ntmps51
  go_wp2_with fail
  go_ret
  have b1 := heap_alloc_new w (.cells #[.int .i64 t.n, .slice ai t.init.length ci, .slice ag t.goal.length cg, .slice ao t.ops.length co] 25)
  have b2 := heap_alloc_new (w.alloc (.cells #[.int .i64 t.n, .slice ai t.init.length ci, .slice ag t.goal.length cg, .slice ao t.ops.length co] 25)) (.cells #[.int .i64 kind] 3)
  have k2 := (Keeps.refl (fun _ => False) (w.alloc (.cells #[.int .i64 t.n, .slice ai t.init.length ci, .slice ag t.goal.length cg, .slice ao t.ops.length co] 25))).alloc (.cells #[.int .i64 kind] 3)
  have m3 := FMap.made ((w.alloc (.cells #[.int .i64 t.n, .slice ai t.init.length ci, .slice ag t.goal.length cg, .slice ao t.ops.length co] 25)).alloc (.cells #[.int .i64 kind] 3)) intV
  have k3 := (Keeps.refl (fun _ => False) ((w.alloc (.cells #[.int .i64 t.n, .slice ai t.init.length ci, .slice ag t.goal.length cg, .slice ao t.ops.length co] 25)).alloc (.cells #[.int .i64 kind] 3))).alloc (.map #[] 0)
  have b4 := heap_alloc_new (((w.alloc (.cells #[.int .i64 t.n, .slice ai t.init.length ci, .slice ag t.goal.length cg, .slice ao t.ops.length co] 25)).alloc (.cells #[.int .i64 kind] 3)).alloc (.map #[] 0)) (.cells #[.map (some (w.heap.size + 1 + 1))] 136)
  have k4 := (Keeps.refl (fun _ => False) (((w.alloc (.cells #[.int .i64 t.n, .slice ai t.init.length ci, .slice ag t.goal.length cg, .slice ao t.ops.length co] 25)).alloc (.cells #[.int .i64 kind] 3)).alloc (.map #[] 0))).alloc (.cells #[.map (some (w.heap.size + 1 + 1))] 136)
  have k1 := (Keeps.refl (fun _ => False) w).alloc (.cells #[.int .i64 t.n, .slice ai t.init.length ci, .slice ag t.goal.length cg, .slice ao t.ops.length co] 25)
  rw [World.size_alloc] at b2
  rw [World.size_alloc, World.size_alloc] at m3
  rw [World.size_alloc, World.size_alloc, World.size_alloc] at b4
  have k34 := k3.trans k4
  exact ⟨w.heap.size + 1 + 1 + 1, w.heap.size, w.heap.size + 1, w.heap.size + 1 + 1, rfl, ⟨b4, k34.heap (k2.heap b1 (fun h => h)) (fun h => h), k34.heap b2 (fun h => h), ⟨_, m3.keeps k4 (fun h => h), fun x v hx => by cases hx⟩, k1.trans (k2.trans k34)⟩, by omega, by simp only [World.size_alloc]; omega, by simp only [World.size_alloc]; omega, by simp only [World.size_alloc]; omega, by simp only [World.size_alloc]; omega, k1.trans (k2.trans k34)⟩

theorem admissible0_any (w : World) : Calls Tryz.prog 49 #[.int .i64 0] w fun e w' => e = .returned (.bool true) ∧ w = w' := by
  go_enter Tryz.func49, Tryz.ntmps49
  go_wp2_with fail
  go_ret
  exact ⟨rfl, rfl⟩

end Go.Proofs.YtjcgkmodmjckjaaGreat

namespace Go.Proofs.YtjcgkmodmjckjaaGreat
open Go.RowKit Go.Shelf
attribute [local go_sem] Oper.semAt_some

set_option maxRecDepth 100000 in
theorem aprice_any (w : World) (c : Int) (hc : 0 ≤ c ∧ c ≤ 1000000) : Calls Tryz.prog 43 #[.int .i64 c] w fun e w' => e = .returned (.int .i64 (4096 * c + 1)) ∧ w = w' := by
  go_enter Tryz.func43, Tryz.ntmps43
  go_wp2_with fail
  go_ret
  exact ⟨by simp [Int.mul_comm], rfl⟩

set_option maxRecDepth 100000 in
set_option maxHeartbeats 4000000 in
theorem abestF_in (f : Int) (w00 w : World) (b st g0 base : Nat) (v : Value) (ops : List Wop) (L : List Nat) (H : Nat → Int) (gh : Nat) (pa cb : Array Value) (FH : Nat → Prop) (I : World → Prop)
    (hw : WordsAt w00 base b st g0 v ops) (k00 : Keeps (fun _ => False) w00 w) (hops : WopsOk ops) (hmany : ops.length ≤ 40) (hg0 : g0 < 4294967296) (hsh : Shut ops L) (hfew : L.length ≤ 2000) (hL32 : ∀ x ∈ L, x < 4294967296) (hcost : ∀ o ∈ ops, 0 ≤ o.cost ∧ o.cost ≤ 100) (hst : st ∈ L)
    (hh : Heur gh pa cb L H w00.heap.size w.heap.size FH I) (hI : I w) (hf : 1 ≤ f) (ad : AdmF f ops L (goalB g0) H) :
    CallsIn Fence.wide 9 Tryz.prog 50 #[.iface 50 (.pointer (some ⟨b, 0, none⟩)), .func (.func gh) pa cb] w (AstPostF f ops L st (goalB g0) H w FH I) := by
  have hmm := @run_makeMap Tryz.prog
  have mS := method_Start ⟨b, 0, none⟩
  have mT := method_Steps ⟨b, 0, none⟩
  have mG := method_Goal ⟨b, 0, none⟩
  have eg := hh.enters
  have HW := Lib.hid hw; have K00 := Lib.hid k00; have HSH := Lib.hid hsh; have HL32 := Lib.hid hL32; have HCO := Lib.hid hcost; have HST := Lib.hid hst; have HH := Lib.hid hh; have HI := Lib.hid hI; have AD := Lib.hid ad
  have hz00 := k00.size
  clear hw k00 hsh hL32 hcost hst hh hI ad
  refine callsIn_of_wp_marks Tryz.func50 rfl trivial ?_ rfl
  simp only [Tryz.ntmps50, List.size_toArray, List.length_cons, List.length_nil, Nat.reduceAdd, Nat.reduceSub, Array.replicate_succ, Array.replicate_zero, List.push_toArray, List.append_toArray, List.nil_append, List.cons_append]
  have kA := (Keeps.refl (fun _ => False) w).alloc (.cells #[.func (.func gh) pa cb] 56)
  have HI1 := Lib.hid (HH.out.steady HI.out kA (fun _ h => h.elim))
  have HX3 := Lib.hid (Boxed.new w 56 (.func (.func gh) pa cb))
  have KA := Lib.hid kA
  have h0 := (AD.out.lo st HST.out)
  clear kA
  gi_wp2
  refine ⟨trivial, ?_⟩
  refine (callsIn_wide.2 (start_any _ _ _ _ _ _ _ (HW.out.past (K00.out.trans KA.out)))).mono ?_; rintro e w1 ⟨rfl, rfl⟩
  have x3c : (w.alloc (.cells #[.func (.func gh) pa cb] 56)).cell? ⟨w.heap.size, 0, none⟩ = some (.func (.func gh) pa cb) := HX3.out.cell
  have x3l : w.heap.size < (w.alloc (.cells #[.func (.func gh) pa cb] 56)).heap.size := HX3.out.lt
  gi_wp2
  refine ⟨trivial, ?_⟩
  refine (callsIn_wide.2 (HH.out.answers _ st HI1.out HST.out)).mono ?_; rintro e w2 ⟨rfl, hI2, hk2⟩
  have no : ∀ k, w.heap.size ≤ k → ¬ FH k := fun k hk h => by have := (HH.out.lo k h).2; omega
  have X3 := Lib.hid (hk2.heap HX3.out (no _ (Nat.le_refl _)))
  have K2 := Lib.hid ((KA.out.mono (fun _ _ h => h.elim)).trans hk2)
  have HI2 := Lib.hid hI2
  have NO := Lib.hid no
  clear hI2 hk2 no x3c x3l HI1 HX3 KA
  by_cases hd : 1000000000 ≤ H st
  · have HD := Lib.hid (ast_dead AD.out HST.out hd)
    gi_wp2
    refine leaves_marks (Marks.nil w2 w.heap.size) (fun W' hk => ?_)
    exact ⟨.tuple #[.slice none 0 0, .int .i64 0, .bool false], by simp [results, Tryz.results50, go_sem], K2.out.trans' hk (fun i hi => .inr hi.1), HH.out.steady HI2.out hk (fun i hi => hi.1), 0, Nat.zero_le _, .inl ⟨HD.out, rfl⟩⟩
  · have m1 := FMap.made w2 intV
    obtain ⟨W4, hr4, hm4, hk4⟩ := m1.put (P := Tryz.prog) Tryz.underlying136 Tryz.underlying60 st 0
    have m2 := FMap.made (W4.alloc (.cells #[.map (some w2.heap.size)] 136)) backV
    rw [World.size_alloc] at m2
    obtain ⟨W5, hr5, hm5, hk5⟩ := m2.put (P := Tryz.prog) Tryz.underlying139 Tryz.underlying60 st ⟨0, 0, st⟩
    unfold intV at hr4
    replace hr5 : (Instr.mapUpdate 139 (.map (some (W4.heap.size + 1))) (.int .u32 (st : Int)) (.agg #[.int .u32 (st : Int), .int .i64 0])).run Tryz.prog ((W4.alloc (.cells #[.map (some w2.heap.size)] 136)).alloc (.map #[] 0)) = .ok () W5 := hr5
    have HP1 := Lib.hid (And.intro hm4 (And.intro hk4 (And.intro hm5 hk5)))
    clear m1 m2 hm4 hk4 hm5 hk5
    gi_wp2
    refine ⟨trivial, ?_⟩
    refine (callsIn_wide.2 (U.new_any _)).mono ?_; rintro e w7 ⟨rfl, hq7, hk7⟩
    obtain ⟨hm4, hk4, hm5, hk5⟩ := HP1.out
    have z4 := hk4.size
    rw [World.size_alloc] at z4
    have z5 := hk5.size
    rw [World.size_alloc, World.size_alloc] at z5
    have kB := (Keeps.refl (fun _ => False) W4).alloc (.cells #[.map (some w2.heap.size)] 136)
    have kC := (Keeps.refl (fun _ => False) (W4.alloc (.cells #[.map (some w2.heap.size)] 136))).alloc (.map #[] 0)
    have kD := (Keeps.refl (fun _ => False) W5).alloc (.cells #[.map (some (W4.heap.size + 1))] 139)
    have kD7 := kD.trans hk7
    have z7 := hk7.size
    rw [World.size_alloc] at z7
    rw [World.size_alloc] at hq7 ⊢
    have kE := (Keeps.refl (fun _ => False) w7).alloc (.cells #[.pointer (some ⟨W5.heap.size + 1 + 1, 0, none⟩)] 140)
    have k24 : Keeps (fun _ => False) w2 W4 := ((Keeps.refl (fun _ => False) w2).alloc (.map #[] 0)).trans' hk4 (fun i e => .inr (by omega))
    have k45 : Keeps (fun _ => False) W4 W5 := (kB.trans kC).trans' hk5 (fun i e => .inr (by omega))
    have k57 := kD7.trans kE
    have k27 := k24.trans (k45.trans k57)
    have hzw := K2.out.size
    have n8 : Boxed (W4.alloc (.cells #[.map (some w2.heap.size)] 136)) W4.heap.size 136 (.map (some w2.heap.size)) := Boxed.new W4 _ _
    have n8' := hk5.heap (kC.heap n8 (fun h => h)) (show ¬ W4.heap.size = W4.heap.size + 1 by omega)
    have HPR := Lib.hid (show PreM w FH I (.func (.func gh) pa cb) w.heap.size W4.heap.size W5.heap.size w7.heap.size w2.heap.size (W4.heap.size + 1) (W5.heap.size + 1 + 1) (startP [st]) (parF st (fun _ => none)) [] 0 (fun k => W5.heap.size + 1 ≤ k ∧ k < w7.heap.size) (w7.alloc (.cells #[.pointer (some ⟨W5.heap.size + 1 + 1, 0, none⟩)] 140)) from by
      have e1 : putP (fun _ => none) st (0 : Int) = startP [st] := by funext y; unfold putP startP; simp
      refine ⟨K2.out.trans (k27.mono (fun _ _ h => h.elim)), HH.out.steady HI2.out k27 (fun _ h => h.elim), ?_, ?_, (U.QRep.mono hq7 (fun k h1 h2 => ⟨h2, h1⟩)).keeps kE (fun _ _ h => h), k27.heap X3.out (fun h => h), k57.heap n8' (fun h => h), (hk7.trans kE).heap (Boxed.new W5 _ _) (fun h => h), Boxed.new w7 _ _, fun k hk => ?_, fun k hk => ?_, by omega, by omega, by omega, by omega, by omega, by omega, by omega⟩
      · rw [← e1]; exact (hm4.keeps k45 (fun h => h)).keeps k57 (fun h => h)
      · rw [← parF_start]; exact hm5.keeps k57 (fun h => h)
      · exact ⟨by omega, by simp; omega, by omega, by omega⟩
      · exact ⟨by omega, by omega, by omega, by omega⟩)
    clear hq7 hk7 hm4 hk4 hm5 hk5 z4 z5 kB kC kD kD7 kE k24 k45 k57 k27 n8 n8' HP1 K2 HI2 X3 hr4 hr5
    generalize w2.heap.size = mp at HPR hzw ⊢
    gi_wp2
    obtain ⟨F0, hF0⟩ : ∃ F0 : Nat → Prop, F0 = (fun k => W5.heap.size + 1 ≤ k ∧ k < w7.heap.size) := ⟨_, rfl⟩
    rw [← hF0] at HPR
    clear hF0
    generalize (w7.alloc (.cells #[.pointer (some ⟨W5.heap.size + 1 + 1, 0, none⟩)] 140)) = w8 at HPR ⊢
    generalize W5.heap.size + 1 + 1 = Q at HPR ⊢
    generalize W4.heap.size + 1 = mr at HPR ⊢
    generalize W4.heap.size = b8 at HPR ⊢
    generalize W5.heap.size = b9 at HPR ⊢
    generalize w7.heap.size = b10 at HPR ⊢
    have hmix : Tryz.prog.follows .mixedOrders = true := by kernel_rfl
    have HP9 := Lib.hid (HPR.out.keeps0 HH.out ((Keeps.refl (fun _ => False) w8).drew))
    have HS0 : Hid (w8.drew.cell? ⟨b10, 0, none⟩ = some (.pointer (some ⟨Q, 0, none⟩)) ∧ w8.drew.cell? ⟨w.heap.size, 0, none⟩ = some (.func (.func gh) pa cb)) := ⟨HP9.out.x10.cell, HP9.out.x3.cell⟩
    have h1m : H st < 1000000000 := by omega
    have hw0 : IntKind.i64.wrap (4096 * H st) = 4096 * H st := IntWalk.i64_in _ (by omega)
    clear HPR
    obtain ⟨s10, s3⟩ := HS0.out
    have l10 := HP9.out.x10.lt
    have l3 := HP9.out.x3.lt
    refine wpIn_wide.2 ?_
    go_region_held3 (fun W => W.cell? ⟨b10, 0, none⟩ = some (.pointer (some ⟨Q, 0, none⟩)) ∧ W.cell? ⟨w.heap.size, 0, none⟩ = some (.func (.func gh) pa cb)) (go_keep)
      (first
        | (refine (HH.out.answers _ st HP9.out.hI HST.out).mono ?_; rintro e w9 ⟨rfl, hI9, hk9⟩; have HP10 := Lib.hid (HP9.out.asked HH.out hk9 hI9); have s10b := HP10.out.x10.cell; have s3b := HP10.out.x3.cell; clear hI9 hk9)
        | (go_at_call 83; refine (U.set_both _ _ _ _ _ HP10.out.que (st : Int) (4096 * H st) (by omega) (by simp)).mono ?_; rintro e w11 ⟨rfl, F2, hq2, hF2, hk2⟩; have HP11 := Lib.hid (HP10.out.queued HH.out hk2 hq2 hF2); have s10c := HP11.out.x10.cell; have s3c := HP11.out.x3.cell; clear hq2 hF2 hk2))
    clear HS0 s10 s3 s10b s3b s10c s3c l10 l3 HP9 HP10
    gi_wp2
    have kM := (Keeps.refl (fun _ => False) w11).alloc (.map #[] 0)
    have HB0 := Lib.hid ((HP11.out.made HH.out).live)
    have hlift : putA [] (st : Int) (4096 * H st) = liftA H (startA [st]) := by
      have h1 : startA [st] = putA [] (st : Int) 0 := rfl
      rw [h1, liftA_put, Int.zero_add]; rfl
    rw [hlift] at HB0
    have HA0 := Lib.hid (AstI.start (f := f) (ops := ops) (H := H) HST.out (goalB g0))
    have hw1 := startW L [st] 1000000000
    generalize w11.heap.size = md at HB0 ⊢
    generalize (w11.alloc (.map #[] 0)) = w12 at HB0 ⊢
    clear kM hlift HP11 hw0 h1m
    refine wpIn_loop_ghost (fun n a' wr => ∃ (ds : List Deferred) (P : Nat → Option Int) (par : Nat → Option SArc) (dn : Nat → Option Unit) (A : List (Int × Int)) (t : Int) (F : Nat → Prop), BestM w FH I (.func (.func gh) pa cb) w.heap.size b8 b9 b10 mp mr md Q P (parF st par) dn (liftA H A) t F wr ∧ AstI f ops L st (goalB g0) H P par A 0 [] dn ∧ (∀ x u, dn x = some u → x ∈ L) ∧
        0 ≤ t ∧ t + (weightB L 1000000000 P : Int) ≤ 2000000002000 ∧ n = 2 * weightB L 1000000000 P + A.length ∧ (∀ k, F k → wr.heap[k]? ≠ some (.deferred (some []))) ∧ Marks ds wr w.heap.size ∧
        ∃ u : Nat → Value, a' = { tmps := #[.iface 50 (.pointer (some ⟨b, 0, none⟩)), .func (.func gh) pa cb, u 2, .pointer (some ⟨w.heap.size, 0, none⟩), .slice none 0 0, .int .i64 0, .bool false, .int .u32 (st : Int), .pointer (some ⟨b8, 0, none⟩), .pointer (some ⟨b9, 0, none⟩), .pointer (some ⟨b10, 0, none⟩), .map (some md), u 12, u 13, u 14, u 15, u 16, u 17, u 18, u 19, u 20, u 21, u 22, u 23, u 24, u 25, u 26, u 27, u 28, u 29, u 30, u 31, u 32, u 33, u 34, u 35, u 36, u 37, u 38, u 39, u 40, u 41, u 42, u 43, u 44, u 45, u 46, u 47, u 48, u 49, u 50, u 51, u 52, u 53, u 54, u 55, u 56, u 57, u 58, u 59, u 60, u 61, u 62, u 63, u 64, u 65, u 66, u 67, u 68, u 69, u 70, u 71, u 72, u 73, u 74, u 75, u 76, u 77, u 78, u 79, u 80, u 81, u 82, u 83, u 84, u 85, u 86, u 87, u 88, u 89, u 90, u 91, u 92, u 93, u 94, u 95, u 96, u 97, u 98, u 99, u 100, u 101, u 102, u 103, u 104, u 105, u 106, u 107, u 108, u 109, u 110, u 111, u 112, u 113, u 114, u 115, u 116, u 117], defers := ds }) (2 * weightB L 1000000000 (startP [st]) + (startA [st]).length) ?start2 ?round2
    case start2 => exact ⟨[], startP [st], fun _ => none, fun _ => none, startA [st], _, _, HB0.out, HA0.out, (by intro x u h; cases h), by omega, by omega, rfl, fun k hk => hk.2.2, Marks.nil _ _, ex_fnD rfl⟩
    case round2 =>
      rintro n a wr ⟨ds, P, par, dn, A, t, F, hm, ha, hdn, ht0, htw, hn, hnd, hmk, u, rfl⟩
      have HM := Lib.hid hm; have HA := Lib.hid ha; have HDN := Lib.hid hdn; have HND := Lib.hid hnd; have HMK := Lib.hid hmk
      clear hm ha hdn hnd hmk HB0 HA0 hw1
      have x10c := HM.out.x10.cell
      have x10l := HM.out.x10.lt
      gi_wp2
      refine ⟨trivial, ?_⟩
      refine (callsIn_wide.2 (U.qlen_any wr Q (liftA H A) t F HM.out.m.q)).mono ?_; rintro e w2 ⟨rfl, rfl⟩
      rw [liftA_len]
      obtain ⟨nd, hnl, hlen⟩ := HM.out.m.done.len HDN.out (P := Tryz.prog) Tryz.underlying143 3
      by_cases hA : A = []
      · subst hA
        have HE := Lib.hid (ast_none HSH.out AD.out HA.out)
        gi_wp2
        refine leaves_marks HMK.out (fun W' hk => ?_)
        exact ⟨.tuple #[.slice none 0 0, .int .i64 (nd : Int), .bool false], by simp [results, Tryz.results50, go_sem], HM.out.keep.trans' hk (fun i hi => .inr hi.1), HH.out.steady HM.out.hI hk (fun i hi => hi.1), nd, hnl, .inl ⟨HE.out, rfl⟩⟩
      · have hpos : 0 < A.length := List.length_pos_iff.2 hA
        have hposi : (0 : Int) < (A.length : Int) := by omega
        cases hfm : U.firstMin (liftA H A) with
        | none =>
          have := U.firstMin_none.1 hfm
          have := congrArg List.length this
          rw [liftA_len] at this
          simp at this; exact absurd this hA
        | some z =>
          obtain ⟨⟨s', p⟩, hzA, hz⟩ := List.mem_map.1 (U.firstMin_mem hfm)
          obtain ⟨s, hs', hps⟩ := HA.out.i.key _ hzA
          simp only at hs' hps
          subst hs'
          simp only [Int.toNat_natCast] at hz
          subst hz
          have hsL := HA.out.i.dom s p hps
          have HFM := Lib.hid hfm; have HPS := Lib.hid hps; have HSL := Lib.hid hsL; have HZA := Lib.hid hzA
          clear hA hfm hps hsL hzA
          gi_wp2
          refine ⟨trivial, ?_⟩
          refine (callsIn_wide.2 (U.take_some wr Q (liftA H A) t F HM.out.m.q (s : Int) (p + 4096 * H s) HFM.out)).mono ?_; rintro e w3 ⟨rfl, hq3, hk3⟩
          have hm3 := (HM.out.queued HH.out hk3 hq3 (fun k h => .inl h)).clean
          rw [← liftA_drop] at hm3
          have hkd3 := HMK.out.keeps (KeepsD.of hk3 (fun k hk => HND.out k hk))
          obtain ⟨F3, hF3⟩ : ∃ F3 : Nat → Prop, F3 = (fun k => (F k ∧ k < w3.heap.size) ∧ k < w3.heap.size ∧ Clean w3 k) := ⟨_, rfl⟩
          have hnd3 : ∀ k, F3 k → Clean w3 k := fun k hk => by rw [hF3] at hk; exact hk.2.2
          rw [← hF3] at hm3
          have kS := (Keeps.refl (fun _ => False) w3).alloc (.cells #[.int .u32 (s : Int)] 60)
          have HM4 := Lib.hid (hm3.keeps0 HH.out kS)
          have HMK4 := Lib.hid (hkd3.keeps (KeepsD.of0 kS))
          have HND4 := Lib.hid (show ∀ k, F3 k → Clean (w3.alloc (.cells #[.int .u32 (s : Int)] 60)) k from fun k hk => (hnd3 k hk).keeps kS (hm3.m.lF k hk).2.1 (fun h => h))
          have HBX := Lib.hid (heap_alloc_new w3 (.cells #[.int .u32 (s : Int)] 60))
          have hb12 : w.heap.size ≤ w3.heap.size := hm3.keep.size
          have HFX := Lib.hid (show ∀ k, F3 k → k < w3.heap.size from fun k hk => (hm3.m.lF k hk).2.1)
          have h3b := hm3.x3.lt; have h8b := hm3.x8.lt; have h9b := hm3.x9.lt; have h10b := hm3.x10.lt
          have hpb := hm3.m.price.lt; have hrb := hm3.m.par_.lt; have hdb := hm3.m.done.lt
          clear hq3 hk3 hm3 hkd3 hF3 hnd3 kS hlen HM HMK HND
          clear x10c x10l
          gi_wp2
          refine ⟨trivial, ?_⟩
          have k04 : Keeps (fun _ => False) w00 (w3.alloc (.cells #[.int .u32 (s : Int)] 60)) := K00.out.trans' HM4.out.keep (fun i hi => .inr (HH.out.lo i hi).1)
          refine (callsIn_wide.2 (goal_any _ _ _ _ _ _ _ _ (HW.out.past k04))).mono ?_; rintro e w5 ⟨rfl, nq, rfl⟩
          rw [goal_bits (HL32.out s HSL.out) hg0]
          have kq := (Keeps.refl (fun _ => False) (w3.alloc (.cells #[.int .u32 (s : Int)] 60))).drewN nq
          have HM5 := Lib.hid (HM4.out.keeps0 HH.out kq); have HMK5 := Lib.hid (HMK4.out.keeps (KeepsD.of0 kq)); have HBX5 := Lib.hid (kq.heap HBX.out (fun h => h))
          have HND5 := Lib.hid (show ∀ k, F3 k → Clean ((w3.alloc (.cells #[.int .u32 (s : Int)] 60)).drewN nq) k from HND4.out)
          have hz5 : w3.heap.size < ((w3.alloc (.cells #[.int .u32 (s : Int)] 60)).drewN nq).heap.size := by
            have := kq.size
            rw [World.size_alloc] at this; omega
          have K05 := Lib.hid (k04.trans kq)
          clear kq HM4 HMK4 HBX HND4 k04
          generalize (w3.alloc (.cells #[.int .u32 (s : Int)] 60)).drewN nq = w5 at HM5 HMK5 HBX5 HND5 hz5 K05 ⊢
          generalize w3.heap.size = b12 at HBX5 HFX hb12 h3b h8b h9b h10b hpb hrb hdb hz5 ⊢
          have x9c := HM5.out.x9.cell
          have x12c : w5.cell? ⟨b12, 0, none⟩ = some (.int .u32 (s : Int)) := by rw [cell_of_blk HBX5.out]; rfl
          have x9l := HM5.out.x9.lt
          obtain ⟨nd5, hnl5, hlen5⟩ := HM5.out.m.done.len HDN.out (P := Tryz.prog) Tryz.underlying143 3
          cases hacc : goalB g0 s with
          | true =>
            obtain ⟨p', out, hp', hch, hol, hrun, hwn, hle⟩ := ast_found HSH.out HCO.out hf AD.out HA.out HFM.out hacc
            have hps0 := (HA.out.i.start st (List.mem_singleton.2 rfl)).2
            have HRS := Lib.hid (And.intro hrun (fun r z h1 h2 => Int.le_trans hwn (hle r z h1 h2)))
            have HEX := Lib.hid (show f = 1 → ExpOk ops L st H (wayN 4096 1 ops out.reverse) (fun x => (dn x).isSome) from by
              intro e1
              subst e1
              have he : wayN 4096 1 ops out.reverse = p' := Int.le_antisymm hwn (by rw [← wayK_one]; exact hle _ _ hrun hacc)
              rw [he]
              exact exp_found HSH.out HCO.out AD.out HA.out HFM.out hacc hp' (by have h1 := (HA.out.i.lo s p' hp').2; have h2 := knownB_le L P; omega) hrun hacc he)
            have HCH := Lib.hid hch
            clear hch hrun hwn hle hp' hlen5
            gi_wp2
            refine ⟨trivial, ?_⟩
            refine (callsIn_wide.2 (pathC_any w5 mr st s par (parF st par) out HM5.out.m.par_ (parF_of hps0) hps0 HCH.out (by omega))).mono ?_; rintro e w8 ⟨v8, rfl, hown8, hk8⟩
            have HM8 := Lib.hid (HM5.out.keeps0 HH.out hk8)
            have hlen8 := HM8.out.m.done.lenN HSH.out.1 HDN.out (P := Tryz.prog) Tryz.underlying143 3
            obtain ⟨nd8, hnd8⟩ : ∃ nd8, (L.filter fun x => (dn x).isSome).length = nd8 := ⟨_, rfl⟩
            rw [hnd8] at hlen8
            have HN8 := Lib.hid hnd8
            have hnl8 : nd8 ≤ L.length := by rw [← hnd8]; exact List.length_filter_le _ _
            clear hnd8
            have HO8 := Lib.hid hown8
            have HMK8 := Lib.hid (HMK5.out.keeps (KeepsD.of0 hk8))
            clear hown8 hk8 x9c x12c
            gi_wp2
            refine leaves_marks HMK8.out (fun W' hk => ?_)
            exact ⟨.tuple #[v8, .int .i64 (nd8 : Int), .bool true], by simp [results, Tryz.results50, go_sem], HM8.out.keep.trans' hk (fun i hi => .inr hi.1), HH.out.steady HM8.out.hI hk (fun i hi => hi.1), nd8, hnl8, .inr ⟨out.reverse, s, v8, rfl, by
              rw [List.length_reverse]
              exact ownsRow_mono (hk.ownsRow HO8.out (fun k hk' hs => row_not_deferred HO8.out k hk' hs.2)) HM5.out.keep.size, by rw [List.length_reverse]; exact hol, HRS.out.1, hacc, HRS.out.2, fun e1 => ⟨fun x => (dn x).isSome, HN8.out.symm, HEX.out e1⟩⟩⟩
          | false =>
            obtain ⟨W6, hr6, hd6, hk6⟩ := HM5.out.m.done.put (P := Tryz.prog) Tryz.underlying143 Tryz.underlying60 s ()
            unfold unitV at hr6
            have HM6 := Lib.hid (HM5.out.doned HH.out hk6 hd6)
            have hmd := HM5.out.nd.2.2
            have HMK6 := Lib.hid (HMK5.out.keeps (KeepsD.of hk6 (fun k hk => by rw [hk]; exact hmd)))
            have hneb : b12 ≠ md := fun e => HM5.out.m.done.ne_cells HBX5.out e.symm
            have HBX6 := Lib.hid (hk6.heap HBX5.out (fun h => hneb h))
            have HND6 := Lib.hid (show ∀ k, F3 k → Clean W6 k from fun k hk => (HND5.out k hk).keeps hk6 (HM5.out.m.lF k hk).2.1 (HM5.out.m.lF k hk).2.2.2.2)
            have x12d : W6.cell? ⟨b12, 0, none⟩ = some (.int .u32 (s : Int)) := by rw [cell_of_blk HBX6.out]; rfl
            have hz6 := hk6.size
            have K06 := Lib.hid (K05.out.trans' hk6 (fun i hi => .inr (by have h1 := HM5.out.m.ld; have h2 := K00.out.size; rw [hi]; omega)))
            have HA6 := Lib.hid (HA.out.take HSH.out HCO.out hf AD.out HFM.out HPS.out hacc)
            clear hd6 hk6 hmd hneb HM5 HMK5 HBX5 HND5 K05 HA hlen5 HFM x9c x9l
            gi_wp2
            refine ⟨trivial, ?_⟩
            refine (callsIn_wide.2 (steps_any W6 b s)).mono ?_; rintro en w9 ⟨rfl, rfl⟩
            gi_wp2
            obtain ⟨W9, hW9⟩ : ∃ W9, ((W6.alloc (.cells #[.pointer (some ⟨b, 0, none⟩)] 50)).alloc (.cells #[.int .u32 (s : Int)] 60)) = W9 := ⟨_, rfl⟩
            have hz9 : W9.heap.size = W6.heap.size + 1 + 1 := by rw [← hW9]; simp
            have k9 : Keeps (fun _ => False) W6 W9 := by rw [← hW9]; exact ((Keeps.refl _ _).alloc _).alloc _
            have hBw : W9.cell? ⟨W6.heap.size, 0, none⟩ = some (.pointer (some ⟨b, 0, none⟩)) := by
              rw [← hW9]; exact ((Boxed.new W6 _ _).alloc _).cell
            have hBs : W9.heap[W6.heap.size + 1]? = some (.cells #[.int .u32 (s : Int)] 60 (0, 0)) := by
              rw [← hW9]
              have := heap_alloc_new (W6.alloc (.cells #[.pointer (some ⟨b, 0, none⟩)] 50)) (.cells #[.int .u32 (s : Int)] 60)
              rwa [World.size_alloc] at this
            have hBsc : W9.cell? ⟨W6.heap.size + 1, 0, none⟩ = some (.int .u32 (s : Int)) := by rw [cell_of_blk hBs]; rfl
            rw [hW9]
            have HM9 := Lib.hid (HM6.out.keeps0 HH.out k9); have HMK9 := Lib.hid (HMK6.out.keeps (KeepsD.of0 k9)); have HBX9 := Lib.hid (k9.heap HBX6.out (fun h => h))
            have K09 := K06.out.trans k9
            have HWW := Lib.hid (show ∃ w0 : World, WordsAt w0 base b st g0 v ops ∧ w0.heap.size ≤ w00.heap.size ∧ Below w00.heap.size w0 W9 from ⟨w00, HW.out, Nat.le_refl _, K09.below⟩)
            have hlow6 : w.heap.size ≤ W6.heap.size := HM6.out.keep.size
            have HWL := Lib.hid (show (wsteps ops s).length ≤ 40 from Nat.le_trans (wsteps_le ops s) hmany)
            have hs32 := HL32.out s HSL.out
            have HBS := Lib.hid hBs
            have HF9 := Lib.hid (show ∀ k, F3 k → (k < W9.heap.size ∨ ∃ cs T fr, W9.heap[k]? = some (.cells cs T fr)) ∧ k ≠ W6.heap.size + 1 ∧ k ≠ b12 ∧ Clean W9 k from fun k hk => by
              have h1 := HFX.out k hk
              exact ⟨.inl (by omega), by omega, by omega, (HND6.out k hk).keeps k9 (by omega) (fun h => h)⟩)
            have hT0 : t + (weightB L 1000000000 P : Int) ≤ t + (weightB L 1000000000 P : Int) := Int.le_refl _
            have hM0 : 2 * weightB L 1000000000 P + (A.filter fun z => z.1 != (s : Int)).length < 2 * weightB L 1000000000 P + A.length := by
              have := dropA_len HZA.out
              unfold dropA at this; omega
            have HTD := Lib.hid (ToDo.start H ops L s)
            have HDN2 := Lib.hid (show ∀ x u, putP dn s () x = some u → x ∈ L from fun x u hx => by
              unfold putP at hx
              split at hx
              · rename_i e; rw [e]; exact HSL.out
              · exact HDN.out x u hx)
            generalize putP dn s () = dnN at HM9 HDN2 HA6
            clear hW9 k9 K09 HM6 HMK6 HBX6 HND6 K06 hr6 x12d hBs HZA HFX
            generalize hT : t + (weightB L 1000000000 P : Int) = T0 at htw hT0
            generalize hM : 2 * weightB L 1000000000 P + A.length = M0 at hn hM0
            refine wpIn_rangeFunc_ownH (α := StpOf ops s) rfl (by omega) (gf := 190) (lb := #[.pointer (some ⟨W6.heap.size, 0, none⟩), .pointer (some ⟨W6.heap.size + 1, 0, none⟩)]) rfl trivial (enters_of Tryz.func190 (by kernel_rfl) rfl)
              (steps_stops Fence.wide 8 trivial rfl (by omega) W6.heap.size (W6.heap.size + 1) w00.heap.size base b st g0 s v ops hops (by omega) hs32 W9 (by omega) hBw hBsc (by omega) (by omega) HWW.out)
              KpS.trans (kpS_b (by omega) (by omega)) (Below.refl _ _) (fun _ => rfl)
              (fun pre W => AstBI f ops L st (goalB g0) H w FH I (.func (.func gh) pa cb) b8 b9 b10 mp mr md Q dnN s p T0 M0 ds (W6.heap.size + 1) b12 W9.heap.size (pre.map fun y => y.1) W)
              (fun _ _ _ => False) ?_ (fun _ _ _ _ _ hs _ _ => hs) ?_
              (fun (y : StpOf ops s) (a' : Act) (W : World) => ∃ Bx : Nat, w.heap.size ≤ Bx ∧ W.heap[Bx]? = some (Obj.cells #[.int .i64 (y.1.op : Int), .int .i64 y.1.cost, .int .u32 (y.1.to : Int)] 153 (0, 0)) ∧ ∃ u : Nat → Value, a' = { tmps := #[.iface 50 (.pointer (some ⟨b, 0, none⟩)), .func (.func gh) pa cb, u 2, .pointer (some ⟨w.heap.size, 0, none⟩), .slice none 0 0, .int .i64 0, .bool false, .int .u32 (st : Int), .pointer (some ⟨b8, 0, none⟩), .pointer (some ⟨b9, 0, none⟩), .pointer (some ⟨b10, 0, none⟩), .map (some md), .pointer (some ⟨b12, 0, none⟩), u 13, u 14, .pointer (some ⟨Bx, 0, none⟩), u 16, u 17, u 18, u 19, u 20, u 21, u 22, u 23, u 24, u 25, u 26, u 27, u 28, u 29, u 30, u 31, u 32, u 33, u 34, u 35, u 36, u 37, u 38, u 39, u 40, u 41, u 42, u 43, u 44, u 45, u 46, u 47, u 48, u 49, u 50, u 51, u 52, u 53, u 54, u 55, u 56, u 57, u 58, u 59, u 60, u 61, u 62, u 63, u 64, u 65, u 66, u 67, u 68, u 69, u 70, u 71, u 72, u 73, u 74, u 75, u 76, u 77, u 78, u 79, u 80, u 81, u 82, u 83, u 84, u 85, u 86, u 87, u 88, u 89, u 90, u 91, u 92, u 93, u 94, u 95, u 96, u 97, u 98, u 99, u 100, u 101, u 102, u 103, u 104, u 105, u 106, u 107, u 108, u 109, u 110, u 111, u 112, u 113, u 114, u 115, u 116, u 117], defers := [] }) ?_ ?_ ?_ ?_ ?_
            · rintro l W W' row ⟨P, par, A, t, F, R, h1, h2, h3, h4, g1, g2, g3, h5, h6, h7, h8⟩ hg hr
              have hF : ∀ k, F k → k < W9.heap.size ∨ ∃ cs T fr, W.heap[k]? = some (.cells cs T fr) := fun k hk => (h8 k hk).1
              refine ⟨P, par, A, t, F, R, h1.steady HH.out hg hr (by omega) (by omega) (by omega) (by omega) hF, h2, h3, h4, g1, g2, g3, Marks.steady HMK9.out h5 hg hr, steady_heap hg (fun r e => (hr r e).2) h6, steady_heap hg (fun r e => (hr r e).2) h7, fun k hk => ⟨(hF k hk).imp (fun h => h) (fun ⟨cs, T, fr, hc⟩ => ⟨cs, T, fr, steady_heap hg (fun r e => (hr r e).2) hc⟩), (h8 k hk).2.1, (h8 k hk).2.2.1, (h8 k hk).2.2.2.keeps (steady_keeps hg) (h1.m.lF k hk).2.1 (fun e => ?_)⟩⟩
              obtain ⟨g4, o, ho, hno⟩ := hr k e
              rcases hF k hk with h | ⟨cs, T, fr, hc⟩
              · omega
              · rw [hc] at ho; cases ho; cases hno
            · exact ⟨P, par, _, t, F3, _, HM9.out, HA6.out, HTD.out, HPS.out, ht0, by omega, by omega, HMK9.out, HBS.out, HBX9.out, HF9.out⟩
            · intro y a' _ W W' row hs hg hr
              obtain ⟨Bx, h0, h1, h2⟩ := hs
              exact ⟨Bx, h0, steady_heap hg (fun r e => (hr r e).2) h1, h2⟩
            · intro l pre y W K hi hK
              simp only [Stp.val]
              gi_wp2
              obtain ⟨P, par, A, t, F, R, h1, h2, h3, h4, g1, g2, g3, h5, h6, h7, h8⟩ := hi
              have kx := (Keeps.refl (fun _ => False) W).alloc (.cells #[.int .i64 (y.1.op : Int), .int .i64 y.1.cost, .int .u32 (y.1.to : Int)] 153)
              exact hK _ _ ((KeepsOthers.alloc _ _).from _) ((KpS.refl _ _ W).alloc (Nat.le_trans hz00 h1.keep.size) (lt_of_heap h6) _) ⟨P, par, A, t, F, R, h1.keeps0 HH.out kx, h2, h3, h4, g1, g2, g3, h5.keeps (KeepsD.of0 kx), kx.heap h6 (fun h => h), kx.heap h7 (fun h => h), fun k hk => ⟨(h8 k hk).1.imp (fun h => h) (fun ⟨cs, T, fr, hc⟩ => ⟨cs, T, fr, kx.heap hc (fun h => h)⟩), (h8 k hk).2.1, (h8 k hk).2.2.1, (h8 k hk).2.2.2.keeps kx (h1.m.lF k hk).2.1 (fun h => h)⟩⟩ ⟨W.heap.size, h1.keep.size, heap_alloc_new W _, ex_fnD rfl⟩
            · rintro l pre y a' W hl - ⟨P1, par1, A1, t1, F1, R1, h1, h2, h3, h4, g1, g2, g3, h5, h6, h7, h8⟩ ⟨Bx, hBl, hBx, u', rfl⟩ hlt2
              obtain ⟨o, hoi, hoc, hcc, hto⟩ := wsteps_mem.1 y.2
              have hcst := HCO.out o (List.mem_of_getElem? hoi)
              rw [← hcc] at hcst
              have hyL : y.1.to ∈ L := by rw [hto]; exact HSH.out.2 s HSL.out o (List.mem_of_getElem? hoi) hoc
              have hHy := AD.out.lo y.1.to hyL
              have hp0 := h2.i.lo s p h4
              have hkn := knownB_le L P1
              have hpn : IntKind.i64.wrap (p + (4096 * y.1.cost + 1)) = p + (4096 * y.1.cost + 1) := IntWalk.i64_in _ (by omega)
              have hlowW : w.heap.size ≤ W.heap.size := h1.keep.size
              have HNF := Lib.hid (show ¬ F1 Bx from fun h => (h8 Bx h).2.2.2.2 _ _ hBx)
              have HYL := Lib.hid hyL; have HPP := Lib.hid h4
              clear hoi hoc hcc hto hyL
              have KD := (Keeps.refl (fun _ => False) W).drew
              have H1 := Lib.hid (h1.keeps0 HH.out KD); have H2 := Lib.hid h2; have H3 := Lib.hid h3; have H5 := Lib.hid h5; have H6 := Lib.hid h6; have H7 := Lib.hid h7; have H8 := Lib.hid h8
              have H0 := Lib.hid h1
              have HBX := Lib.hid (KD.heap hBx (fun h => h)); have HB12 := Lib.hid (KD.heap h7 (fun h => h))
              clear h1 h2 h3 h4 h5 h6 h7 h8 hBx KD
              have HS0 : Hid (W.drew.cell? ⟨b8, 0, none⟩ = some (.map (some mp)) ∧ W.drew.cell? ⟨b12, 0, none⟩ = some (.int .u32 (s : Int)) ∧ W.drew.cell? ⟨Bx, 1, none⟩ = some (.int .i64 y.1.cost) ∧ FMap W.drew mp intV P1) :=
                ⟨H1.out.x8.cell, (cell_of_blk HB12.out).trans rfl, (cell_of_blk HBX.out).trans rfl, H1.out.m.price⟩
              gi_wp2
              refine wpIn_region_held (fun W => W.cell? ⟨b8, 0, none⟩ = some (.map (some mp)) ∧ W.cell? ⟨b12, 0, none⟩ = some (.int .u32 (s : Int)) ∧ W.cell? ⟨Bx, 1, none⟩ = some (.int .i64 y.1.cost) ∧ FMap W mp intV P1) (fun _ => false) hmix ?_
              refine wpAnyHIn_take (Wide.wide.inRound l) 0 (.map (some mp)) rfl (by kernel_rfl) (by kernel_rfl) (by kernel_rfl) (by kernel_rfl) (by kernel_rfl) (fun _ _ _ h => h) HS0.out ?_ rfl ?_
              · rintro W ⟨s1, s2, s3, s4⟩; go_simp
              refine wpAnyHIn_take (Wide.wide.inRound l) 1 (.int .u32 (s : Int)) rfl (by kernel_rfl) (by kernel_rfl) (by kernel_rfl) (by kernel_rfl) (by kernel_rfl) (fun _ _ _ h => h) HS0.out ?_ rfl ?_
              · rintro W ⟨s1, s2, s3, s4⟩; go_simp
              refine wpAnyHIn_take (Wide.wide.inRound l) 2 (.int .i64 p) rfl (by kernel_rfl) (by kernel_rfl) (by kernel_rfl) (by kernel_rfl) (by kernel_rfl) (fun _ _ _ h => h) HS0.out ?_ rfl ?_
              · rintro W ⟨s1, s2, s3, s4⟩; have sl := costLook s4 HPP.out; go_simp
              refine wpAnyHIn_take (Wide.wide.inRound l) 3 (.pointer (some ⟨Bx, 1, none⟩)) rfl (by kernel_rfl) (by kernel_rfl) (by kernel_rfl) (by kernel_rfl) (by kernel_rfl) (fun _ _ _ h => h) HS0.out ?_ rfl ?_
              · rintro W ⟨s1, s2, s3, s4⟩; go_simp
              refine wpAnyHIn_take (Wide.wide.inRound l) 4 (.int .i64 y.1.cost) rfl (by kernel_rfl) (by kernel_rfl) (by kernel_rfl) (by kernel_rfl) (by kernel_rfl) (fun _ _ _ h => h) HS0.out ?_ rfl ?_
              · rintro W ⟨s1, s2, s3, s4⟩; go_simp
              refine wpAnyHIn_one 5 rfl (by kernel_rfl) rfl (fun K hK => ?_)
              go_simp
              refine ⟨trivial, ?_⟩
              refine (CallsIn.inRound l (callsIn_wide.2 (aprice_any _ y.1.cost ⟨hcst.1, by omega⟩))).mono ?_; rintro en w7 ⟨rfl, rfl⟩
              refine hK _ _ (fun _ => HS0.out) ?_
              clear hK K
              refine wpAnyHIn_one 6 rfl (by kernel_rfl) rfl (fun K hK => ?_)
              go_simp
              refine hK _ _ (fun _ => HS0.out) ?_
              clear hK K
              refine wpAnyHIn_one 7 rfl (by kernel_rfl) rfl (fun K hK => ?_)
              go_simp
              refine hK _ _ (fun _ => HS0.out) ?_
              clear hK K
              refine wpAnyHIn_done (by kernel_rfl) ?_
              clear HS0
              have KD := Lib.hid ((Keeps.refl (fun _ => False) W).drew)
              generalize W.drew = Wd at H1 HBX HB12 KD ⊢
              have x8c := H1.out.x8.cell
              have x8l := H1.out.x8.lt
              have y2 : Wd.cell? ⟨Bx, 2, none⟩ = some (.int .u32 (y.1.to : Int)) := (cell_of_blk HBX.out).trans rfl
              have hBxl := lt_of_heap HBX.out
              obtain ⟨qv, qb, hlk, hqt, hqf⟩ := costLookT H1.out.m.price y.1.to
              have x3c := H1.out.x3.cell
              have x3l := H1.out.x3.lt
              cases qb with
              | true =>
                have hq := hqt rfl
                clear hqt hqf
                by_cases hle : qv ≤ p + (4096 * y.1.cost + 1)
                · obtain ⟨R2, ha2, ht2⟩ := H2.out.next H3.out y.1
                  have ha3 := ha2.skip HPP.out hq (show qv ≤ p + (arcOf y.1).price from hle)
                  have HA3 := Lib.hid ha3; have HT2 := Lib.hid ht2
                  clear ha2 ha3 ht2 hq
                  gi_wp2
                  refine ⟨(fun f h => by cases h), ?_⟩
                  gi_wp2
                  obtain ⟨c1, c2⟩ := close_of (B := W9.heap.size) (n0 := w00.heap.size) (Bs := W6.heap.size + 1) KD.out (fun _ h => h.elim) (by omega) (lt_of_heap H6.out)
                  exact ⟨c1, c2, P1, par1, A1, t1, F1, R2, H1.out, HA3.out, by rw [List.map_append]; exact HT2.out, HPP.out, g1, g2, g3, H5.out.keeps (KeepsD.of0 KD.out), KD.out.heap H6.out (fun h => h), KD.out.heap H7.out (fun h => h), f8_keeps H8.out KD.out (fun _ _ h => h) (fun k hk => (H0.out.m.lF k hk).2.1)⟩
                · have HLT := Lib.hid (show ∀ q, P1 y.1.to = some q → p + (4096 * y.1.cost + 1) < q from fun q h => by rw [hq] at h; cases h; omega)
                  clear hq
                  gi_wp2
                  refine ⟨trivial, ?_⟩
                  refine (CallsIn.inRound l (callsIn_wide.2 (HH.out.answers _ y.1.to H1.out.hI HYL.out))).mono ?_; rintro en wa ⟨rfl, hIa, hka⟩
                  have no : ∀ k, w.heap.size ≤ k → ¬ FH k := fun k hk h => by have := (HH.out.lo k h).2; omega
                  have HMa := Lib.hid (H1.out.asked HH.out hka hIa)
                  have HBXa := Lib.hid (hka.heap HBX.out (no _ hBl)); have HB12a := Lib.hid (hka.heap HB12.out (no _ hb12))
                  have HKA := Lib.hid ((KD.out.mono (S' := FH) (fun _ _ h => h.elim)).trans hka)
                  have NO := Lib.hid no
                  clear hIa hka no hlk x8c x8l y2 x3c x3l H1 HBX HB12 KD
                  by_cases hdead : 1000000000 ≤ H y.1.to
                  · gi_wp2
                    obtain ⟨c1, c2⟩ := close_of (B := W9.heap.size) (n0 := w00.heap.size) (Bs := W6.heap.size + 1) HKA.out (fun k h => by
                      have := HH.out.lo k h
                      exact ⟨this.1, .inl (by omega), by omega⟩) (by omega) (lt_of_heap H6.out)
                    have hT := H3.out.dead (y := y.1) (fun h : H y.1.to < 1000000000 => by omega)
                    exact ⟨c1, c2, P1, par1, A1, t1, F1, R1, HMa.out, H2.out, by rw [List.map_append]; exact hT, HPP.out, g1, g2, g3, H5.out.keeps (KeepsD.of HKA.out (fun k h => HH.out.nd H0.out.hI h)), HKA.out.heap H6.out (NO.out _ (by omega)), HKA.out.heap H7.out (NO.out _ hb12), f8_keeps H8.out HKA.out (fun k hk => NO.out k (H0.out.m.lF k hk).1) (fun k hk => (H0.out.m.lF k hk).2.1)⟩
                  · have hlive : H y.1.to < 1000000000 := by omega
                    obtain ⟨wb, hrb, hmb, hkb⟩ := HMa.out.m.price.put (P := Tryz.prog) Tryz.underlying136 Tryz.underlying60 y.1.to (p + (4096 * y.1.cost + 1))
                    unfold intV at hrb
                    have HMb := Lib.hid (HMa.out.priced HH.out hkb hmb)
                    obtain ⟨wc, hrc, hmc, hkc⟩ := HMb.out.m.par_.put (P := Tryz.prog) Tryz.underlying139 Tryz.underlying60 y.1.to ⟨y.1.op, 4096 * y.1.cost + 1, s⟩
                    replace hrc : (Instr.mapUpdate 139 (.map (some mr)) (.int .u32 (y.1.to : Int)) (.agg #[.int .u32 (s : Int), .int .i64 (y.1.op : Int)])).run Tryz.prog wb = .ok () wc := hrc
                    have hne : y.1.to ≠ st := fun e => by
                      have := HLT.out 0 (by rw [e]; exact (H2.out.i.start st (List.mem_singleton.2 rfl)).1)
                      omega
                    rw [parF_put hne] at hmc
                    have HMc := Lib.hid (HMb.out.pard HH.out hkc hmc)
                    have n1 : Bx ≠ mp := fun e => HMa.out.m.price.ne_cells HBXa.out e.symm
                    have n2 : b12 ≠ mp := fun e => HMa.out.m.price.ne_cells HB12a.out e.symm
                    have HBXb := Lib.hid (hkb.heap HBXa.out n1); have HB12b := Lib.hid (hkb.heap HB12a.out n2)
                    have n3 : Bx ≠ mr := fun e => HMb.out.m.par_.ne_cells HBXb.out e.symm
                    have HBXc := Lib.hid (hkc.heap HBXb.out n3)
                    have x8a := HMa.out.x8.cell
                    have y2a : wa.cell? ⟨Bx, 2, none⟩ = some (.int .u32 (y.1.to : Int)) := (cell_of_blk HBXa.out).trans rfl
                    have x9b := HMb.out.x9.cell
                    have y2b : wb.cell? ⟨Bx, 2, none⟩ = some (.int .u32 (y.1.to : Int)) := (cell_of_blk HBXb.out).trans rfl
                    have y0b : wb.cell? ⟨Bx, 0, none⟩ = some (.int .i64 (y.1.op : Int)) := (cell_of_blk HBXb.out).trans rfl
                    have x12b : wb.cell? ⟨b12, 0, none⟩ = some (.int .u32 (s : Int)) := (cell_of_blk HB12b.out).trans rfl
                    have hBxa := lt_of_heap HBXa.out; have hBxb := lt_of_heap HBXb.out; have hBxc := lt_of_heap HBXc.out
                    have x8al := HMa.out.x8.lt; have x9bl := HMb.out.x9.lt
                    have HKC := Lib.hid (show Keeps (fun k => FH k ∨ k = mp ∨ k = mr) W wc from ((HKA.out.mono (fun _ _ h => .inl h)).trans (hkb.mono (fun _ _ h => .inr (.inl h)))).trans (hkc.mono (fun _ _ h => .inr (.inr h))))
                    have HMDD := Lib.hid (And.intro HMa.out.nd.1 HMb.out.nd.2.1)
                    have hw1 : IntKind.i64.wrap (4096 * H y.1.to) = 4096 * H y.1.to := IntWalk.i64_in _ (by omega)
                    have hw2 : IntKind.i64.wrap (p + (4096 * y.1.cost + 1) + 4096 * H y.1.to) = p + (4096 * y.1.cost + 1) + 4096 * H y.1.to := IntWalk.i64_in _ (by omega)
                    clear hmb hkb hmc hkc n1 n2 n3
                    gi_wp2
                    have KD := (Keeps.refl (fun _ => False) wc).drew
                    have HMd := Lib.hid (HMc.out.keeps0 HH.out KD)
                    have HBXd := Lib.hid (KD.heap HBXc.out (fun h => h))
                    have HKD := Lib.hid (HKC.out.trans (KD.mono (fun _ _ h => h.elim)))
                    have HS1 : Hid (wc.drew.cell? ⟨b10, 0, none⟩ = some (.pointer (some ⟨Q, 0, none⟩)) ∧ wc.drew.cell? ⟨Bx, 2, none⟩ = some (.int .u32 (y.1.to : Int)) ∧ wc.drew.cell? ⟨w.heap.size, 0, none⟩ = some (.func (.func gh) pa cb)) :=
                      ⟨HMd.out.x10.cell, (cell_of_blk HBXd.out).trans rfl, HMd.out.x3.cell⟩
                    clear KD x8a y2a x9b y2b y0b x12b
                    refine wpIn_region_held (fun W => W.cell? ⟨b10, 0, none⟩ = some (.pointer (some ⟨Q, 0, none⟩)) ∧ W.cell? ⟨Bx, 2, none⟩ = some (.int .u32 (y.1.to : Int)) ∧ W.cell? ⟨w.heap.size, 0, none⟩ = some (.func (.func gh) pa cb)) (fun _ => false) hmix ?_
                    refine wpAnyHIn_take (Wide.wide.inRound l) 0 (.pointer (some ⟨Q, 0, none⟩)) rfl (by kernel_rfl) (by kernel_rfl) (by kernel_rfl) (by kernel_rfl) (by kernel_rfl) (fun _ _ _ h => h) HS1.out ?_ rfl ?_
                    · rintro W ⟨s1, s2, s3⟩; go_simp
                    refine wpAnyHIn_take (Wide.wide.inRound l) 1 (.pointer (some ⟨Bx, 2, none⟩)) rfl (by kernel_rfl) (by kernel_rfl) (by kernel_rfl) (by kernel_rfl) (by kernel_rfl) (fun _ _ _ h => h) HS1.out ?_ rfl ?_
                    · rintro W ⟨s1, s2, s3⟩; go_simp
                    refine wpAnyHIn_take (Wide.wide.inRound l) 2 (.int .u32 (y.1.to : Int)) rfl (by kernel_rfl) (by kernel_rfl) (by kernel_rfl) (by kernel_rfl) (by kernel_rfl) (fun _ _ _ h => h) HS1.out ?_ rfl ?_
                    · rintro W ⟨s1, s2, s3⟩; go_simp
                    refine wpAnyHIn_take (Wide.wide.inRound l) 3 (.int .i64 (p + (4096 * y.1.cost + 1))) rfl (by kernel_rfl) (by kernel_rfl) (by kernel_rfl) (by kernel_rfl) (by kernel_rfl) (fun _ _ _ h => h) HS1.out ?_ rfl ?_
                    · rintro W ⟨s1, s2, s3⟩; go_simp
                    refine wpAnyHIn_take (Wide.wide.inRound l) 4 (.func (.func gh) pa cb) rfl (by kernel_rfl) (by kernel_rfl) (by kernel_rfl) (by kernel_rfl) (by kernel_rfl) (fun _ _ _ h => h) HS1.out ?_ rfl ?_
                    · rintro W ⟨s1, s2, s3⟩; go_simp
                    refine wpAnyHIn_take (Wide.wide.inRound l) 5 (.pointer (some ⟨Bx, 2, none⟩)) rfl (by kernel_rfl) (by kernel_rfl) (by kernel_rfl) (by kernel_rfl) (by kernel_rfl) (fun _ _ _ h => h) HS1.out ?_ rfl ?_
                    · rintro W ⟨s1, s2, s3⟩; go_simp
                    refine wpAnyHIn_take (Wide.wide.inRound l) 6 (.int .u32 (y.1.to : Int)) rfl (by kernel_rfl) (by kernel_rfl) (by kernel_rfl) (by kernel_rfl) (by kernel_rfl) (fun _ _ _ h => h) HS1.out ?_ rfl ?_
                    · rintro W ⟨s1, s2, s3⟩; go_simp
                    refine wpAnyHIn_one 7 rfl (by kernel_rfl) rfl (fun K hK => ?_)
                    go_simp
                    refine ⟨trivial, ?_⟩
                    refine (CallsIn.inRound l (callsIn_wide.2 (HH.out.answers _ y.1.to HMd.out.hI HYL.out))).mono ?_; rintro en we ⟨rfl, hIe, hke⟩
                    have HMe := Lib.hid (HMd.out.asked HH.out hke hIe)
                    have HKE := Lib.hid (HKD.out.trans (hke.mono (fun _ _ h => .inl h)))
                    have HBXe := Lib.hid (hke.heap HBXd.out (NO.out _ hBl))
                    have HS2 : Hid (we.cell? ⟨b10, 0, none⟩ = some (.pointer (some ⟨Q, 0, none⟩)) ∧ we.cell? ⟨Bx, 2, none⟩ = some (.int .u32 (y.1.to : Int)) ∧ we.cell? ⟨w.heap.size, 0, none⟩ = some (.func (.func gh) pa cb)) :=
                      ⟨HMe.out.x10.cell, (cell_of_blk HBXe.out).trans rfl, HMe.out.x3.cell⟩
                    clear hIe hke HS1 HMd
                    refine hK _ _ (fun _ => HS2.out) ?_
                    clear hK K
                    refine wpAnyHIn_one 8 rfl (by kernel_rfl) rfl (fun K hK => ?_)
                    go_simp
                    refine hK _ _ (fun _ => HS2.out) ?_
                    clear hK K
                    refine wpAnyHIn_one 9 rfl (by kernel_rfl) rfl (fun K hK => ?_)
                    go_simp
                    refine hK _ _ (fun _ => HS2.out) ?_
                    clear hK K
                    refine wpAnyHIn_one 10 rfl (by kernel_rfl) rfl (fun K hK => ?_)
                    go_simp
                    refine ⟨trivial, ?_⟩
                    have hAl : (liftA H A1).length ≤ 999999 := by
                      obtain ⟨_, _, _, _, _, hqr⟩ := HMe.out.m.q
                      have h1 := hqr.ndA
                      have h2 : (liftA H A1).map Prod.fst = A1.map Prod.fst := by unfold liftA; rw [List.map_map]; rfl
                      rw [h2] at h1
                      have := H2.out.i.few h1
                      rw [liftA_len]; omega
                    refine (CallsIn.inRound l (callsIn_wide.2 (U.set_both2 _ _ _ _ _ HMe.out.m.q (y.1.to : Int) (p + (4096 * y.1.cost + 1) + 4096 * H y.1.to) ⟨g1, by omega⟩ hAl))).mono ?_; rintro en wf ⟨rfl, F2, hq2, hF2, hk2⟩
                    have x10f := HMe.out.queued HH.out hk2 hq2 (fun k h => (hF2 k h).imp (fun h => h.1) (fun h => h.1))
                    refine hK _ _ (fun _ => ⟨x10f.x10.cell, (cell_of_blk (hk2.heap HBXe.out HNF.out)).trans rfl, x10f.x3.cell⟩) ?_
                    clear hK K x10f
                    refine wpAnyHIn_done (by kernel_rfl) ?_
                    gi_wp2
                    rw [← liftA_put] at hq2
                    have HMf := Lib.hid ((HMe.out.queued HH.out hk2 hq2 (fun k h => (hF2 k h).imp (fun h => h.1) (fun h => h.1))).clean)
                    have KT : Keeps (fun k => (FH k ∨ k = mp ∨ k = mr) ∨ F1 k) W wf := (HKE.out.mono (fun _ _ h => .inl h)).trans (hk2.mono (fun _ _ h => .inr h))
                    have hzwe := HKE.out.size
                    have hBsl := lt_of_heap H6.out
                    have hb12l := lt_of_heap H7.out
                    have hlp := H0.out.m.lp
                    have hlr := H0.out.m.lr
                    obtain ⟨c1, c2⟩ := close_of (B := W9.heap.size) (n0 := w00.heap.size) (Bs := W6.heap.size + 1) KT (fun k h => by
                      rcases h with (h | h | h) | h
                      · have := HH.out.lo k h
                        exact ⟨this.1, .inl (by omega), by omega⟩
                      · exact ⟨by omega, .inl (by omega), by omega⟩
                      · exact ⟨by omega, .inl (by omega), by omega⟩
                      · exact ⟨by have := (H0.out.m.lF k h).1; omega, (H8.out k h).1, (H8.out k h).2.1⟩) (by omega) hBsl
                    obtain ⟨R2, ha2, ht2⟩ := H2.out.next H3.out y.1
                    have hfall := ha2.fall HSH.out.1 HSH.out HCO.out (live_step HSL.out y.2 hlive) HPP.out HLT.out
                    have hsy : s ≠ y.1.to := fun e => by
                      have := HLT.out p (by rw [← e]; exact HPP.out)
                      omega
                    have hwt := weightB_put (L := L) (m := 1000000000) (P := P1) (x := y.1.to) (v := p + (4096 * y.1.cost + 1)) (by omega) HYL.out (fun q hq => by have := HLT.out q hq; omega)
                    have hpl := putA_len A1 (y.1.to : Int) (p + (4096 * y.1.cost + 1))
                    have nS : ∀ k, w.heap.size ≤ k → k ≠ mp → k ≠ mr → ¬ F1 k → ¬ ((FH k ∨ k = mp ∨ k = mr) ∨ F1 k) := fun k h1 h2 h3 h4 h => by
                      rcases h with (h | h | h) | h
                      · exact NO.out k h1 h
                      · exact h2 h
                      · exact h3 h
                      · exact h4 h
                    exact ⟨c1, c2, _, _, _, _, _, R2, HMf.out, hfall, by rw [List.map_append]; exact ht2, (show putP P1 y.1.to (p + (4096 * y.1.cost + 1)) s = some p from by rw [putP_other _ _ hsy]; exact HPP.out), by omega,
                      (show t1 + 1 + (weightB L 1000000000 (putP P1 y.1.to (p + (4096 * y.1.cost + 1))) : Int) ≤ T0 by omega), (show 2 * weightB L 1000000000 (putP P1 y.1.to (p + (4096 * y.1.cost + 1))) + (putA A1 (y.1.to : Int) (p + (4096 * y.1.cost + 1))).length < M0 by omega),
                      H5.out.keeps (KeepsD.of KT (fun k h => by
                        rcases h with (h | h | h) | h
                        · exact HH.out.nd H0.out.hI h
                        · rw [h]; exact H0.out.nd.1
                        · rw [h]; exact H0.out.nd.2.1
                        · exact (H8.out k h).2.2.2.1)),
                      KT.heap H6.out (nS _ (by omega) (by omega) (by omega) (fun h => (H8.out _ h).2.1 rfl)), KT.heap H7.out (nS _ hb12 (by omega) (by omega) (fun h => (H8.out _ h).2.2.1 rfl)),
                      fun k hk => by
                        rcases hF2 k hk.1.1 with ⟨h1, h2⟩ | ⟨h1, h2⟩
                        · refine ⟨(H8.out k h1).1.imp (fun h => h) (fun ⟨cs, T, fr, hc⟩ => ?_), (H8.out k h1).2.1, (H8.out k h1).2.2.1, hk.2.2⟩
                          rcases h2 with h2 | ⟨es, c, h2⟩
                          · exact h2
                          · have h3 := HKE.out.heap hc (fun h => by
                              have hl := H0.out.m.lF k h1
                              rcases h with h | h | h
                              · exact NO.out k hl.1 h
                              · exact hl.2.2.1 h
                              · exact hl.2.2.2.1 h)
                            rw [h3] at h2; cases h2
                        · exact ⟨.inr h2, by omega, by omega, hk.2.2⟩⟩
              | false =>
                have HLT := Lib.hid (show ∀ q, P1 y.1.to = some q → p + (4096 * y.1.cost + 1) < q from fun q h => by rw [hqf rfl] at h; cases h)
                clear hqt hqf
                gi_wp2
                refine ⟨trivial, ?_⟩
                refine (CallsIn.inRound l (callsIn_wide.2 (HH.out.answers _ y.1.to H1.out.hI HYL.out))).mono ?_; rintro en wa ⟨rfl, hIa, hka⟩
                have no : ∀ k, w.heap.size ≤ k → ¬ FH k := fun k hk h => by have := (HH.out.lo k h).2; omega
                have HMa := Lib.hid (H1.out.asked HH.out hka hIa)
                have HBXa := Lib.hid (hka.heap HBX.out (no _ hBl)); have HB12a := Lib.hid (hka.heap HB12.out (no _ hb12))
                have HKA := Lib.hid ((KD.out.mono (S' := FH) (fun _ _ h => h.elim)).trans hka)
                have NO := Lib.hid no
                clear hIa hka no hlk x8c x8l y2 x3c x3l H1 HBX HB12 KD
                by_cases hdead : 1000000000 ≤ H y.1.to
                · gi_wp2
                  obtain ⟨c1, c2⟩ := close_of (B := W9.heap.size) (n0 := w00.heap.size) (Bs := W6.heap.size + 1) HKA.out (fun k h => by
                    have := HH.out.lo k h
                    exact ⟨this.1, .inl (by omega), by omega⟩) (by omega) (lt_of_heap H6.out)
                  have hT := H3.out.dead (y := y.1) (fun h : H y.1.to < 1000000000 => by omega)
                  exact ⟨c1, c2, P1, par1, A1, t1, F1, R1, HMa.out, H2.out, by rw [List.map_append]; exact hT, HPP.out, g1, g2, g3, H5.out.keeps (KeepsD.of HKA.out (fun k h => HH.out.nd H0.out.hI h)), HKA.out.heap H6.out (NO.out _ (by omega)), HKA.out.heap H7.out (NO.out _ hb12), f8_keeps H8.out HKA.out (fun k hk => NO.out k (H0.out.m.lF k hk).1) (fun k hk => (H0.out.m.lF k hk).2.1)⟩
                · have hlive : H y.1.to < 1000000000 := by omega
                  obtain ⟨wb, hrb, hmb, hkb⟩ := HMa.out.m.price.put (P := Tryz.prog) Tryz.underlying136 Tryz.underlying60 y.1.to (p + (4096 * y.1.cost + 1))
                  unfold intV at hrb
                  have HMb := Lib.hid (HMa.out.priced HH.out hkb hmb)
                  obtain ⟨wc, hrc, hmc, hkc⟩ := HMb.out.m.par_.put (P := Tryz.prog) Tryz.underlying139 Tryz.underlying60 y.1.to ⟨y.1.op, 4096 * y.1.cost + 1, s⟩
                  replace hrc : (Instr.mapUpdate 139 (.map (some mr)) (.int .u32 (y.1.to : Int)) (.agg #[.int .u32 (s : Int), .int .i64 (y.1.op : Int)])).run Tryz.prog wb = .ok () wc := hrc
                  have hne : y.1.to ≠ st := fun e => by
                    have := HLT.out 0 (by rw [e]; exact (H2.out.i.start st (List.mem_singleton.2 rfl)).1)
                    omega
                  rw [parF_put hne] at hmc
                  have HMc := Lib.hid (HMb.out.pard HH.out hkc hmc)
                  have n1 : Bx ≠ mp := fun e => HMa.out.m.price.ne_cells HBXa.out e.symm
                  have n2 : b12 ≠ mp := fun e => HMa.out.m.price.ne_cells HB12a.out e.symm
                  have HBXb := Lib.hid (hkb.heap HBXa.out n1); have HB12b := Lib.hid (hkb.heap HB12a.out n2)
                  have n3 : Bx ≠ mr := fun e => HMb.out.m.par_.ne_cells HBXb.out e.symm
                  have HBXc := Lib.hid (hkc.heap HBXb.out n3)
                  have x8a := HMa.out.x8.cell
                  have y2a : wa.cell? ⟨Bx, 2, none⟩ = some (.int .u32 (y.1.to : Int)) := (cell_of_blk HBXa.out).trans rfl
                  have x9b := HMb.out.x9.cell
                  have y2b : wb.cell? ⟨Bx, 2, none⟩ = some (.int .u32 (y.1.to : Int)) := (cell_of_blk HBXb.out).trans rfl
                  have y0b : wb.cell? ⟨Bx, 0, none⟩ = some (.int .i64 (y.1.op : Int)) := (cell_of_blk HBXb.out).trans rfl
                  have x12b : wb.cell? ⟨b12, 0, none⟩ = some (.int .u32 (s : Int)) := (cell_of_blk HB12b.out).trans rfl
                  have hBxa := lt_of_heap HBXa.out; have hBxb := lt_of_heap HBXb.out; have hBxc := lt_of_heap HBXc.out
                  have x8al := HMa.out.x8.lt; have x9bl := HMb.out.x9.lt
                  have HKC := Lib.hid (show Keeps (fun k => FH k ∨ k = mp ∨ k = mr) W wc from ((HKA.out.mono (fun _ _ h => .inl h)).trans (hkb.mono (fun _ _ h => .inr (.inl h)))).trans (hkc.mono (fun _ _ h => .inr (.inr h))))
                  have HMDD := Lib.hid (And.intro HMa.out.nd.1 HMb.out.nd.2.1)
                  have hw1 : IntKind.i64.wrap (4096 * H y.1.to) = 4096 * H y.1.to := IntWalk.i64_in _ (by omega)
                  have hw2 : IntKind.i64.wrap (p + (4096 * y.1.cost + 1) + 4096 * H y.1.to) = p + (4096 * y.1.cost + 1) + 4096 * H y.1.to := IntWalk.i64_in _ (by omega)
                  clear hmb hkb hmc hkc n1 n2 n3
                  gi_wp2
                  have KD := (Keeps.refl (fun _ => False) wc).drew
                  have HMd := Lib.hid (HMc.out.keeps0 HH.out KD)
                  have HBXd := Lib.hid (KD.heap HBXc.out (fun h => h))
                  have HKD := Lib.hid (HKC.out.trans (KD.mono (fun _ _ h => h.elim)))
                  have HS1 : Hid (wc.drew.cell? ⟨b10, 0, none⟩ = some (.pointer (some ⟨Q, 0, none⟩)) ∧ wc.drew.cell? ⟨Bx, 2, none⟩ = some (.int .u32 (y.1.to : Int)) ∧ wc.drew.cell? ⟨w.heap.size, 0, none⟩ = some (.func (.func gh) pa cb)) :=
                    ⟨HMd.out.x10.cell, (cell_of_blk HBXd.out).trans rfl, HMd.out.x3.cell⟩
                  clear KD x8a y2a x9b y2b y0b x12b
                  refine wpIn_region_held (fun W => W.cell? ⟨b10, 0, none⟩ = some (.pointer (some ⟨Q, 0, none⟩)) ∧ W.cell? ⟨Bx, 2, none⟩ = some (.int .u32 (y.1.to : Int)) ∧ W.cell? ⟨w.heap.size, 0, none⟩ = some (.func (.func gh) pa cb)) (fun _ => false) hmix ?_
                  refine wpAnyHIn_take (Wide.wide.inRound l) 0 (.pointer (some ⟨Q, 0, none⟩)) rfl (by kernel_rfl) (by kernel_rfl) (by kernel_rfl) (by kernel_rfl) (by kernel_rfl) (fun _ _ _ h => h) HS1.out ?_ rfl ?_
                  · rintro W ⟨s1, s2, s3⟩; go_simp
                  refine wpAnyHIn_take (Wide.wide.inRound l) 1 (.pointer (some ⟨Bx, 2, none⟩)) rfl (by kernel_rfl) (by kernel_rfl) (by kernel_rfl) (by kernel_rfl) (by kernel_rfl) (fun _ _ _ h => h) HS1.out ?_ rfl ?_
                  · rintro W ⟨s1, s2, s3⟩; go_simp
                  refine wpAnyHIn_take (Wide.wide.inRound l) 2 (.int .u32 (y.1.to : Int)) rfl (by kernel_rfl) (by kernel_rfl) (by kernel_rfl) (by kernel_rfl) (by kernel_rfl) (fun _ _ _ h => h) HS1.out ?_ rfl ?_
                  · rintro W ⟨s1, s2, s3⟩; go_simp
                  refine wpAnyHIn_take (Wide.wide.inRound l) 3 (.int .i64 (p + (4096 * y.1.cost + 1))) rfl (by kernel_rfl) (by kernel_rfl) (by kernel_rfl) (by kernel_rfl) (by kernel_rfl) (fun _ _ _ h => h) HS1.out ?_ rfl ?_
                  · rintro W ⟨s1, s2, s3⟩; go_simp
                  refine wpAnyHIn_take (Wide.wide.inRound l) 4 (.func (.func gh) pa cb) rfl (by kernel_rfl) (by kernel_rfl) (by kernel_rfl) (by kernel_rfl) (by kernel_rfl) (fun _ _ _ h => h) HS1.out ?_ rfl ?_
                  · rintro W ⟨s1, s2, s3⟩; go_simp
                  refine wpAnyHIn_take (Wide.wide.inRound l) 5 (.pointer (some ⟨Bx, 2, none⟩)) rfl (by kernel_rfl) (by kernel_rfl) (by kernel_rfl) (by kernel_rfl) (by kernel_rfl) (fun _ _ _ h => h) HS1.out ?_ rfl ?_
                  · rintro W ⟨s1, s2, s3⟩; go_simp
                  refine wpAnyHIn_take (Wide.wide.inRound l) 6 (.int .u32 (y.1.to : Int)) rfl (by kernel_rfl) (by kernel_rfl) (by kernel_rfl) (by kernel_rfl) (by kernel_rfl) (fun _ _ _ h => h) HS1.out ?_ rfl ?_
                  · rintro W ⟨s1, s2, s3⟩; go_simp
                  refine wpAnyHIn_one 7 rfl (by kernel_rfl) rfl (fun K hK => ?_)
                  go_simp
                  refine ⟨trivial, ?_⟩
                  refine (CallsIn.inRound l (callsIn_wide.2 (HH.out.answers _ y.1.to HMd.out.hI HYL.out))).mono ?_; rintro en we ⟨rfl, hIe, hke⟩
                  have HMe := Lib.hid (HMd.out.asked HH.out hke hIe)
                  have HKE := Lib.hid (HKD.out.trans (hke.mono (fun _ _ h => .inl h)))
                  have HBXe := Lib.hid (hke.heap HBXd.out (NO.out _ hBl))
                  have HS2 : Hid (we.cell? ⟨b10, 0, none⟩ = some (.pointer (some ⟨Q, 0, none⟩)) ∧ we.cell? ⟨Bx, 2, none⟩ = some (.int .u32 (y.1.to : Int)) ∧ we.cell? ⟨w.heap.size, 0, none⟩ = some (.func (.func gh) pa cb)) :=
                    ⟨HMe.out.x10.cell, (cell_of_blk HBXe.out).trans rfl, HMe.out.x3.cell⟩
                  clear hIe hke HS1 HMd
                  refine hK _ _ (fun _ => HS2.out) ?_
                  clear hK K
                  refine wpAnyHIn_one 8 rfl (by kernel_rfl) rfl (fun K hK => ?_)
                  go_simp
                  refine hK _ _ (fun _ => HS2.out) ?_
                  clear hK K
                  refine wpAnyHIn_one 9 rfl (by kernel_rfl) rfl (fun K hK => ?_)
                  go_simp
                  refine hK _ _ (fun _ => HS2.out) ?_
                  clear hK K
                  refine wpAnyHIn_one 10 rfl (by kernel_rfl) rfl (fun K hK => ?_)
                  go_simp
                  refine ⟨trivial, ?_⟩
                  have hAl : (liftA H A1).length ≤ 999999 := by
                    obtain ⟨_, _, _, _, _, hqr⟩ := HMe.out.m.q
                    have h1 := hqr.ndA
                    have h2 : (liftA H A1).map Prod.fst = A1.map Prod.fst := by unfold liftA; rw [List.map_map]; rfl
                    rw [h2] at h1
                    have := H2.out.i.few h1
                    rw [liftA_len]; omega
                  refine (CallsIn.inRound l (callsIn_wide.2 (U.set_both2 _ _ _ _ _ HMe.out.m.q (y.1.to : Int) (p + (4096 * y.1.cost + 1) + 4096 * H y.1.to) ⟨g1, by omega⟩ hAl))).mono ?_; rintro en wf ⟨rfl, F2, hq2, hF2, hk2⟩
                  have x10f := HMe.out.queued HH.out hk2 hq2 (fun k h => (hF2 k h).imp (fun h => h.1) (fun h => h.1))
                  refine hK _ _ (fun _ => ⟨x10f.x10.cell, (cell_of_blk (hk2.heap HBXe.out HNF.out)).trans rfl, x10f.x3.cell⟩) ?_
                  clear hK K x10f
                  refine wpAnyHIn_done (by kernel_rfl) ?_
                  gi_wp2
                  rw [← liftA_put] at hq2
                  have HMf := Lib.hid ((HMe.out.queued HH.out hk2 hq2 (fun k h => (hF2 k h).imp (fun h => h.1) (fun h => h.1))).clean)
                  have KT : Keeps (fun k => (FH k ∨ k = mp ∨ k = mr) ∨ F1 k) W wf := (HKE.out.mono (fun _ _ h => .inl h)).trans (hk2.mono (fun _ _ h => .inr h))
                  have hzwe := HKE.out.size
                  have hBsl := lt_of_heap H6.out
                  have hb12l := lt_of_heap H7.out
                  have hlp := H0.out.m.lp
                  have hlr := H0.out.m.lr
                  obtain ⟨c1, c2⟩ := close_of (B := W9.heap.size) (n0 := w00.heap.size) (Bs := W6.heap.size + 1) KT (fun k h => by
                    rcases h with (h | h | h) | h
                    · have := HH.out.lo k h
                      exact ⟨this.1, .inl (by omega), by omega⟩
                    · exact ⟨by omega, .inl (by omega), by omega⟩
                    · exact ⟨by omega, .inl (by omega), by omega⟩
                    · exact ⟨by have := (H0.out.m.lF k h).1; omega, (H8.out k h).1, (H8.out k h).2.1⟩) (by omega) hBsl
                  obtain ⟨R2, ha2, ht2⟩ := H2.out.next H3.out y.1
                  have hfall := ha2.fall HSH.out.1 HSH.out HCO.out (live_step HSL.out y.2 hlive) HPP.out HLT.out
                  have hsy : s ≠ y.1.to := fun e => by
                    have := HLT.out p (by rw [← e]; exact HPP.out)
                    omega
                  have hwt := weightB_put (L := L) (m := 1000000000) (P := P1) (x := y.1.to) (v := p + (4096 * y.1.cost + 1)) (by omega) HYL.out (fun q hq => by have := HLT.out q hq; omega)
                  have hpl := putA_len A1 (y.1.to : Int) (p + (4096 * y.1.cost + 1))
                  have nS : ∀ k, w.heap.size ≤ k → k ≠ mp → k ≠ mr → ¬ F1 k → ¬ ((FH k ∨ k = mp ∨ k = mr) ∨ F1 k) := fun k h1 h2 h3 h4 h => by
                    rcases h with (h | h | h) | h
                    · exact NO.out k h1 h
                    · exact h2 h
                    · exact h3 h
                    · exact h4 h
                  exact ⟨c1, c2, _, _, _, _, _, R2, HMf.out, hfall, by rw [List.map_append]; exact ht2, (show putP P1 y.1.to (p + (4096 * y.1.cost + 1)) s = some p from by rw [putP_other _ _ hsy]; exact HPP.out), by omega,
                    (show t1 + 1 + (weightB L 1000000000 (putP P1 y.1.to (p + (4096 * y.1.cost + 1))) : Int) ≤ T0 by omega), (show 2 * weightB L 1000000000 (putP P1 y.1.to (p + (4096 * y.1.cost + 1))) + (putA A1 (y.1.to : Int) (p + (4096 * y.1.cost + 1))).length < M0 by omega),
                    H5.out.keeps (KeepsD.of KT (fun k h => by
                      rcases h with (h | h | h) | h
                      · exact HH.out.nd H0.out.hI h
                      · rw [h]; exact H0.out.nd.1
                      · rw [h]; exact H0.out.nd.2.1
                      · exact (H8.out k h).2.2.2.1)),
                    KT.heap H6.out (nS _ (by omega) (by omega) (by omega) (fun h => (H8.out _ h).2.1 rfl)), KT.heap H7.out (nS _ hb12 (by omega) (by omega) (fun h => (H8.out _ h).2.2.1 rfl)),
                    fun k hk => by
                      rcases hF2 k hk.1.1 with ⟨h1, h2⟩ | ⟨h1, h2⟩
                      · refine ⟨(H8.out k h1).1.imp (fun h => h) (fun ⟨cs, T, fr, hc⟩ => ?_), (H8.out k h1).2.1, (H8.out k h1).2.2.1, hk.2.2⟩
                        rcases h2 with h2 | ⟨es, c, h2⟩
                        · exact h2
                        · have h3 := HKE.out.heap hc (fun h => by
                            have hl := H0.out.m.lF k h1
                            rcases h with h | h | h
                            · exact NO.out k hl.1 h
                            · exact hl.2.2.1 h
                            · exact hl.2.2.2.1 h)
                          rw [h3] at h2; cases h2
                      · exact ⟨.inr h2, by omega, by omega, hk.2.2⟩⟩
            · rintro D ys W hD hys ⟨P1, par1, A1, t1, F1, R1, h1, h2, h3, h4, g1, g2, g3, h5, h6, h7, h8⟩ hd
              have hys' : (ys.map fun y => y.1) = wsteps ops s := hys
              rw [hys'] at h3
              have hR := h3.done
              subst hR
              have HM7 := Lib.hid (HMK9.out.cons h5 hD (by omega) hd)
              have H1 := Lib.hid h1; have H2 := Lib.hid h2; have H8 := Lib.hid h8
              clear h1 h2 h3 h5 h6 h7 h8 hd hys hys'
              gi_wp2
              exact ⟨_, by omega, mark D :: ds, P1, par1, dnN, A1, t1, F1, H1.out, H2.out.anyS, HDN2.out, g1, by omega, rfl, fun k hk => (H8.out k hk).2.2.2.1, HM7.out, ex_fnD rfl⟩
            · exact fun _ _ _ _ _ _ h _ => h.elim

theorem abestF_any (f : Int) (w00 w : World) (b st g0 base : Nat) (v : Value) (ops : List Wop) (L : List Nat) (H : Nat → Int) (gh : Nat) (pa cb : Array Value) (FH : Nat → Prop) (I : World → Prop)
    (hw : WordsAt w00 base b st g0 v ops) (k00 : Keeps (fun _ => False) w00 w) (hops : WopsOk ops) (hmany : ops.length ≤ 40) (hg0 : g0 < 4294967296) (hsh : Shut ops L) (hfew : L.length ≤ 2000) (hL32 : ∀ x ∈ L, x < 4294967296) (hcost : ∀ o ∈ ops, 0 ≤ o.cost ∧ o.cost ≤ 100) (hst : st ∈ L)
    (hh : Heur gh pa cb L H w00.heap.size w.heap.size FH I) (hI : I w) (hf : 1 ≤ f) (ad : AdmF f ops L (goalB g0) H) :
    Calls Tryz.prog 50 #[.iface 50 (.pointer (some ⟨b, 0, none⟩)), .func (.func gh) pa cb] w (AstPostF f ops L st (goalB g0) H w FH I) :=
  callsIn_wide.1 (abestF_in f w00 w b st g0 base v ops L H gh pa cb FH I hw k00 hops hmany hg0 hsh hfew hL32 hcost hst hh hI hf ad)
theorem abest_any (w00 w : World) (b st g0 base : Nat) (v : Value) (ops : List Wop) (L : List Nat) (H : Nat → Int) (gh : Nat) (pa cb : Array Value) (FH : Nat → Prop) (I : World → Prop)
    (hw : WordsAt w00 base b st g0 v ops) (k00 : Keeps (fun _ => False) w00 w) (hops : WopsOk ops) (hmany : ops.length ≤ 40) (hg0 : g0 < 4294967296) (hsh : Shut ops L) (hfew : L.length ≤ 2000) (hL32 : ∀ x ∈ L, x < 4294967296) (hcost : ∀ o ∈ ops, 0 ≤ o.cost ∧ o.cost ≤ 100) (hst : st ∈ L)
    (hh : Heur gh pa cb L H w00.heap.size w.heap.size FH I) (hI : I w) (ad : Adm ops L (goalB g0) H) :
    Calls Tryz.prog 50 #[.iface 50 (.pointer (some ⟨b, 0, none⟩)), .func (.func gh) pa cb] w (AstPost ops L st (goalB g0) H w FH) :=
  (abestF_any 1 w00 w b st g0 base v ops L H gh pa cb FH I hw k00 hops hmany hg0 hsh hfew hL32 hcost hst hh hI (Int.le_refl 1) ad.one).mono fun _ _ h => h.one hcost

end Go.Proofs.YtjcgkmodmjckjaaGreat
