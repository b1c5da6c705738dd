/- Results that lie in memory: a struct beside plain results. Nothing here speaks of one program. -/
import Derived.Test.YtcfcmmajlkkabaaBase
namespace Go.Proofs.Ytcfcmmajlkkabaa
open Go.RowKit

theorem pair_set {w : World} {B : Nat} {x y : Value} {T : TypeId} (h : w.heap[B]? = some (.cells #[x, y] T (0, 0))) (c n : Value) :
    ((w.setCell ⟨B, 0, none⟩ c).setCell ⟨B, 1, none⟩ n).heap[B]? = some (.cells #[c, n] T (0, 0)) := by
  rw [blk_set_same (blk_set_same h c)]; rfl

theorem pair_alloc {w : World} {B : Nat} {o o' : Obj} (h : w.heap[B]? = some o') : (w.alloc o).heap[B]? = some o' := (Below.heap_alloc w o B (lt_of_heap h)).trans h

theorem keeps_pair {w : World} (B : Nat) (c n : Value) : Keeps (fun b => b = B) w ((w.setCell ⟨B, 0, none⟩ c).setCell ⟨B, 1, none⟩ n) :=
  ((Keeps.refl (fun b => b = B) w).setCell (p := ⟨B, 0, none⟩) (.inl rfl) _).setCell (p := ⟨B, 1, none⟩) (.inl rfl) _

section
variable {P : Program} {fn : Func} {ty : TypeId} (tmps : Array Value) (w : World) (g : Nat) (t : TypeId) (cs : Array Value) (fr : Nat × Nat) (d : TypeDesc)

theorem results_tmp_cell {s p : Tmp} (h : fn.results = #[.tmp s, .cell p ty]) (hp : tmps.getD p undef = .pointer (some ⟨g, 0, none⟩)) (hg : w.heap[g]? = some (.cells cs t fr))
    (hu : P.underlying ty = some d) (hd : (match d with | .struct _ | .array _ _ => true | _ => false) = true) (hi : (P.info? ty).map (·.size) = some cs.size) :
    (results fn tmps).run P w = .ok (.tuple #[tmps.getD s undef, .agg cs]) w := by
  have hp' : tmps[p]?.getD undef = .pointer (some ⟨g, 0, none⟩) := by simpa using hp
  simp [results, h, hp', asAddr, run_loadVar_row w g t ty cs fr d hg hu hd hi]

theorem results_cell_cell {ty2 : TypeId} {s p : Tmp} {g2 : Nat} {t2 : TypeId} {cs2 : Array Value} {fr2 : Nat × Nat} {d2 : TypeDesc} (h : fn.results = #[.cell s ty2, .cell p ty]) (hp : tmps.getD p undef = .pointer (some ⟨g, 0, none⟩)) (hg : w.heap[g]? = some (.cells cs t fr))
    (hu : P.underlying ty = some d) (hd : (match d with | .struct _ | .array _ _ => true | _ => false) = true) (hi : (P.info? ty).map (·.size) = some cs.size)
    (hp2 : tmps.getD s undef = .pointer (some ⟨g2, 0, none⟩)) (hg2 : w.heap[g2]? = some (.cells cs2 t2 fr2))
    (hu2 : P.underlying ty2 = some d2) (hd2 : (match d2 with | .struct _ | .array _ _ => true | _ => false) = true) (hi2 : (P.info? ty2).map (·.size) = some cs2.size) :
    (results fn tmps).run P w = .ok (.tuple #[.agg cs2, .agg cs]) w := by
  have hp' : tmps[p]?.getD undef = .pointer (some ⟨g, 0, none⟩) := by simpa using hp
  have hp2' : tmps[s]?.getD undef = .pointer (some ⟨g2, 0, none⟩) := by simpa using hp2
  simp [results, h, hp', hp2', asAddr, run_loadVar_row w g t ty cs fr d hg hu hd hi, run_loadVar_row w g2 t2 ty2 cs2 fr2 d2 hg2 hu2 hd2 hi2]

theorem results_tmp2_cell {s1 s2 p : Tmp} (h : fn.results = #[.tmp s1, .tmp s2, .cell p ty]) (hp : tmps.getD p undef = .pointer (some ⟨g, 0, none⟩)) (hg : w.heap[g]? = some (.cells cs t fr))
    (hu : P.underlying ty = some d) (hd : (match d with | .struct _ | .array _ _ => true | _ => false) = true) (hi : (P.info? ty).map (·.size) = some cs.size) :
    (results fn tmps).run P w = .ok (.tuple #[tmps.getD s1 undef, tmps.getD s2 undef, .agg cs]) w := by
  have hp' : tmps[p]?.getD undef = .pointer (some ⟨g, 0, none⟩) := by simpa using hp
  simp [results, h, hp', asAddr, run_loadVar_row w g t ty cs fr d hg hu hd hi]
end

theorem box_cellS {S : Nat → Prop} {w w' : World} {cs : Array Value} {T : TypeId} (hk : Keeps S (w.alloc (.cells cs T)) w') (hs : ¬ S w.heap.size) (j : Nat) {x : Value} (hj : cs[j]? = some x) : w'.cell? ⟨w.heap.size, j, none⟩ = some x :=
  hk.cell (a := ⟨w.heap.size, j, none⟩) (by rw [World.cell?_alloc_at cs T w.heap.size j rfl]; exact hj) hs

theorem ownsRow_form1 {w : World} {base : Nat} {e : TypeId} {v : Value} {n : Nat} {xs : List Value} (h : w.ownsRow base e 1 v n xs) : ∃ ao cap, v = .slice ao n cap := by
  rcases h.2 with ⟨hv, h0⟩ | ⟨g, cap, cur, hv, _⟩
  · exact ⟨none, 0, by rw [hv, h0]⟩
  · exact ⟨_, cap, hv⟩

theorem ownsRow_mono {w : World} {base base' : Nat} {e : TypeId} {size : Nat} {v : Value} {n : Nat} {xs : List Value} (h : w.ownsRow base e size v n xs) (hb : base' ≤ base) : w.ownsRow base' e size v n xs := by
  refine ⟨h.1, ?_⟩
  rcases h.2 with h' | ⟨g, cap, cur, h1, h2, h3⟩
  · exact .inl h'
  · exact .inr ⟨g, cap, cur, h1, Nat.le_trans hb h2, h3⟩

end Go.Proofs.Ytcfcmmajlkkabaa
