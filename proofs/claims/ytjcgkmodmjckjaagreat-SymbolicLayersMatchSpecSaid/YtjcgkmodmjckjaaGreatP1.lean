/- Shared lemmas of this claim: frames with a footprint, blocks, slices that read as lists, maps with integer keys. Nothing here speaks of one program. Slices that read as lists; the reference's small functions on lists: In, At, Ints, Has. Tasks, sets of facts as lists and as words, the fault of a task. Nothing here speaks of one program. IsSet (of the reference, of strips), Disjoint. strips.Meets: slices.ContainsFunc with a closure over slices.BinarySearch. No condition beyond what each theorem says. -/
import Derived.WalkKit
import Derived.BigQuiet
import Derived.Deep.QuietTactic
import Derived.Lib.Hide
import Derived.Deep.LoopGhost
import Derived.Deep.RegionHeld3
import Derived.Deep.AppendLies
import Derived.Deep.DrawnRows
import Derived.WalkSpells
import Derived.WalkLawsBesides
import Derived.StillTailTactics
import Derived.RegionTactic
import Derived.Carry
import Derived.Outline
import Derived.OrdersHeld
import Derived.StillTail
import Derived.Maps.OwnOps
import Derived.Maps.OwnSet
import Derived.RangeFuncNested
import Derived.RangeFuncLeaves
import Derived.OwnWalkIn
import Derived.RangeFuncCalls
import Derived.Test.YtjcgkmodmjckjaaGreatProg
import Derived.IntWalk
import Derived.Test.YtjcgkmodmjckjaaGreatShelf

namespace Go.Proofs.YtjcgkmodmjckjaaGreat
open Go.RowKit

/-! ### frames -/

/-- Outside the footprint S nothing that was there has turned. -/
structure Keeps (S : Nat → Prop) (w w' : World) : Prop where
  os : w'.os = w.os
  tape : w'.tape = w.tape
  output : w'.output = w.output
  size : w.heap.size ≤ w'.heap.size
  block : ∀ k, k < w.heap.size → ¬ S k → w'.heap[k]? = w.heap[k]?

theorem Keeps.refl (S : Nat → Prop) (w : World) : Keeps S w w := ⟨rfl, rfl, rfl, Nat.le_refl _, fun _ _ _ => rfl⟩

theorem Keeps.trans {S : Nat → Prop} {a b c : World} (h : Keeps S a b) (k : Keeps S b c) : Keeps S a c :=
  ⟨k.os.trans h.os, k.tape.trans h.tape, k.output.trans h.output, Nat.le_trans h.size k.size,
    fun i hi hs => (k.block i (Nat.lt_of_lt_of_le hi h.size) hs).trans (h.block i hi hs)⟩

theorem Keeps.trans' {S S' : Nat → Prop} {a b c : World} (h : Keeps S a b) (k : Keeps S' b c) (hs : ∀ i, S' i → S i ∨ a.heap.size ≤ i) : Keeps S a c :=
  ⟨k.os.trans h.os, k.tape.trans h.tape, k.output.trans h.output, Nat.le_trans h.size k.size,
    fun i hi hn => (k.block i (Nat.lt_of_lt_of_le hi h.size) (fun hx => by rcases hs i hx with h | h; exact hn h; omega)).trans (h.block i hi hn)⟩

theorem Keeps.mono {S S' : Nat → Prop} {a b : World} (h : Keeps S a b) (hs : ∀ i, i < a.heap.size → S i → S' i) : Keeps S' a b :=
  ⟨h.os, h.tape, h.output, h.size, fun i hi hn => h.block i hi (fun hx => hn (hs i hi hx))⟩

theorem Keeps.drew {S : Nat → Prop} {a w : World} (h : Keeps S a w) : Keeps S a w.drew := ⟨h.os, h.tape, h.output, h.size, h.block⟩
theorem Keeps.drewN {S : Nat → Prop} {a w : World} (h : Keeps S a w) (n : Nat) : Keeps S a (w.drewN n) := ⟨h.os, h.tape, h.output, h.size, h.block⟩

theorem Keeps.alloc {S : Nat → Prop} {a w : World} (h : Keeps S a w) (o : Obj) : Keeps S a (w.alloc o) :=
  ⟨h.os, h.tape, h.output, by have := h.size; simp; omega, fun k hk hs => (Below.heap_alloc w o k (Nat.lt_of_lt_of_le hk h.size)).trans (h.block k hk hs)⟩

theorem Keeps.setCell {S : Nat → Prop} {a w : World} (h : Keeps S a w) {p : Addr} (hp : S p.block ∨ a.heap.size ≤ p.block) (u : Value) : Keeps S a (w.setCell p u) :=
  ⟨h.os, h.tape, h.output, by have := h.size; simp; omega, fun k hk hs => by
    rw [heap_setCell_other]
    · exact h.block k hk hs
    · rintro rfl
      rcases hp with hp | hp
      · exact hs hp
      · omega⟩

theorem Keeps.grown {S : Nat → Prop} {a w w' : World} {row : Option Nat} (h : Keeps S a w) (hg : w.grownBy w' row) (hr : ∀ k, row = some k → S k ∨ a.heap.size ≤ k) : Keeps S a w' :=
  ⟨hg.os.trans h.os, hg.tape.trans h.tape, hg.output.trans h.output, Nat.le_trans h.size hg.size, fun k hk hs =>
    (hg.block k (Nat.lt_of_lt_of_le hk h.size) (fun e => by rcases hr k e.symm with h | h; exact hs h; omega)).trans (h.block k hk hs)⟩

theorem Keeps.below {w w' : World} (h : Keeps (fun _ => False) w w') : Below w.heap.size w w' :=
  ⟨h.os, h.tape, h.output, h.size, fun k hk => h.block k hk (fun h => h)⟩
theorem Keeps.ofBelow {w w' : World} (h : Below w.heap.size w w') (S : Nat → Prop) : Keeps S w w' :=
  ⟨h.os, h.tape, h.output, h.size, fun k hk _ => h.block k hk⟩
theorem Keeps.toBelow {S : Nat → Prop} {w w' : World} {B : Nat} (h : Keeps S w w') (hB : B ≤ w.heap.size) (hs : ∀ k, k < B → ¬ S k) : Below B w w' :=
  ⟨h.os, h.tape, h.output, h.size, fun k hk => h.block k (Nat.lt_of_lt_of_le hk hB) (hs k hk)⟩

theorem Keeps.cell {S : Nat → Prop} {w w' : World} (h : Keeps S w w') {a : Addr} {v : Value} (hc : w.cell? a = some v) (hs : ¬ S a.block) : w'.cell? a = some v :=
  (World.cell?_of_block (h.block _ (World.block_lt_of_cell? w a hc) hs)).trans hc

theorem Keeps.heap {S : Nat → Prop} {w w' : World} (h : Keeps S w w') {b : Nat} {o : Obj} (hb : w.heap[b]? = some o) (hs : ¬ S b) : w'.heap[b]? = some o :=
  (h.block b (Array.getElem?_eq_some_iff.1 hb).1 hs).trans hb

theorem Keeps.ownsRow {S : Nat → Prop} {w w' : World} (h : Keeps S w w') {base : Nat} {e : TypeId} {size : Nat} {v : Value} {n : Nat} {xs : List Value} (hr : w.ownsRow base e size v n xs)
    (hs : ∀ k, v.ownBlock = some k → ¬ S k) : w'.ownsRow base e size v n xs := by
  refine ⟨hr.1, ?_⟩
  rcases hr.2 with hn | ⟨g, cap, cur, rfl, hb, hgg, rest⟩
  · exact .inl hn
  · exact .inr ⟨g, cap, cur, rfl, hb, h.heap hgg (hs g rfl), rest⟩

theorem lt_of_heap {w : World} {b : Nat} {o : Obj} (h : w.heap[b]? = some o) : b < w.heap.size := (Array.getElem?_eq_some_iff.1 h).1
theorem hid_true {p : Prop} [Decidable p] (h : p) : Hid (decide p = true) := by unfold Hid; simpa using h
theorem hid_false {p : Prop} [Decidable p] (h : ¬ p) : Hid (decide p = false) := by unfold Hid; simpa using h

/-! ### blocks of cells -/
theorem cell_of_blk {w : World} {b o : Nat} {cs : Array Value} {t : TypeId} (h : w.heap[b]? = some (.cells cs t (0, 0))) : w.cell? ⟨b, o, none⟩ = cs[o]? := cell_of_row w b o cs t (0, 0) h
theorem frozen_of_blk {w : World} {b o : Nat} {cs : Array Value} {t : TypeId} (h : w.heap[b]? = some (.cells cs t (0, 0))) : w.frozen? ⟨b, o, none⟩ = false := frozen_of_row w b o cs t h
theorem blk_set_same {w : World} {b o : Nat} {cs : Array Value} {t : TypeId} (h : w.heap[b]? = some (.cells cs t (0, 0))) (v : Value) :
    (w.setCell ⟨b, o, none⟩ v).heap[b]? = some (.cells (cs.setIfInBounds o v) t (0, 0)) := heap_setCell_same w b o cs t v h
theorem blk_set_ne {w : World} {b c o : Nat} (hne : c ≠ b) (v : Value) : (w.setCell ⟨b, o, none⟩ v).heap[c]? = w.heap[c]? := heap_setCell_other w ⟨b, o, none⟩ c v hne
theorem setCell_id {w : World} {b o : Nat} {v : Value} (h : w.cell? ⟨b, o, none⟩ = some v) : w.setCell ⟨b, o, none⟩ v = w := by
  have hh : (w.setCell ⟨b, o, none⟩ v).heap = w.heap := by
    apply Array.ext_getElem?
    intro k
    simp only [World.setCell, Array.getElem?_modify]
    split
    · rename_i hk
      subst hk
      cases hb : w.heap[b]? with
      | none => rfl
      | some x =>
        cases x <;> try rfl
        rename_i c t fr
        simp only [World.cell?, hb] at h
        simp at h
        simp only [Option.map_some, Option.isSome_none, Bool.false_eq_true, if_false, Option.some.injEq, Obj.cells.injEq, and_true]
        apply Array.ext_getElem?
        intro j
        rw [Array.getElem?_setIfInBounds]
        split
        · rename_i hj; subst hj
          obtain ⟨hlt, rfl⟩ := Array.getElem?_eq_some_iff.1 h
          simp [hlt]
        · rfl
    · rfl
  show ({ w with heap := (w.setCell ⟨b, o, none⟩ v).heap } : World) = w
  rw [hh]
theorem blk_drewN {w : World} {b n : Nat} : (w.drewN n).heap[b]? = w.heap[b]? := rfl

end Go.Proofs.YtjcgkmodmjckjaaGreat

/- Results that lie in memory: a struct beside plain results. Nothing here speaks of one program. -/
namespace Go.Proofs.YtjcgkmodmjckjaaGreat
open Go.RowKit

theorem pair_set {w : World} {B : Nat} {x y : Value} {T : TypeId} (h : w.heap[B]? = some (.cells #[x, y] T (0, 0))) (c n : Value) :
    ((w.setCell ⟨B, 0, none⟩ c).setCell ⟨B, 1, none⟩ n).heap[B]? = some (.cells #[c, n] T (0, 0)) := by
  rw [blk_set_same (blk_set_same h c)]; rfl

theorem keeps_pair {w : World} (B : Nat) (c n : Value) : Keeps (fun b => b = B) w ((w.setCell ⟨B, 0, none⟩ c).setCell ⟨B, 1, none⟩ n) :=
  ((Keeps.refl (fun b => b = B) w).setCell (p := ⟨B, 0, none⟩) (.inl rfl) _).setCell (p := ⟨B, 1, none⟩) (.inl rfl) _

section
variable {P : Program} {fn : Func} {ty : TypeId} (tmps : Array Value) (w : World) (g : Nat) (t : TypeId) (cs : Array Value) (fr : Nat × Nat) (d : TypeDesc)

theorem results_tmp_cell {s p : Tmp} (h : fn.results = #[.tmp s, .cell p ty]) (hp : tmps.getD p undef = .pointer (some ⟨g, 0, none⟩)) (hg : w.heap[g]? = some (.cells cs t fr))
    (hu : P.underlying ty = some d) (hd : (match d with | .struct _ | .array _ _ => true | _ => false) = true) (hi : (P.info? ty).map (·.size) = some cs.size) :
    (results fn tmps).run P w = .ok (.tuple #[tmps.getD s undef, .agg cs]) w := by
  have hp' : tmps[p]?.getD undef = .pointer (some ⟨g, 0, none⟩) := by simpa using hp
  simp [results, h, hp', asAddr, run_loadVar_row w g t ty cs fr d hg hu hd hi]

theorem results_cell_cell {ty2 : TypeId} {s p : Tmp} {g2 : Nat} {t2 : TypeId} {cs2 : Array Value} {fr2 : Nat × Nat} {d2 : TypeDesc} (h : fn.results = #[.cell s ty2, .cell p ty]) (hp : tmps.getD p undef = .pointer (some ⟨g, 0, none⟩)) (hg : w.heap[g]? = some (.cells cs t fr))
    (hu : P.underlying ty = some d) (hd : (match d with | .struct _ | .array _ _ => true | _ => false) = true) (hi : (P.info? ty).map (·.size) = some cs.size)
    (hp2 : tmps.getD s undef = .pointer (some ⟨g2, 0, none⟩)) (hg2 : w.heap[g2]? = some (.cells cs2 t2 fr2))
    (hu2 : P.underlying ty2 = some d2) (hd2 : (match d2 with | .struct _ | .array _ _ => true | _ => false) = true) (hi2 : (P.info? ty2).map (·.size) = some cs2.size) :
    (results fn tmps).run P w = .ok (.tuple #[.agg cs2, .agg cs]) w := by
  have hp' : tmps[p]?.getD undef = .pointer (some ⟨g, 0, none⟩) := by simpa using hp
  have hp2' : tmps[s]?.getD undef = .pointer (some ⟨g2, 0, none⟩) := by simpa using hp2
  simp [results, h, hp', hp2', asAddr, run_loadVar_row w g t ty cs fr d hg hu hd hi, run_loadVar_row w g2 t2 ty2 cs2 fr2 d2 hg2 hu2 hd2 hi2]

theorem results_tmp2_cell {s1 s2 p : Tmp} (h : fn.results = #[.tmp s1, .tmp s2, .cell p ty]) (hp : tmps.getD p undef = .pointer (some ⟨g, 0, none⟩)) (hg : w.heap[g]? = some (.cells cs t fr))
    (hu : P.underlying ty = some d) (hd : (match d with | .struct _ | .array _ _ => true | _ => false) = true) (hi : (P.info? ty).map (·.size) = some cs.size) :
    (results fn tmps).run P w = .ok (.tuple #[tmps.getD s1 undef, tmps.getD s2 undef, .agg cs]) w := by
  have hp' : tmps[p]?.getD undef = .pointer (some ⟨g, 0, none⟩) := by simpa using hp
  simp [results, h, hp', asAddr, run_loadVar_row w g t ty cs fr d hg hu hd hi]
end

theorem ownsRow_form1 {w : World} {base : Nat} {e : TypeId} {v : Value} {n : Nat} {xs : List Value} (h : w.ownsRow base e 1 v n xs) : ∃ ao cap, v = .slice ao n cap := by
  rcases h.2 with ⟨hv, h0⟩ | ⟨g, cap, cur, hv, _⟩
  · exact ⟨none, 0, by rw [hv, h0]⟩
  · exact ⟨_, cap, hv⟩

theorem ownsRow_mono {w : World} {base base' : Nat} {e : TypeId} {size : Nat} {v : Value} {n : Nat} {xs : List Value} (h : w.ownsRow base e size v n xs) (hb : base' ≤ base) : w.ownsRow base' e size v n xs := by
  refine ⟨h.1, ?_⟩
  rcases h.2 with h' | ⟨g, cap, cur, h1, h2, h3⟩
  · exact .inl h'
  · exact .inr ⟨g, cap, cur, h1, Nat.le_trans hb h2, h3⟩

end Go.Proofs.YtjcgkmodmjckjaaGreat

/- append, with one word more: the count of draws does not fall. Nothing here speaks of one program. -/
namespace Go.Proofs.YtjcgkmodmjckjaaGreat
open Go.RowKit

section
variable {P : Program} (w : World)

theorem append_drawn (base : Nat) (t ty e : TypeId) (i : TypeInfo) (z : Value) (size bytes : Nat) (ht : P.underlying t = some (.slice e)) (hi : P.info? e = some i) (hz : i.zero = some z)
    (hsize : i.size = size) (hby : i.bytes = bytes)
    (v : Value) (n : Nat) (xs : List Value) (hown : w.ownsRow base e size v n xs)
    (a : Addr) (m c : Nat) (news : List Value) (hl : news.length = m * size) (hnews : ∀ j u, news[j]? = some u → w.cell? (a.add j) = some u) (h1 : ∀ u ∈ news, u.oneCell' = true)
    (hm : 0 < m) (h63 : n + m ≤ maxLen) (hbytes : (n + m) * bytes ≤ 140737488355328)
    {v' : Value} {w' : World} (hr : (Builtin.append_ #[t, t] ty #[v, .slice (some a) m c]).run P w = .ok v' w') : w.drawn ≤ w'.drawn := by
  subst hsize
  subst hby
  have hsmall : n + m ≤ 9223372036854775807 := by simp only [maxLen] at h63; omega
  rcases hown.2 with ⟨rfl, rfl⟩ | ⟨g, cap, cur, rfl, hbg, hg, hnc, hcm, hcs, htake⟩
  · have hr' := run_append_nil (P := P) w t ty e i z ht hi hz a m c news hl hnews (by omega) (by omega) (by have hb := hbytes; simp only [Nat.zero_add] at hb; omega)
    rw [hr'] at hr
    cases hr
    show w.drawn ≤ w.drawn + 1
    omega
  · by_cases hroom : n + m ≤ cap
    · have hfit : n * i.size + news.length ≤ cur.size := by rw [hl, hcs, ← Nat.add_mul]; exact Nat.mul_le_mul_right _ hroom
      have hr' := run_append_room (P := P) w t ty e i ht hi g n cap cur hg a m c news hl hnews h1 hroom hfit
      rw [hr'] at hr
      cases hr
      exact Nat.le_refl _
    · have holds : ∀ j u, xs[j]? = some u → w.cell? ((⟨g, 0, none⟩ : Addr).add j) = some u := hown.cells (g := g) rfl
      have hr' := run_append_grow (P := P) w t ty e i z ht hi hz ⟨g, 0, none⟩ n cap xs hown.1 holds a m c news hl hnews (by omega) (by omega) (growslice_fits (by omega) hbytes)
      rw [hr'] at hr
      cases hr
      show w.drawn ≤ w.drawn + 1
      omega

theorem wp_append_d {o : Oper} {a : Act} {K : Act → World → Prop} {Q : Exit → Act → World → Prop} (s x : Operand) (t : TypeId)
    (ho : o.op = .call { callee := .builtin .append, args := #[s, x], argTypes := #[t, t] })
    (base : Nat) (e : TypeId) (i : TypeInfo) (z : Value) (size bytes : Nat) (ht : P.underlying t = some (.slice e)) (hi : P.info? e = some i) (hz : i.zero = some z)
    (hsize : i.size = size) (hby : i.bytes = bytes) (hzs : z.cells.size = size) (hsz : 0 < size)
    (v : Value) (n : Nat) (xs : List Value) (hs : a.eval s = v) (hown : w.ownsRow base e size v n xs)
    (ad : Addr) (m c : Nat) (news : List Value) (hx : a.eval x = .slice (some ad) m c) (hl : news.length = m * size) (hnews : ∀ j u, news[j]? = some u → w.cell? (ad.add j) = some u) (h1 : ∀ u ∈ news, u.oneCell' = true)
    (hm : 0 < m) (h63 : n + m ≤ maxLen) (hbytes : (n + m) * bytes ≤ 140737488355328) (hbase : base ≤ w.heap.size) (H : Nat) (hH : w.heap.size = H)
    (h : ∀ g cap w', w'.ownsRow base e size (.slice (some ⟨g, 0, none⟩) (n + m) cap) (n + m) (xs ++ news) → w.grownBy w' v.ownBlock → (v.ownBlock = some g ∨ g = H) → g < w'.heap.size → w.drawn ≤ w'.drawn → K (a.put o.dst (.slice (some ⟨g, 0, none⟩) (n + m) cap)) w') : o.wp P a w K Q := by
  obtain ⟨g, cap, w', hr, h2, h3, h4, h5⟩ := run_append_lies (P := P) w t o.type base e i z size bytes ht hi hz hsize hby hzs hsz v n xs hown ad m c news hl hnews h1 hm h63 hbytes hbase H hH
  have hd := append_drawn (P := P) w base t o.type e i z size bytes ht hi hz hsize hby v n xs hown ad m c news hl hnews h1 hm h63 hbytes hr
  unfold Oper.wp execOp
  simp only [ho, resolve, invoke, builtin, Sem.run_bind, Sem.run_pure, Result.andThen_ok, List.map_toArray, List.map_cons, List.map_nil, hs, hx, hr]
  exact h g cap w' h2 h3 h4 h5 hd

variable {w}
theorem wpList_append_d {ops : Array Oper} {rest : List Oper} {o : Oper} {a : Act} {Q : Exit → Act → World → Prop} (hgd : o.guard = none) (s x : Operand) (t : TypeId)
    (ho : o.op = .call { callee := .builtin .append, args := #[s, x], argTypes := #[t, t] })
    (base : Nat) (e : TypeId) (i : TypeInfo) (z : Value) (size bytes : Nat) (ht : P.underlying t = some (.slice e)) (hi : P.info? e = some i) (hz : i.zero = some z)
    (hsize : i.size = size) (hby : i.bytes = bytes) (hzs : z.cells.size = size) (hsz : 0 < size)
    (v : Value) (n : Nat) (xs : List Value) (hs : a.eval s = v) (hown : w.ownsRow base e size v n xs)
    (ad : Addr) (m c : Nat) (news : List Value) (hx : a.eval x = .slice (some ad) m c) (hl : news.length = m * size) (hnews : ∀ j u, news[j]? = some u → w.cell? (ad.add j) = some u) (h1 : ∀ u ∈ news, u.oneCell' = true)
    (hm : 0 < m) (h63 : n + m ≤ maxLen) (hbytes : (n + m) * bytes ≤ 140737488355328) (hbase : base ≤ w.heap.size) (H : Nat) (hH : w.heap.size = H)
    (h : ∀ g cap w', w'.ownsRow base e size (.slice (some ⟨g, 0, none⟩) (n + m) cap) (n + m) (xs ++ news) → w.grownBy w' v.ownBlock → (v.ownBlock = some g ∨ g = H) → g < w'.heap.size → w.drawn ≤ w'.drawn → wpList P ops Q rest (a.put o.dst (.slice (some ⟨g, 0, none⟩) (n + m) cap)) w') : wpList P ops Q (o :: rest) a w :=
  wpList_plain hgd fun _ hK => wp_append_d w s x t ho base e i z size bytes ht hi hz hsize hby hzs hsz v n xs hs hown ad m c news hx hl hnews h1 hm h63 hbytes hbase H hH fun g cap w' h2 h3 h4 h5 h6 => hK _ _ (h g cap w' h2 h3 h4 h5 h6)
end

/-- A world that keeps all and has drawn no less is the elder one, grown. -/
theorem grow_of_keeps {w w' : World} (h : Keeps (fun _ => False) w w') (hd : w.drawn ≤ w'.drawn) : ∃ q os, w' = { (w.drewN q) with heap := w.heap ++ os } := by
  refine ⟨w'.drawn - w.drawn, w'.heap.extract w.heap.size w'.heap.size, ?_⟩
  have hh : w'.heap = w.heap ++ w'.heap.extract w.heap.size w'.heap.size := by
    apply Array.ext_getElem?
    intro k
    rw [Array.getElem?_append]
    split
    · rename_i hk
      exact h.block k hk (fun h => h)
    · rename_i hk
      rw [Array.getElem?_extract]
      have hs := h.size
      split
      · congr 1; omega
      · exact Array.getElem?_eq_none (by omega)
  have e1 := h.os; have e2 := h.tape; have e3 := h.output
  cases w'; cases w
  simp only [World.drewN] at *
  subst e1 e2 e3
  simp only [World.mk.injEq, and_true, true_and]
  exact ⟨hh, by omega⟩

end Go.Proofs.YtjcgkmodmjckjaaGreat

/- Regions that draw their order: loads may be taken first although a late store writes their cells. Nothing here speaks of one program.
   S is asked behind an operation only where that operation does not itself wait for all of the loads in L. -/
namespace Go.Proofs.YtjcgkmodmjckjaaGreat

section
variable {P : Program} {ops : Array Oper} {Q : Exit → Act → World → Prop} {md : Region.Mode} {S : World → Prop} {L : List Nat}

def lateB (md : Region.Mode) (ops : Array Oper) (L : List Nat) (j : Nat) : Bool := L.all fun i => Region.waitsFor md ops j i

theorem not_late {i j : Nat} {oj : Oper} (hi : i ∈ L) (hj : ops[j]? = some oj) (hno : ∀ e ∈ oj.after, Region.binds md e = true → e.on ≠ i) : lateB md ops L j = false := by
  cases h : lateB md ops L j with
  | false => rfl
  | true =>
    have h1 := List.all_eq_true.1 h i hi
    obtain ⟨oj', hj', e, he, hb, hon⟩ := Region.waitsFor_spec h1
    have : oj' = oj := Option.some.inj (hj'.symm.trans hj)
    subst this
    exact absurd hon (hno e he hb)

def wpAnyL (P : Program) (md : Region.Mode) (ops : Array Oper) (Q : Exit → Act → World → Prop) (S : World → Prop) (L : List Nat) : Nat → Array Bool → Act → World → Prop
  | 0, listed, a, w => Region.ready md ops listed = [] ∧ Q .normal a w
  | fuel + 1, listed, a, w =>
    (Region.ready md ops listed = [] → Q .normal a w) ∧
    ∀ i ∈ Region.ready md ops listed, wpOp P ops Q i (fun a' w' => (lateB md ops L i = false → S w') ∧ wpAnyL P md ops Q S L fuel (listed.setIfInBounds i true) a' w') a w

theorem wpAny_of_L : ∀ (fuel : Nat) (listed : Array Bool) (a : Act) (w : World), wpAnyL P md ops Q S L fuel listed a w → wpAny P md ops Q fuel listed a w
  | 0, _, _, _, h => h
  | fuel + 1, _, _, _, h => ⟨h.1, fun i hi => wpOp_mono (fun a' w' h' => wpAny_of_L fuel _ a' w' h'.2) (h.2 i hi)⟩

/-- One of L, or an operation that yields in whatever world, may be taken first. -/
theorem wpAnyL_first {i : Nat} {oi : Oper} {v : Value} (hi : ops[i]? = some oi) (hL : i ∈ L) (hsel : ∀ (j : Nat) (o : Oper) cs b, ops[j]? = some o → o.op ≠ .select cs b)
    (hQ : ∀ c a w, Q (.panic c) (a.put oi.dst v) w → Q (.panic c) a w) :
    ∀ (fuel : Nat) (listed : Array Bool) (a : Act) (w : World),
      (∀ j oj, ops[j]? = some oj → j ≠ i → listed.getD j true = false → (∀ e ∈ oj.after, Region.binds md e = true → e.on ≠ i) → oi.apart ops oj = true) →
      i ∈ Region.ready md ops listed → YieldsIf P ops S oi v a → S w →
      wpAnyL P md ops Q S L fuel (listed.setIfInBounds i true) (a.put oi.dst v) w → wpAnyL P md ops Q S L (fuel + 1) listed a w := by
  intro fuel
  induction fuel with
  | zero =>
    intro listed a w _ hr hy hS H
    refine ⟨fun h => (by rw [h] at hr; cases hr), fun j hj => ?_⟩
    by_cases hji : j = i
    · subst hji; exact hy.wpOp hi hS ⟨fun _ => hS, H⟩
    · have := ready_mono hj hji
      rw [H.1] at this
      cases this
  | succ fuel ih =>
    intro listed a w hfree hr hy hS H
    refine ⟨fun h => (by rw [h] at hr; cases hr), fun j hj => ?_⟩
    by_cases hji : j = i
    · subst hji; exact hy.wpOp hi hS ⟨fun _ => hS, H⟩
    · have h1 := H.2 j (ready_mono hj hji)
      obtain ⟨hjun, oj, hoj, hall⟩ := mem_ready.1 hj
      have hnot : ∀ e ∈ oj.after, Region.binds md e = true → e.on ≠ i := fun e he hb heq => by
        have h1 := hall e he hb
        have h0 := (mem_ready.1 hr).1
        rw [heq] at h1
        rcases Nat.lt_or_ge i listed.size with h' | h'
        · simp [h'] at h0 h1; rw [h0] at h1; cases h1
        · simp [Array.getElem?_eq_none h'] at h1
      have hl := not_late hL hoj hnot
      have h2 := wpOp_putIf hoj (hfree j oj hoj hji hjun hnot) (fun cs b => hsel i oi cs b hi) (fun cs b => hsel j oj cs b hoj) hQ hy h1
      have hfree' : ∀ k ok, ops[k]? = some ok → k ≠ i → (listed.setIfInBounds j true).getD k true = false →
          (∀ e ∈ ok.after, Region.binds md e = true → e.on ≠ i) → oi.apart ops ok = true := fun k ok hk hki hun hno => by
        refine hfree k ok hk hki ?_ hno
        by_cases hjk : j = k
        · subst hjk; exact hjun
        · rw [getD_set_ne true hjk] at hun; exact hun
      refine wpOp_mono (fun a' w' h3 => ⟨fun _ => h3.2.1 hl, ih (listed.setIfInBounds j true) a' w' hfree' (ready_mono hr (Ne.symm hji)) h3.1 (h3.2.1 hl) ?_⟩) h2
      rw [Array.setIfInBounds_comm _ _ hji]
      exact h3.2.2

theorem wpAnyL_take {i : Nat} {oi : Oper} {v : Value} {fuel : Nat} {listed : Array Bool} {a : Act} {w : World} (hi : ops[i]? = some oi) (hL : i ∈ L)
    (hs : Region.noSelect ops = true) (hf : Region.free md ops listed i = true) (hr : (Region.ready md ops listed).contains i = true)
    (hQ : ∀ c a w, Q (.panic c) (a.put oi.dst v) w → Q (.panic c) a w) (hw : Region.wanted oi (yielded ops a.tmps) = true) (hy : ∀ w, S w → (execOp a.eval oi).run P w = .ok (.value v) w) (hS : S w)
    (h : wpAnyL P md ops Q S L fuel (listed.setIfInBounds i true) (a.put oi.dst v) w) : wpAnyL P md ops Q S L (fuel + 1) listed a w :=
  wpAnyL_first hi hL (Region.noSelect_spec hs) hQ fuel listed a w (Region.free_spec hi hf) (by simpa using hr) (.inl ⟨hw, hy⟩) hS h

/-- One alone may come up, and it is none of the late ones. -/
theorem wpAnyL_one {i : Nat} {oi : Oper} {fuel : Nat} {listed : Array Bool} {a : Act} {w : World} (hi : ops[i]? = some oi) (hr : Region.ready md ops listed = [i])
    (h : ∀ K : Act → World → Prop, (∀ a' w', S w' → wpAnyL P md ops Q S L fuel (listed.setIfInBounds i true) a' w' → K a' w') → if Region.wanted oi (yielded ops a.tmps) = true then Oper.wp P oi a w K Q else K (a.put oi.dst undef) w) : wpAnyL P md ops Q S L (fuel + 1) listed a w := by
  refine ⟨fun h0 => (by rw [hr] at h0; cases h0), fun j hj => ?_⟩
  rw [hr] at hj
  simp at hj
  subst hj
  have := h (fun a' w' => (lateB md ops L j = false → S w') ∧ wpAnyL P md ops Q S L fuel (listed.setIfInBounds j true) a' w') (fun a' w' hS hk => ⟨fun _ => hS, hk⟩)
  unfold wpOp
  simp only [hi]
  split
  · rename_i hw
    rw [if_pos hw] at this
    exact .inl this
  · rename_i hw
    rw [if_neg hw] at this
    exact this

/-- One alone may come up, and it is a late one. -/
theorem wpAnyL_late {i : Nat} {oi : Oper} {fuel : Nat} {listed : Array Bool} {a : Act} {w : World} (hi : ops[i]? = some oi) (hr : Region.ready md ops listed = [i]) (hl : lateB md ops L i = true)
    (h : ∀ K : Act → World → Prop, (∀ a' w', wpAnyL P md ops Q S L fuel (listed.setIfInBounds i true) a' w' → K a' w') → if Region.wanted oi (yielded ops a.tmps) = true then Oper.wp P oi a w K Q else K (a.put oi.dst undef) w) : wpAnyL P md ops Q S L (fuel + 1) listed a w := by
  refine ⟨fun h0 => (by rw [hr] at h0; cases h0), fun j hj => ?_⟩
  rw [hr] at hj
  simp at hj
  subst hj
  have := h (fun a' w' => (lateB md ops L j = false → S w') ∧ wpAnyL P md ops Q S L fuel (listed.setIfInBounds j true) a' w') (fun a' w' hk => ⟨fun hf => (by rw [hl] at hf; cases hf), hk⟩)
  unfold wpOp
  simp only [hi]
  split
  · rename_i hw
    rw [if_pos hw] at this
    exact .inl this
  · rename_i hw
    rw [if_neg hw] at this
    exact this

theorem wpAnyL_done {listed : Array Bool} {a : Act} {w : World} (hr : Region.ready md ops listed = []) (h : Q .normal a w) :
    ∀ fuel, wpAnyL P md ops Q S L fuel listed a w
  | 0 => ⟨hr, h⟩
  | _ + 1 => ⟨fun _ => h, by rw [hr]; simp⟩

theorem wp_region_L {id : Nat} {a : Act} {w : World} (hm : P.follows .mixedOrders = true) (S : World → Prop) (L : List Nat)
    (h : wpAnyL P .any ops Q S L ops.size (Array.replicate ops.size false) a w.drew) : (Code.region id ops true).wp P Q a w :=
  wp_region_any hm (wpAny_of_L _ _ _ _ h)

end
end Go.Proofs.YtjcgkmodmjckjaaGreat

/- Maps with integer keys: the block reads as a list of pairs; look-up, store, delete, at the run and at the operation. Nothing here speaks of one program. -/
namespace Go.Proofs.YtjcgkmodmjckjaaGreat
open Go.RowKit

/-- Block b is a map with the keys and values of l, in the order of l. -/
def IMap (w : World) (b : Nat) (kd : IntKind) (l : List (Int × Value)) : Prop :=
  ∃ es clock, w.heap[b]? = some (.map es clock) ∧ es.toList.map (fun e => (e.key, e.val)) = l.map (fun p => (Value.int kd p.1, p.2))

theorem IMap.keeps {S : Nat → Prop} {w w' : World} {b : Nat} {kd : IntKind} {l : List (Int × Value)} (h : IMap w b kd l) (hk : Keeps S w w') (hs : ¬ S b) : IMap w' b kd l := by
  obtain ⟨es, c, hb, he⟩ := h
  exact ⟨es, c, hk.heap hb hs, he⟩
theorem IMap.lt {w : World} {b : Nat} {kd : IntKind} {l : List (Int × Value)} (h : IMap w b kd l) : b < w.heap.size := by
  obtain ⟨es, c, hb, he⟩ := h; exact lt_of_heap hb
theorem IMap.alloc {w : World} {b : Nat} {kd : IntKind} {l : List (Int × Value)} (h : IMap w b kd l) (o : Obj) : IMap (w.alloc o) b kd l := h.keeps ((Keeps.refl (fun _ => False) w).alloc o) (fun h => h)
theorem IMap.drewN {w : World} {b : Nat} {kd : IntKind} {l : List (Int × Value)} (h : IMap w b kd l) (n : Nat) : IMap (w.drewN n) b kd l := h
theorem IMap.made (w : World) (kd : IntKind) : IMap (w.alloc (.map #[] 0)) w.heap.size kd [] := ⟨#[], 0, MapKept.heap_alloc w _ |>.1, by simp⟩

theorem findNow_none {kd : IntKind} {x : Int} : ∀ {es : List MapEntry} {l : List (Int × Value)} (i : Nat), es.map (fun e => (e.key, e.val)) = l.map (fun p => (Value.int kd p.1, p.2)) → (∀ p ∈ l, p.1 ≠ x) →
    Instr.findNow (.int kd) (.int kd x) es i = some none
  | [], _, _, _, _ => rfl
  | e :: es, [], _, h, _ => by simp at h
  | e :: es, p :: l, i, h, hx => by
    simp only [List.map_cons, List.cons.injEq, Prod.mk.injEq] at h
    obtain ⟨⟨h1, h2⟩, h3⟩ := h
    have hp : p.1 ≠ x := hx p (by simp)
    have : Instr.sameNow (.int kd) (.int kd x) e.key = some false := by rw [h1]; simp [Instr.sameNow]; omega
    simp only [Instr.findNow, this]
    exact findNow_none (i + 1) h3 (fun q hq => hx q (by simp [hq]))

theorem findNow_some {kd : IntKind} {x : Int} {v : Value} : ∀ {es : List MapEntry} {l : List (Int × Value)} (i j : Nat), es.map (fun e => (e.key, e.val)) = l.map (fun p => (Value.int kd p.1, p.2)) → l[j]? = some (x, v) → (∀ k p, k < j → l[k]? = some p → p.1 ≠ x) →
    Instr.findNow (.int kd) (.int kd x) es i = some (some (i + j, v))
  | [], l, _, _, h, hj, _ => by
    have : l = [] := by simpa using h.symm
    subst this; simp at hj
  | e :: es, [], _, _, h, _, _ => by simp at h
  | e :: es, p :: l, i, 0, h, hj, _ => by
    simp only [List.map_cons, List.cons.injEq, Prod.mk.injEq] at h
    obtain ⟨⟨h1, h2⟩, h3⟩ := h
    simp at hj
    subst hj
    have : Instr.sameNow (.int kd) (.int kd x) e.key = some true := by rw [h1]; simp [Instr.sameNow]
    simp only [Instr.findNow, this, h2]; rfl
  | e :: es, p :: l, i, j + 1, h, hj, hx => by
    simp only [List.map_cons, List.cons.injEq, Prod.mk.injEq] at h
    obtain ⟨⟨h1, h2⟩, h3⟩ := h
    have hp : p.1 ≠ x := hx 0 p (by omega) rfl
    have : Instr.sameNow (.int kd) (.int kd x) e.key = some false := by rw [h1]; simp [Instr.sameNow]; omega
    simp only [Instr.findNow, this]
    rw [findNow_some (i + 1) j h3 (by simpa using hj) (fun k q hk hq => hx (k + 1) q (by omega) (by simpa using hq))]
    rw [show i + 1 + j = i + (j + 1) by omega]

theorem firstOf {l : List (Int × Value)} (hn : (l.map Prod.fst).Nodup) {j : Nat} {x : Int} {v : Value} (hj : l[j]? = some (x, v)) : ∀ k p, k < j → l[k]? = some p → p.1 ≠ x := by
  intro k p hk hp e
  have h1 : (l.map Prod.fst)[k]? = some x := by rw [List.getElem?_map, hp]; simp [e]
  have h2 : (l.map Prod.fst)[j]? = some x := by rw [List.getElem?_map, hj]; rfl
  have lj : j < (l.map Prod.fst).length := (List.getElem?_eq_some_iff.1 h2).1
  have := (List.getElem?_inj (by omega) hn).1 (h1.trans h2.symm)
  omega

section
variable {P : Program} {w : World} {b : Nat} {kd : IntKind} {l : List (Int × Value)} {t k e : TypeId}

theorem run_checkKey_int' (hk : P.underlying k = some (.int kd)) (em : Bool) (n : Nat) (x : Int) (w : World) : (Instr.checkKey em (n + 1) k (.int kd x)).run P w = .ok () w := by
  simp [Instr.checkKey, run_underlying hk]
theorem run_checkKey_int (hk : P.underlying k = some (.int kd)) (em : Bool) (x : Int) (w : World) : (Instr.checkKey em 10000 k (.int kd x)).run P w = .ok () w := run_checkKey_int' hk em 9999 x w

theorem run_findKey_none (hk : P.underlying k = some (.int kd)) {es : List MapEntry} (h : es.map (fun e => (e.key, e.val)) = l.map (fun p => (Value.int kd p.1, p.2))) {x : Int} (hx : ∀ p ∈ l, p.1 ≠ x) :
    (Instr.findKey k (.int kd x) es).run P w = .ok none w := by
  simp [Instr.findKey, run_underlying hk, findNow_none 0 h hx]

theorem run_findKey_some (hk : P.underlying k = some (.int kd)) (hn : (l.map Prod.fst).Nodup) {es : List MapEntry} (h : es.map (fun e => (e.key, e.val)) = l.map (fun p => (Value.int kd p.1, p.2))) {x : Int} {v : Value} {j : Nat} (hj : l[j]? = some (x, v)) :
    (Instr.findKey k (.int kd x) es).run P w = .ok (some (j, v)) w := by
  simp [Instr.findKey, run_underlying hk, findNow_some 0 j h hj (firstOf hn hj)]

theorem IMap.run_lookup_hit (h : IMap w b kd l) (ht : P.underlying t = some (.map k e)) (hk : P.underlying k = some (.int kd)) (hn : (l.map Prod.fst).Nodup) {x : Int} {v : Value} (hx : (x, v) ∈ l) :
    (Instr.lookup t (.map (some b)) (.int kd x) true).run P w = .ok (.tuple #[v, .bool true]) w ∧ (Instr.lookup t (.map (some b)) (.int kd x) false).run P w = .ok v w := by
  obtain ⟨es, c, hb, he⟩ := h
  obtain ⟨j, hj⟩ := List.mem_iff_getElem?.1 hx
  have hf := run_findKey_some (P := P) (w := w) hk hn he hj
  constructor <;> simp [Instr.lookup, run_underlying ht, MapKept.run_getObj_map hb, run_checkKey_int hk, hf, Result.andThen]

theorem IMap.run_lookup_miss (h : IMap w b kd l) (ht : P.underlying t = some (.map k e)) (hk : P.underlying k = some (.int kd)) {z : Value} (hz : (zeroValue e).run P w = .ok z w) {x : Int} (hx : ∀ p ∈ l, p.1 ≠ x) :
    (Instr.lookup t (.map (some b)) (.int kd x) true).run P w = .ok (.tuple #[z, .bool false]) w ∧ (Instr.lookup t (.map (some b)) (.int kd x) false).run P w = .ok z w := by
  obtain ⟨es, c, hb, he⟩ := h
  have hf := run_findKey_none (P := P) (w := w) hk he hx
  constructor <;> simp [Instr.lookup, run_underlying ht, MapKept.run_getObj_map hb, run_checkKey_int hk, hf, hz, Result.andThen]

theorem keeps_setObj (w : World) (b : Nat) (o : Obj) : Keeps (fun k => k = b) w { w with heap := w.heap.setIfInBounds b o } :=
  ⟨rfl, rfl, rfl, by simp, fun k _ hk => by simp only [Array.getElem?_setIfInBounds]; rw [if_neg (fun e => hk e.symm)]⟩

theorem heap_setObj {w : World} {b : Nat} {o o' : Obj} (h : w.heap[b]? = some o') : ({ w with heap := w.heap.setIfInBounds b o } : World).heap[b]? = some o := by
  have := lt_of_heap h
  simp [this]

theorem IMap.run_update_new (h : IMap w b kd l) (ht : P.underlying t = some (.map k e)) (hk : P.underlying k = some (.int kd)) {x : Int} (hx : ∀ p ∈ l, p.1 ≠ x) (v : Value) :
    ∃ w', (Instr.mapUpdate t (.map (some b)) (.int kd x) v).run P w = .ok () w' ∧ IMap w' b kd (l ++ [(x, v)]) ∧ Keeps (fun k => k = b) w w' := by
  obtain ⟨es, c, hb, he⟩ := h
  have hf := run_findKey_none (P := P) (w := w) hk he hx
  refine ⟨{ w with heap := w.heap.setIfInBounds b (.map (es.push { key := .int kd x, val := v, born := c }) (c + 1)) }, ?_, ⟨_, _, heap_setObj hb, ?_⟩, keeps_setObj _ _ _⟩
  · simp [Instr.mapUpdate, run_underlying ht, MapKept.run_getObj_map hb, run_checkKey_int hk, hf, MapKept.run_setObj_map _ hb, Result.andThen]
  · simp [he]

theorem IMap.run_update_old (h : IMap w b kd l) (ht : P.underlying t = some (.map k e)) (hk : P.underlying k = some (.int kd)) (hn : (l.map Prod.fst).Nodup) {x : Int} {u : Value} {j : Nat} (hj : l[j]? = some (x, u)) (v : Value) :
    ∃ w', (Instr.mapUpdate t (.map (some b)) (.int kd x) v).run P w = .ok () w' ∧ IMap w' b kd (l.set j (x, v)) ∧ Keeps (fun k => k = b) w w' := by
  obtain ⟨es, c, hb, he⟩ := h
  have hf := run_findKey_some (P := P) (w := w) hk hn he hj
  have lj : j < l.length := (List.getElem?_eq_some_iff.1 hj).1
  have ls : es.size = l.length := by have := congrArg List.length he; simpa using this
  have hkey : ((es[j]?).map (·.key)).getD (.int kd x) = .int kd x := by
    have : (es.toList.map (fun e => (e.key, e.val)))[j]? = some (.int kd x, u) := by rw [he, List.getElem?_map, hj]; rfl
    rw [List.getElem?_map] at this
    simp at this
    obtain ⟨a, ha, hb, hc⟩ := this
    simp [ha, hb]
  have hstay : (Instr.keyThatStays (.int kd x) (.int kd x)).run P w = .ok (.int kd x) w := by
    have : Instr.sameBits (9999 + 1) (.int kd x) (.int kd x) = true := by simp [Instr.sameBits]
    unfold Instr.keyThatStays
    rw [if_pos this]; rfl
  refine ⟨{ w with heap := w.heap.setIfInBounds b (.map (es.modify j fun e => { e with key := .int kd x, val := v }) c) }, ?_, ⟨_, _, heap_setObj hb, ?_⟩, keeps_setObj _ _ _⟩
  · simp [Instr.mapUpdate, run_underlying ht, MapKept.run_getObj_map hb, run_checkKey_int hk, hf, hkey, hstay, MapKept.run_setObj_map _ hb, Result.andThen]
  · apply List.ext_getElem?
    intro i
    have hi : (es.toList.map (fun e => (e.key, e.val)))[i]? = (l.map (fun p => (Value.int kd p.1, p.2)))[i]? := by rw [he]
    simp only [List.getElem?_map, Array.getElem?_toList] at hi ⊢
    rw [Array.getElem?_modify, List.getElem?_set]
    by_cases hij : j = i
    · subst hij
      simp [lj]
      exact ⟨_, Array.getElem?_eq_getElem (by omega)⟩
    · simp [hij]
      simpa using hi

theorem IMap.run_delete (h : IMap w b kd l) (ht : P.underlying t = some (.map k e)) (hk : P.underlying k = some (.int kd)) (hn : (l.map Prod.fst).Nodup) (ty t2 : TypeId) (x : Int) :
    ∃ w', (Builtin.delete_ #[t, t2] ty #[.map (some b), .int kd x]).run P w = .ok (.tuple #[]) w' ∧ IMap w' b kd (l.filter fun p => p.1 != x) ∧ Keeps (fun k => k = b) w w' := by
  obtain ⟨es, c, hb, he⟩ := h
  by_cases hx : ∃ v, (x, v) ∈ l
  · obtain ⟨v, hv⟩ := hx
    obtain ⟨j, hj⟩ := List.mem_iff_getElem?.1 hv
    have hf := run_findKey_some (P := P) (w := w) hk hn he hj
    have lj : j < l.length := (List.getElem?_eq_some_iff.1 hj).1
    have ls : es.size = l.length := by have := congrArg List.length he; simpa using this
    have hfl : l.filter (fun p => p.1 != x) = l.eraseIdx j := by
      have hl : l = l.take j ++ (x, v) :: l.drop (j + 1) := by
        have := List.getElem_cons_drop (h := lj)
        rw [(List.getElem?_eq_some_iff.1 hj).2] at this
        rw [this, List.take_append_drop]
      have hne : ∀ i, i ≠ j → ∀ p, l[i]? = some p → p.1 ≠ x := by
        intro i hij p hp e
        have h1 : (l.map Prod.fst)[i]? = some x := by rw [List.getElem?_map, hp]; simp [e]
        have h2 : (l.map Prod.fst)[j]? = some x := by rw [List.getElem?_map, hj]; rfl
        have li : i < (l.map Prod.fst).length := (List.getElem?_eq_some_iff.1 h1).1
        exact hij ((List.getElem?_inj li hn).1 (h1.trans h2.symm))
      have ht1 : (l.take j).filter (fun p => p.1 != x) = l.take j := by
        rw [List.filter_eq_self]
        intro p hp
        obtain ⟨i, hi⟩ := List.mem_iff_getElem?.1 hp
        rw [List.getElem?_take] at hi
        split at hi
        · simpa using hne i (by omega) p hi
        · cases hi
      have ht2 : (l.drop (j + 1)).filter (fun p => p.1 != x) = l.drop (j + 1) := by
        rw [List.filter_eq_self]
        intro p hp
        obtain ⟨i, hi⟩ := List.mem_iff_getElem?.1 hp
        rw [List.getElem?_drop] at hi
        simpa using hne (j + 1 + i) (by omega) p hi
      conv => lhs; rw [hl]
      rw [List.filter_append, List.filter_cons, ht1, ht2, List.eraseIdx_eq_take_drop_succ]
      simp
    refine ⟨{ w with heap := w.heap.setIfInBounds b (.map (es.eraseIdxIfInBounds j) c) }, ?_, ⟨_, _, heap_setObj hb, ?_⟩, keeps_setObj _ _ _⟩
    · simp [Builtin.delete_, run_underlying ht, MapKept.run_getObj_map hb, run_checkKey_int hk, hf, MapKept.run_setObj_map _ hb, Result.andThen]
    · rw [hfl]
      have e1 : (es.eraseIdxIfInBounds j).toList = es.toList.eraseIdx j := by
        unfold Array.eraseIdxIfInBounds
        rw [dif_pos (by omega)]
        simp
      rw [e1]
      have e2 : ∀ {α β : Type} (f : α → β) (l : List α) (j : Nat), (l.eraseIdx j).map f = (l.map f).eraseIdx j := by
        intro α β f l j
        rw [List.eraseIdx_eq_take_drop_succ, List.eraseIdx_eq_take_drop_succ]
        simp
      rw [e2, e2, he]
  · have hx' : ∀ p ∈ l, p.1 ≠ x := fun p hp e => hx ⟨p.2, by rw [← e]; exact hp⟩
    have hf := run_findKey_none (P := P) (w := w) hk he hx'
    refine ⟨{ w with heap := w.heap.setIfInBounds b (.map es c) }, ?_, ⟨_, _, heap_setObj hb, ?_⟩, keeps_setObj _ _ _⟩
    · simp [Builtin.delete_, run_underlying ht, MapKept.run_getObj_map hb, run_checkKey_int hk, hf, MapKept.run_setObj_map _ hb, Result.andThen]
    · rw [he]; congr 1; symm; rw [List.filter_eq_self]; intro p hp; simpa using hx' p hp
end

/-! ### at the operation -/
section
variable {P : Program} {w : World} {ops : Array Oper} {rest : List Oper} {o : Oper} {a : Act} {Q : Exit → Act → World → Prop} {b : Nat} {kd : IntKind} {l : List (Int × Value)} {k e : TypeId}

theorem wpList_ilookup_hit (hg : o.guard = none) (m x : Operand) (t : TypeId) (ok : Bool) (hop : o.op = Op.lookup t m x ok) (ht : P.underlying t = some (.map k e)) (hk : P.underlying k = some (.int kd))
    (h : IMap w b kd l) (hn : (l.map Prod.fst).Nodup) (n : Int) (v : Value) (hm : a.eval m = .map (some b)) (hx : a.eval x = .int kd n) (hv : (n, v) ∈ l)
    (hK : wpList P ops Q rest (a.put o.dst (if ok then .tuple #[v, .bool true] else v)) w) : wpList P ops Q (o :: rest) a w := by
  refine wpList_plain hg fun K' hK' => ?_
  have hr := h.run_lookup_hit ht hk hn hv
  unfold Oper.wp
  cases ok <;> simp [execOp, hop, hm, hx, hr.1, hr.2, Result.andThen] <;> exact hK' _ _ hK

theorem wpList_ilookup_miss (hg : o.guard = none) (m x : Operand) (t : TypeId) (ok : Bool) (hop : o.op = Op.lookup t m x ok) (ht : P.underlying t = some (.map k e)) (hk : P.underlying k = some (.int kd))
    (h : IMap w b kd l) {z : Value} (hz : (zeroValue e).run P w = .ok z w) (n : Int) (hm : a.eval m = .map (some b)) (hx : a.eval x = .int kd n) (hv : ∀ p ∈ l, p.1 ≠ n)
    (hK : wpList P ops Q rest (a.put o.dst (if ok then .tuple #[z, .bool false] else z)) w) : wpList P ops Q (o :: rest) a w := by
  refine wpList_plain hg fun K' hK' => ?_
  have hr := h.run_lookup_miss ht hk hz hv
  unfold Oper.wp
  cases ok <;> simp [execOp, hop, hm, hx, hr.1, hr.2, Result.andThen] <;> exact hK' _ _ hK

theorem wpList_ilookup_ok_hit (hg : o.guard = none) (m x : Operand) (t : TypeId) (hop : o.op = Op.lookup t m x true) (ht : P.underlying t = some (.map k e)) (hk : P.underlying k = some (.int kd))
    (h : IMap w b kd l) (hn : (l.map Prod.fst).Nodup) (n : Int) (v : Value) (hm : a.eval m = .map (some b)) (hx : a.eval x = .int kd n) (hv : (n, v) ∈ l)
    (hK : wpList P ops Q rest (a.put o.dst (.tuple #[v, .bool true])) w) : wpList P ops Q (o :: rest) a w :=
  wpList_ilookup_hit hg m x t true hop ht hk h hn n v hm hx hv hK
theorem wpList_ilookup_ok_miss (hg : o.guard = none) (m x : Operand) (t : TypeId) (hop : o.op = Op.lookup t m x true) (ht : P.underlying t = some (.map k e)) (hk : P.underlying k = some (.int kd))
    (h : IMap w b kd l) {z : Value} (hz : (zeroValue e).run P w = .ok z w) (n : Int) (hm : a.eval m = .map (some b)) (hx : a.eval x = .int kd n) (hv : ∀ p ∈ l, p.1 ≠ n)
    (hK : wpList P ops Q rest (a.put o.dst (.tuple #[z, .bool false])) w) : wpList P ops Q (o :: rest) a w :=
  wpList_ilookup_miss hg m x t true hop ht hk h hz n hm hx hv hK

theorem wpList_iupdate_new (hg : o.guard = none) (m x v : Operand) (t : TypeId) (hop : o.op = Op.mapUpdate t m x v) (ht : P.underlying t = some (.map k e)) (hk : P.underlying k = some (.int kd))
    (h : IMap w b kd l) (n : Int) (u : Value) (hm : a.eval m = .map (some b)) (hx : a.eval x = .int kd n) (hu : a.eval v = u) (hv : ∀ p ∈ l, p.1 ≠ n)
    (hK : ∀ w', IMap w' b kd (l ++ [(n, u)]) → Keeps (fun k => k = b) w w' → wpList P ops Q rest (a.put o.dst undef) w') : wpList P ops Q (o :: rest) a w := by
  refine wpList_plain hg fun K' hK' => ?_
  obtain ⟨w', hrun, r1, r2⟩ := h.run_update_new ht hk hv u
  unfold Oper.wp
  simp [execOp, hop, hm, hx, hu, hrun, Result.andThen]
  exact hK' _ _ (hK w' r1 r2)

end

end Go.Proofs.YtjcgkmodmjckjaaGreat

/- Loops over iterators inside other loops: the marks among the deferred calls; steadiness of what an invariant says. Nothing here speaks of one program. -/
namespace Go.Proofs.YtjcgkmodmjckjaaGreat
open Go.RowKit

def mark (D : Nat) : Deferred := { target := .collected D, args := #[] }

theorem marks_inj : ∀ {a b : List Nat}, a.map mark = b.map mark → a = b
  | [], [], _ => rfl
  | [], _ :: _, h => by cases h
  | _ :: _, [], h => by cases h
  | x :: r, y :: s, h => by
    rw [List.map_cons, List.map_cons, List.cons.injEq] at h
    have h1 : x = y := by have := h.1; unfold mark at this; simpa using this
    rw [h1, marks_inj h.2]

/-- ds: the marks of loops whose block for deferred calls is empty. -/
def Marks (ds : List Deferred) (W : World) (B : Nat) : Prop :=
  ∃ Ds : List Nat, ds = Ds.map mark ∧ Ds.Nodup ∧ ∀ D ∈ Ds, B ≤ D ∧ W.heap[D]? = some (.deferred (some []))

theorem Marks.nil (W : World) (B : Nat) : Marks [] W B := ⟨[], rfl, List.nodup_nil, fun _ h => by cases h⟩

/-- Blocks of deferred calls lie as they lay. -/
def KeepsD (W W' : World) : Prop := ∀ D : Nat, W.heap[D]? = some (Obj.deferred (some [])) → W'.heap[D]? = some (Obj.deferred (some []))
theorem KeepsD.trans {X Y Z : World} (h : KeepsD X Y) (k : KeepsD Y Z) : KeepsD X Z := fun D hD => k D (h D hD)
theorem KeepsD.of {S : Nat → Prop} {X Y : World} (h : Keeps S X Y) (hs : ∀ b, S b → X.heap[b]? ≠ some (.deferred (some []))) : KeepsD X Y :=
  fun D hD => h.heap hD (fun hS => hs D hS hD)
theorem KeepsD.of0 {X Y : World} (h : Keeps (fun _ => False) X Y) : KeepsD X Y := .of h (fun _ h => h.elim)

theorem Marks.keeps {ds : List Deferred} {W W' : World} {B : Nat} (h : Marks ds W B) (hk : KeepsD W W') : Marks ds W' B := by
  obtain ⟨Ds, h1, h2, h3⟩ := h
  exact ⟨Ds, h1, h2, fun D hD => ⟨(h3 D hD).1, hk D (h3 D hD).2⟩⟩

theorem Marks.cons {ds : List Deferred} {W0 W : World} {B D : Nat} (h0 : Marks ds W0 B) (h : Marks ds W B) (hD : W0.heap.size ≤ D) (hB : B ≤ D) (hd : W.heap[D]? = some (.deferred (some []))) : Marks (mark D :: ds) W B := by
  obtain ⟨Ds, h1, h2, h3⟩ := h
  obtain ⟨Ds', k1, _, k3⟩ := h0
  have hinj : Ds = Ds' := by
    have he : Ds.map mark = Ds'.map mark := h1.symm.trans k1
    exact marks_inj he
  subst hinj
  refine ⟨D :: Ds, by rw [List.map_cons, h1], ?_, fun D' hD' => ?_⟩
  · rw [List.nodup_cons]
    exact ⟨fun hm => by have := lt_of_heap (k3 D hm).2; omega, h2⟩
  · rcases List.mem_cons.1 hD' with rfl | hm
    · exact ⟨hB, hd⟩
    · exact h3 D' hm

theorem Marks.steady {ds : List Deferred} {W0 W W' : World} {B : Nat} {row : Option Nat} (h0 : Marks ds W0 B) (h : Marks ds W B) (hg : W.grownBy W' row) (hr : ∀ r, row = some r → W0.heap.size ≤ r ∧ ∃ o : Obj, W.heap[r]? = some o ∧ o.isCells = false) : Marks ds W' B := by
  obtain ⟨Ds, h1, h2, h3⟩ := h
  obtain ⟨Ds', k1, _, k3⟩ := h0
  have hinj : Ds = Ds' := by
    have he : Ds.map mark = Ds'.map mark := h1.symm.trans k1
    exact marks_inj he
  subst hinj
  refine ⟨Ds, h1, h2, fun D hD => ⟨(h3 D hD).1, ?_⟩⟩
  have hlt := lt_of_heap (k3 D hD).2
  exact (hg.block D (lt_of_heap (h3 D hD).2) (fun e => by have := (hr D e.symm).1; omega)).trans (h3 D hD).2

/-- Leaving a function past its marks. -/
theorem leaves_marks {F : Fence} {n : Nat} {P : Program} {fn : Func} {tmps : Array Value} {R : Ending → World → Prop} {ds : List Deferred} {B : Nat} :
    ∀ {W : World}, Marks ds W B → (∀ W', Keeps (fun b => B ≤ b ∧ W.heap[b]? = some (.deferred (some []))) W W' → ∃ v, (results fn tmps).run P W' = .ok v W' ∧ R (.returned v) W') → LeavesInM F n P fn tmps R ds .returning W := by
  intro W hm
  obtain ⟨Ds, rfl, hn, hD⟩ := hm
  induction Ds generalizing W with
  | nil => intro h; exact h W (Keeps.refl _ _)
  | cons D Ds ih =>
    intro h
    rw [List.nodup_cons] at hn
    have hd := hD D (by simp)
    refine ⟨by simp, .inl ⟨D, _, rfl, run_takeDeferred hd.2, ?_⟩⟩
    have hk : Keeps (fun b => b = D) W (W.putObj D (.deferred none)) := ⟨rfl, rfl, rfl, by simp [World.putObj], fun k _ hk => World.putObj_heap_other hk⟩
    refine ih hn.2 (fun D' hD' => ⟨(hD D' (by simp [hD'])).1, (World.putObj_heap_other (by rintro rfl; exact hn.1 hD')).trans (hD D' (by simp [hD'])).2⟩) (fun W' hW' => h W' ?_)
    refine (hk.mono (S' := fun b => B ≤ b ∧ W.heap[b]? = some (.deferred (some []))) (fun i _ e => by subst e; exact hd)).trans (hW'.mono (fun i hi hs => ?_))
    refine ⟨hs.1, ?_⟩
    by_cases e : i = D
    · subst e; exact hd.2
    · exact (World.putObj_heap_other e).symm.trans hs.2

theorem IMap.length {w : World} {b : Nat} {kd : IntKind} {l : List (Int × Value)} (h : IMap w b kd l) : ∃ es clock, w.heap[b]? = some (.map es clock) ∧ es.size = l.length := by
  obtain ⟨es, c, hb, he⟩ := h
  exact ⟨es, c, hb, by have := congrArg List.length he; simpa using this⟩
theorem IMap.run_len {P : Program} {w : World} {b : Nat} {kd : IntKind} {l : List (Int × Value)} {t k e : TypeId} (h : IMap w b kd l) (ht : P.underlying t = some (.map k e)) (ty : TypeId) : (Builtin.len_ #[t] ty #[.map (some b)]).run P w = .ok (.int .i64 (l.length : Int)) w := by
  obtain ⟨es, c, hb, hs⟩ := h.length
  simp [Builtin.len_, run_underlying ht, MapKept.run_getObj_map hb, goInt, Result.andThen, hs]

/-! ### steadiness under the turn of blocks that are no cells -/
theorem steady_keeps {W W' : World} {row : Option Nat} (hg : W.grownBy W' row) : Keeps (fun k => row = some k) W W' := (Keeps.refl _ W).grown hg (fun _ hk => .inl hk)

theorem steady_heap {W W' : World} {row : Option Nat} {b : Nat} {cs : Array Value} {t : TypeId} {fr : Nat × Nat} (hg : W.grownBy W' row) (hr : ∀ r, row = some r → ∃ o : Obj, W.heap[r]? = some o ∧ o.isCells = false) (h : W.heap[b]? = some (.cells cs t fr)) : W'.heap[b]? = some (.cells cs t fr) :=
  (steady_keeps hg).heap h (fun e => by obtain ⟨o, ho, hc⟩ := hr b e; rw [h] at ho; cases ho; cases hc)

theorem steady_row {W W' : World} {row : Option Nat} {base : Nat} {e : TypeId} {size : Nat} {v : Value} {n : Nat} {xs : List Value} (hg : W.grownBy W' row) (hr : ∀ r, row = some r → ∃ o : Obj, W.heap[r]? = some o ∧ o.isCells = false) (h : W.ownsRow base e size v n xs) : W'.ownsRow base e size v n xs := by
  refine ⟨h.1, ?_⟩
  rcases h.2 with hn | ⟨g, cap, cur, rfl, hb, hgg, rest⟩
  · exact .inl hn
  · exact .inr ⟨g, cap, cur, rfl, hb, steady_heap hg hr hgg, rest⟩

theorem steady_map {W W' : World} {row : Option Nat} {b B : Nat} {kd : IntKind} {l : List (Int × Value)} (hg : W.grownBy W' row) (hr : ∀ r, row = some r → B ≤ r) (hb : b < B) (h : IMap W b kd l) : IMap W' b kd l :=
  h.keeps (steady_keeps hg) (fun e => by have := hr b e; omega)

theorem steady_keeps0 {w0 W W' : World} {row : Option Nat} {B : Nat} (hg : W.grownBy W' row) (hr : ∀ r, row = some r → B ≤ r) (hB : w0.heap.size ≤ B) (h : Keeps (fun _ => False) w0 W) : Keeps (fun _ => False) w0 W' :=
  h.trans' (steady_keeps hg) (fun i e => .inr (by have := hr i e; omega))

theorem cells_not_deferred {W : World} {b : Nat} {cs : Array Value} {t : TypeId} {fr : Nat × Nat} (h : W.heap[b]? = some (.cells cs t fr)) : W.heap[b]? ≠ some (.deferred (some [])) := by rw [h]; intro e; cases e
theorem map_not_deferred {W : World} {b : Nat} {kd : IntKind} {l : List (Int × Value)} (h : IMap W b kd l) : W.heap[b]? ≠ some (.deferred (some [])) := by
  obtain ⟨es, c, hb, _⟩ := h; rw [hb]; intro e; cases e

theorem row_not_deferred {W : World} {base : Nat} {e : TypeId} {size : Nat} {v : Value} {n : Nat} {xs : List Value} (h : W.ownsRow base e size v n xs) (k : Nat) (hk : v.ownBlock = some k) : W.heap[k]? ≠ some (.deferred (some [])) := by
  rcases h.2 with ⟨rfl, _⟩ | ⟨g, cap, cur, rfl, _, hgg, _⟩
  · simp [Value.ownBlock] at hk
  · simp [Value.ownBlock] at hk; subst hk; exact cells_not_deferred hgg

/-- A row cut by its last element. -/
theorem ownsRow_init {w : World} {base : Nat} {e : TypeId} {g n cap : Nat} {xs : List Value} {x : Value} (h : w.ownsRow base e 1 (.slice (some ⟨g, 0, none⟩) (n + 1) cap) (n + 1) (xs ++ [x])) : w.ownsRow base e 1 (.slice (some ⟨g, 0, none⟩) n cap) n xs := by
  have hl : xs.length = n := by have := h.1; simp at this; omega
  refine ⟨by omega, ?_⟩
  rcases h.2 with ⟨hv, _⟩ | ⟨g', cap', cur, hv, hb, hg, hn, hm, hs, ht⟩
  · cases hv
  · cases hv
    refine .inr ⟨g, cap, cur, rfl, hb, hg, by omega, hm, hs, ?_⟩
    have := congrArg (List.take n) ht
    rw [List.take_take, List.take_left' hl] at this
    rwa [show min n ((n + 1) * 1) = n * 1 by omega] at this

theorem wpListIn_append_lies {F : Fence} {n : Nat} {P : Program} (w : World) {ops : Array Oper} {rest : List Oper} {o : Oper} {a : Act} {Q : Exit → Act → World → Prop}
    (hg : o.guard = none) (s x : Operand) (t : TypeId) (hop : o.op = Op.call { callee := Callee.builtin Builtin.append, args := #[s, x], argTypes := #[t, t] })
    (base : Nat) (e : TypeId) (i : TypeInfo) (z : Value) (size bytes : Nat) (h1 : P.underlying t = some (.slice e)) (h2 : P.info? e = some i) (h3 : i.zero = some z) (h4 : i.size = size) (h5 : i.bytes = bytes) (h6 : z.cells.size = size) (h7 : 0 < size)
    (v : Value) (k : Nat) (xs : List Value) (hs : a.eval s = v) (hown : w.ownsRow base e size v k xs) (ad : Addr) (m c : Nat) (news : List Value) (hx : a.eval x = .slice (some ad) m c) (hn : news.length = m * size)
    (hc : ∀ j u, news[j]? = some u → w.cell? (ad.add j) = some u) (h1c : ∀ u ∈ news, u.oneCell' = true) (hm : 0 < m) (b1 : k + m ≤ maxLen) (b2 : (k + m) * bytes ≤ 140737488355328) (b3 : base ≤ w.heap.size) (H : Nat) (hH : w.heap.size = H)
    (hK : ∀ g cap w', w'.ownsRow base e size (.slice (some ⟨g, 0, none⟩) (k + m) cap) (k + m) (xs ++ news) → w.grownBy w' v.ownBlock → (v.ownBlock = some g ∨ g = H) → g < w'.heap.size → wpListIn F n P ops Q rest (a.put o.dst (.slice (some ⟨g, 0, none⟩) (k + m) cap)) w') :
    wpListIn F n P ops Q (o :: rest) a w := by
  refine wpListIn_plain hg fun K hK' => ?_
  obtain ⟨g, cap, w', hrun, r1, r2, r3, r4⟩ := run_append_lies (P := P) w t o.type base e i z size bytes h1 h2 h3 h4 h5 h6 h7 v k xs hown ad m c news hn hc h1c hm b1 b2 b3 H hH
  unfold Oper.wpIn
  refine ⟨?_, ?_⟩
  · simp [Oper.about, hop, resolve, Target.leads, Sem.run_pure]
  · rw [Oper.semAt_plain F _ _ (by rw [hop]; intro c hc'; cases hc')]
    simp [execOp, hop, resolve, invoke, builtin, hs, hx, hrun, Result.andThen]
    exact hK' _ _ (hK g cap w' r1 r2 r3 r4)

end Go.Proofs.YtjcgkmodmjckjaaGreat

/- A region that draws its order, reads first and then goes on in one order, inside a wide fence (also in a round): as wp_region_still_tail. Nothing here speaks of one program. -/
namespace Go.Proofs.YtjcgkmodmjckjaaGreat
open Go

section
variable {F : Fence} {rm : Nat} {P : Program} {ops : Array Oper} {md : Region.Mode} {w : World}

end

end Go.Proofs.YtjcgkmodmjckjaaGreat

/- A region that draws its order, inside a wide fence: operations that yield their values in every world that meets S are taken first (as Derived/OrdersHeld.lean, which speaks of no fence). Operations that wait for all of these ('late') need not keep S. Nothing here speaks of one program. -/
namespace Go.Proofs.YtjcgkmodmjckjaaGreat
open Go

section
variable {F : Fence} {rm : Nat} {P : Program} {ops : Array Oper} {Q : Exit → Act → World → Prop} {md : Region.Mode} {S : World → Prop} {late : Nat → Bool}

end

end Go.Proofs.YtjcgkmodmjckjaaGreat

namespace Go.Proofs.YtjcgkmodmjckjaaGreat
open Go.RowKit

/-- A slice value v of n elements whose cells (of all elements, one behind the other) read as cs. -/
def Sl (w : World) (v : Value) (n : Nat) (cs : List Value) : Prop :=
  ∃ ao cap, v = .slice ao n cap ∧ (n ≤ maxLen ∧ n ≤ cap) ∧ (0 < n → ∃ b off, ao = some ⟨b, off, none⟩ ∧ ∀ j x, cs[j]? = some x → w.cell? ⟨b, off + j, none⟩ = some x)

theorem Sl.keeps {S : Nat → Prop} {w w' : World} {v : Value} {n : Nat} {cs : List Value} (h : Sl w v n cs) (hk : Keeps S w w') (hs : ∀ b, S b → w.heap.size ≤ b) : Sl w' v n cs := by
  obtain ⟨ao, cap, hv, hm, h⟩ := h
  refine ⟨ao, cap, hv, hm, fun hn => ?_⟩
  obtain ⟨b, off, ha, hc⟩ := h hn
  exact ⟨b, off, ha, fun j x hj => hk.cell (hc j x hj) (fun hb => by
    have := World.block_lt_of_cell? w _ (hc j x hj); have := hs _ hb; simp at *; omega)⟩

theorem Sl.keeps0 {w w' : World} {v : Value} {n : Nat} {cs : List Value} (h : Sl w v n cs) (hk : Keeps (fun _ => False) w w') : Sl w' v n cs := h.keeps hk (fun _ h => h.elim)

theorem Sl.of_own {w : World} {base : Nat} {e : TypeId} {v : Value} {n : Nat} {xs : List Value} (h : w.ownsRow base e 1 v n xs) : Sl w v n xs := by
  rcases h.2 with ⟨hv, h0⟩ | ⟨g, cap, cur, hv, hb, hg, hn, hm, hs, ht⟩
  · exact ⟨none, 0, by rw [hv, h0], by omega, fun h => by omega⟩
  · refine ⟨_, cap, hv, by omega, fun _ => ⟨g, 0, rfl, fun j x hj => ?_⟩⟩
    rw [Nat.zero_add, cell_of_blk hg]
    rw [← ht, List.getElem?_take] at hj
    split at hj
    · simpa using hj
    · cases hj

/-- A slice of ints that reads as l. -/
def Ints (w : World) (v : Value) (l : List Int) : Prop := Sl w v l.length (l.map (Value.int .i64))

theorem Tryz.info3 : (Tryz.prog.info? 3).map (fun i => (i.zero, i.size, i.bytes)) = some (some (.int .i64 0), 1, 8) := by kernel_rfl

def inB (x lo hi : Int) : Bool := decide (lo ≤ x) && decide (x ≤ hi)

set_option maxHeartbeats 400000 in
theorem in_any (w : World) (x lo hi : Int) : Calls Tryz.prog 52 #[.int .i64 x, .int .i64 lo, .int .i64 hi] w fun e w' => e = .returned (.bool (inB x lo hi)) ∧ w = w' := by
  by_cases h1 : lo ≤ x
  · have hr : Hid (inB x lo hi = decide (x ≤ hi)) := by unfold Hid inB; simp [h1]
    go_enter Tryz.func52, Tryz.ntmps52
    go_wp2
    go_ret
    exact ⟨congrArg (fun b => Ending.returned (Value.bool b)) hr.out.symm, rfl⟩
  · have hr : Hid (inB x lo hi = false) := by unfold Hid inB; simp [h1]
    go_enter Tryz.func52, Tryz.ntmps52
    go_wp2
    go_ret
    exact ⟨congrArg (fun b => Ending.returned (Value.bool b)) hr.out.symm, rfl⟩

set_option maxHeartbeats 400000 in
theorem at_any (w : World) (c n : Int) : Calls Tryz.prog 31 #[.int .i64 c, .int .i64 n] w fun e w' => e = .returned (.agg #[.int .i64 c, .int .i64 n]) ∧ Keeps (fun _ => False) w w' := by
  go_enter Tryz.func31, Tryz.ntmps31
  go_wp2
  refine bodyPost_ret (results_cell_row rfl _ _ w.heap.size 29 _ (0, 0) _ rfl (heap_alloc_new w _) Tryz.underlying29 rfl (by kernel_rfl)) rfl ?_
  exact ⟨rfl, (Keeps.refl _ _).alloc _⟩

theorem Ints.cell {w : World} {v : Value} {l : List Int} (h : Ints w v l) {ao : Option Addr} {n cap : Nat} (hv : v = .slice ao n cap) (hn : 0 < l.length) :
    ∃ b off, ao = some ⟨b, off, none⟩ ∧ ∀ (j : Nat) (x : Int), l[j]? = some x → w.cell? ⟨b, off + j, none⟩ = some (.int .i64 x) := by
  obtain ⟨ao', cap', hv', hm, hc⟩ := h
  rw [hv'] at hv
  simp only [Value.slice.injEq] at hv
  obtain ⟨rfl, _, _⟩ := hv
  obtain ⟨b, off, ha, hx⟩ := hc hn
  exact ⟨b, off, ha, fun j x hj => hx j _ (by rw [List.getElem?_map, hj]; rfl)⟩

theorem Ints.form {w : World} {v : Value} {l : List Int} (h : Ints w v l) : ∃ ao cap, v = .slice ao l.length cap ∧ l.length ≤ 9223372036854775807 := by
  obtain ⟨ao, cap, hv, hm, _⟩ := h
  unfold maxLen at hm
  exact ⟨ao, cap, hv, by omega⟩

theorem Ints.keeps0 {w w' : World} {v : Value} {l : List Int} (h : Ints w v l) (hk : Keeps (fun _ => False) w w') : Ints w' v l := Sl.keeps0 h hk

theorem Ints.of_own {w : World} {base : Nat} {e : TypeId} {v : Value} {l : List Int} (h : w.ownsRow base e 1 v l.length (l.map (Value.int .i64))) : Ints w v l := Sl.of_own h

set_option maxHeartbeats 1000000 in
theorem ints_any (w : World) (va vb : Value) (a b : List Int) (ha : Ints w va a) (hb : Ints w vb b) :
    Calls Tryz.prog 13 #[va, vb] w fun e w' => e = .returned (.bool (a == b)) ∧ Keeps (fun _ => False) w w' := by
  obtain ⟨ao, ca, hva, ma⟩ := ha.form
  obtain ⟨bo, cb, hvb, mb⟩ := hb.form
  have CA := Lib.hid (ha.cell hva)
  have CB := Lib.hid (hb.cell hvb)
  subst hva hvb
  clear ha hb
  by_cases hl : a.length = b.length
  · have h1 : (((a.length : Int)) != (b.length : Int)) = false := by simp [hl]
    have HL := Lib.hid hl; clear hl
    go_enter Tryz.func13, Tryz.ntmps13
    go_wp2_with fail
    go_loopw [5] (fun i wr => ∃ k : Nat, k ≤ a.length ∧ i = .int .i64 (k : Int) ∧ a.take k = b.take k ∧ Keeps (fun _ => False) w wr) (fun i _ => a.length - (intOf i).toNat)
    case atStart => exact ⟨0, Nat.zero_le _, rfl, rfl, Keeps.refl _ _⟩
    case round =>
      obtain ⟨k, hk, rfl, ht, hB⟩ := hrel
      have HT := Lib.hid ht
      have HB := Lib.hid hB
      clear ht hB
      by_cases hlt : k < a.length
      · obtain ⟨ba, oa, rfl, ha'⟩ := CA.out (by omega)
        have hlt2 : k < b.length := by have := HL.out; omega
        obtain ⟨bb, ob, rfl, hb'⟩ := CB.out (by omega)
        obtain ⟨x, hx⟩ : ∃ x, a[k]? = some x := ⟨_, List.getElem?_eq_getElem hlt⟩
        obtain ⟨y, hy⟩ : ∃ y, b[k]? = some y := ⟨_, List.getElem?_eq_getElem hlt2⟩
        have ha1 := HB.out.cell (ha' k _ hx) (fun h => h)
        have hb1 := HB.out.cell (hb' k _ hy) (fun h => h)
        have HX := Lib.hid hx
        have HY := Lib.hid hy
        clear ha' hb' hx hy
        by_cases hxy : x = y
        · have h1 : (x != y) = false := by simp [hxy]
          have HXY := Lib.hid hxy; clear hxy
          go_wp2
          go_quiet (fail)
          go_wp2
          go_roundw
          case rel => exact ⟨k + 1, by omega, by go_num, by
            have e1 := List.take_succ_eq_append_getElem hlt
            have e2 := List.take_succ_eq_append_getElem hlt2
            rw [e1, e2, HT.out, (List.getElem?_eq_some_iff.1 HX.out).2, (List.getElem?_eq_some_iff.1 HY.out).2, HXY.out], HB.out.drewN _⟩
          case measure => simp [intOf]; omega
        · have h1 : (x != y) = true := by simp [hxy]
          have hne : Hid ((a == b) = false) := by
            unfold Hid; rw [beq_eq_false_iff_ne]; rintro rfl
            exact hxy (Option.some.inj (HX.out.symm.trans HY.out))
          clear hxy
          go_wp2
          go_quiet (fail)
          go_wp2
          go_ret
          exact ⟨congrArg (fun b => Ending.returned (Value.bool b)) hne.out.symm, HB.out.drewN _⟩
      · have hab : Hid ((a == b) = true) := by
          unfold Hid; rw [beq_iff_eq]
          have h1 := HT.out
          obtain rfl : k = a.length := by omega
          rw [List.take_length] at h1
          rw [h1]; apply List.take_of_length_le; have := HL.out; omega
        go_wp2_with fail
        go_ret
        exact ⟨congrArg (fun b => Ending.returned (Value.bool b)) hab.out.symm, HB.out⟩
  · have h1 : (((a.length : Int)) != (b.length : Int)) = true := by simp; omega
    have hne : Hid ((a == b) = false) := by unfold Hid; rw [beq_eq_false_iff_ne]; rintro rfl; exact hl rfl
    clear hl
    go_enter Tryz.func13, Tryz.ntmps13
    go_wp2
    go_ret
    exact ⟨congrArg (fun b => Ending.returned (Value.bool b)) hne.out.symm, Keeps.refl _ _⟩

set_option maxHeartbeats 1000000 in
theorem has_any (w : World) (v : Value) (l : List Int) (x : Int) (h : Ints w v l) :
    Calls Tryz.prog 71 #[v, .int .i64 x] w fun e w' => e = .returned (.bool (decide (x ∈ l))) ∧ w = w' := by
  obtain ⟨ao, ca, hv, ma⟩ := h.form
  have CA := Lib.hid (h.cell hv)
  subst hv
  clear h
  go_enter Tryz.func71, Tryz.ntmps71
  go_wp2_with fail
  go_loop [5] (fun i => ∃ k : Nat, k ≤ l.length ∧ i = .int .i64 (k : Int) ∧ ∀ y ∈ l.take k, y ≠ x) (fun i => l.length - (intOf i).toNat)
  case atStart => exact ⟨0, Nat.zero_le _, rfl, by simp⟩
  case round =>
    obtain ⟨k, hk, rfl, ht⟩ := hrel
    have HT := Lib.hid ht; clear ht
    by_cases hlt : k < l.length
    · obtain ⟨ba, oa, rfl, ha'⟩ := CA.out (by omega)
      obtain ⟨y, hy⟩ : ∃ x, l[k]? = some x := ⟨_, List.getElem?_eq_getElem hlt⟩
      have ha1 := ha' k _ hy
      have HY := Lib.hid hy
      clear ha' hy
      by_cases hxy : y = x
      · have h1 : (y == x) = true := by simp [hxy]
        have hr := hid_true (show x ∈ l by rw [← hxy]; exact List.mem_of_getElem? HY.out)
        clear hxy
        go_wp2_with fail
        go_ret
        exact ⟨congrArg (fun b => Ending.returned (Value.bool b)) hr.out.symm, rfl⟩
      · have h1 : (y == x) = false := by simp [hxy]
        have HXY := Lib.hid hxy; clear hxy
        go_wp2_with fail
        go_round
        case rel => exact ⟨k + 1, by omega, by go_num, by
          rw [List.take_succ_eq_append_getElem hlt, (List.getElem?_eq_some_iff.1 HY.out).2]
          intro z hz
          rcases List.mem_append.1 hz with hz | hz
          · exact HT.out z hz
          · simp at hz; subst hz; exact HXY.out⟩
        case measure => simp [intOf]; omega
    · have hr := hid_false (show ¬ x ∈ l by
        have := HT.out
        rw [List.take_of_length_le (by omega)] at this
        exact fun h => this x h rfl)
      go_wp2_with fail
      go_ret
      exact ⟨congrArg (fun b => Ending.returned (Value.bool b)) hr.out.symm, rfl⟩

end Go.Proofs.YtjcgkmodmjckjaaGreat

namespace Go.Proofs.YtjcgkmodmjckjaaGreat

structure Opr where
  pre : List Int
  add : List Int
  del : List Int
  cost : Int

structure Tsk where
  n : Int
  init : List Int
  goal : List Int
  ops : List Opr

/-! ### sets -/
/-- A strictly increasing list of numbers from lo to n - 1. -/
def setFrom (n : Int) : Int → List Int → Bool
  | _, [] => true
  | lo, x :: r => decide (lo ≤ x) && decide (x < n) && setFrom n (x + 1) r
def isSetB (l : List Int) (n : Int) : Bool := setFrom n 0 l
def disjB (a b : List Int) : Bool := a.all fun x => !b.contains x

theorem setFrom_iff {n : Int} {l : List Int} : ∀ {lo : Int}, setFrom n lo l = true ↔ (∀ x ∈ l, lo ≤ x ∧ x < n) ∧ l.Pairwise (· < ·) := by
  induction l with
  | nil => intro lo; simp [setFrom]
  | cons y r ih =>
    intro lo
    simp only [setFrom, Bool.and_eq_true, decide_eq_true_eq, ih, List.mem_cons, forall_eq_or_imp, List.pairwise_cons]
    constructor
    · rintro ⟨⟨h1, h2⟩, h3, h4⟩
      exact ⟨⟨⟨h1, h2⟩, fun x hx => ⟨by have := (h3 x hx).1; omega, (h3 x hx).2⟩⟩, fun x hx => by have := (h3 x hx).1; omega, h4⟩
    · rintro ⟨⟨⟨h1, h2⟩, h3⟩, h4, h5⟩
      exact ⟨⟨h1, h2⟩, fun x hx => ⟨by have := h4 x hx; omega, (h3 x hx).2⟩, h5⟩

theorem isSet_iff {n : Int} {l : List Int} : isSetB l n = true ↔ (∀ x ∈ l, 0 ≤ x ∧ x < n) ∧ l.Pairwise (· < ·) := setFrom_iff

theorem disj_iff {a b : List Int} : disjB a b = true ↔ ∀ x ∈ a, x ∉ b := by simp [disjB]

/-! ### the fault of a task -/
def opCode (o : Opr) (n : Int) : Int :=
  if (isSetB o.pre n && isSetB o.add n && isSetB o.del n && disjB o.add o.del) = true then (if 0 ≤ o.cost ∧ o.cost ≤ 100 then 0 else 3) else 5
def opsFault (n : Int) : Int → List Opr → Int × Int
  | _, [] => (0, 0)
  | i, o :: r => if opCode o n = 0 then opsFault n (i + 1) r else (opCode o n, i)
def taskFault (t : Tsk) : Int × Int :=
  if ¬ (0 ≤ t.n ∧ t.n ≤ 24) then (3, -1) else
  if isSetB t.init t.n = false then (5, -2) else
  if isSetB t.goal t.n = false then (5, -3) else
  if 40 < t.ops.length then (2, -1) else opsFault t.n 0 t.ops

structure Opr.Ok (o : Opr) (n : Int) : Prop where
  pre : isSetB o.pre n = true
  add : isSetB o.add n = true
  del : isSetB o.del n = true
  disj : disjB o.add o.del = true
  cost0 : 0 ≤ o.cost
  cost1 : o.cost ≤ 100

structure Tsk.Ok (t : Tsk) : Prop where
  n0 : 0 ≤ t.n
  n1 : t.n ≤ 24
  init : isSetB t.init t.n = true
  goal : isSetB t.goal t.n = true
  few : t.ops.length ≤ 40
  ops : ∀ o ∈ t.ops, o.Ok t.n

theorem opCode_zero {o : Opr} {n : Int} : opCode o n = 0 ↔ o.Ok n := by
  unfold opCode
  constructor
  · intro h
    split at h
    · rename_i h1
      split at h
      · rename_i h2
        simp only [Bool.and_eq_true] at h1
        exact ⟨h1.1.1.1, h1.1.1.2, h1.1.2, h1.2, h2.1, h2.2⟩
      · cases h
    · cases h
  · intro h
    rw [if_pos (by simp [h.pre, h.add, h.del, h.disj]), if_pos ⟨h.cost0, h.cost1⟩]

theorem opsFault_zero {n : Int} {l : List Opr} : ∀ {i : Int}, (opsFault n i l).1 = 0 ↔ ∀ o ∈ l, o.Ok n := by
  induction l with
  | nil => intro i; simp [opsFault]
  | cons o r ih =>
    intro i
    rw [opsFault]
    by_cases h : opCode o n = 0
    · rw [if_pos h, ih]; simp [opCode_zero.1 h]
    · rw [if_neg h]
      simp only [h, false_iff, List.mem_cons, forall_eq_or_imp, not_and]
      intro h'; exact absurd (opCode_zero.2 h') h

theorem opsFault_index {n : Int} {l : List Opr} : ∀ {i : Int}, (opsFault n i l).1 = 0 → opsFault n i l = (0, 0) := by
  induction l with
  | nil => intro i _; rfl
  | cons o r ih =>
    intro i h
    rw [opsFault] at h ⊢
    split at h
    · rename_i h1; rw [if_pos h1]; exact ih h
    · rename_i h1; exact absurd h h1

theorem taskFault_zero {t : Tsk} : (taskFault t).1 = 0 ↔ t.Ok := by
  unfold taskFault
  constructor
  · intro h
    split at h
    · cases h
    · rename_i h1
      split at h
      · cases h
      · rename_i h2
        split at h
        · cases h
        · rename_i h3
          split at h
          · cases h
          · rename_i h4
            exact ⟨by omega, by omega, by simpa using h2, by simpa using h3, by omega, opsFault_zero.1 h⟩
  · intro h
    rw [if_neg (by simpa using ⟨h.n0, h.n1⟩), if_neg (by simp [h.init]), if_neg (by simp [h.goal]), if_neg (by have := h.few; omega)]
    exact opsFault_zero.2 h.ops

theorem taskFault_ok {t : Tsk} (h : t.Ok) : taskFault t = (0, 0) := by
  have h0 := taskFault_zero.2 h
  unfold taskFault at h0 ⊢
  rw [if_neg (by simpa using ⟨h.n0, h.n1⟩), if_neg (by simp [h.init]), if_neg (by simp [h.goal]), if_neg (by have := h.few; omega)] at h0 ⊢
  exact opsFault_index h0

/-! ### words -/
/-- The word of a list of facts. -/
def wd : List Int → Nat
  | [] => 0
  | p :: r => wd r ||| 2 ^ p.toNat

theorem testBit_wd {l : List Int} (h : ∀ x ∈ l, 0 ≤ x) (i : Nat) : (wd l).testBit i = decide ((i : Int) ∈ l) := by
  induction l with
  | nil => simp [wd]
  | cons p r ih =>
    rw [wd, Nat.testBit_or, ih (fun x hx => h x (by simp [hx])), Nat.testBit_two_pow]
    have hp := h p (by simp)
    by_cases e : p.toNat = i
    · have : (i : Int) = p := by omega
      simp [e, this]
    · have : (i : Int) ≠ p := by omega
      simp [e, this]

theorem wd_lt {l : List Int} {n : Nat} (h : ∀ x ∈ l, 0 ≤ x ∧ x < n) : wd l < 2 ^ n := by
  apply Nat.lt_pow_two_of_testBit
  intro i hi
  rw [testBit_wd (fun x hx => (h x hx).1)]
  simp only [decide_eq_false_iff_not]
  intro hm
  have := (h _ hm).2
  omega

/-- The facts of a word, up to the fact 31. -/
def facts (w : Nat) : List Int := ((List.range 32).filter fun p => w.testBit p).map fun p : Nat => (p : Int)

theorem mem_facts {w : Nat} {x : Int} : x ∈ facts w ↔ ∃ p : Nat, x = p ∧ p < 32 ∧ w.testBit p = true := by
  unfold facts
  simp only [List.mem_map, List.mem_filter, List.mem_range]
  constructor
  · rintro ⟨p, ⟨h1, h2⟩, rfl⟩; exact ⟨p, rfl, h1, h2⟩
  · rintro ⟨p, rfl, h1, h2⟩; exact ⟨p, ⟨h1, h2⟩, rfl⟩

theorem facts_sorted (w : Nat) : (facts w).Pairwise (· < ·) := by
  unfold facts
  rw [List.pairwise_map]
  refine List.Pairwise.imp ?_ ((List.pairwise_lt_range (n := 32)).sublist (List.filter_sublist))
  intro a b h; omega

theorem sorted_ext {a b : List Int} (ha : a.Pairwise (· < ·)) (hb : b.Pairwise (· < ·)) (h : ∀ x, x ∈ a ↔ x ∈ b) : a = b := by
  have hp : a.Perm b := (List.perm_ext_iff_of_nodup (ha.imp (fun h => by omega)) (hb.imp (fun h => by omega))).2 h
  exact hp.eq_of_pairwise (le := (· < ·)) (fun x y _ _ h1 h2 => by omega) ha hb

theorem facts_wd {l : List Int} (h : isSetB l 32 = true) : facts (wd l) = l := by
  obtain ⟨h1, h2⟩ := isSet_iff.1 h
  refine sorted_ext (facts_sorted _) h2 fun x => ?_
  rw [mem_facts]
  constructor
  · rintro ⟨p, rfl, hp, ht⟩
    rw [testBit_wd (fun x hx => (h1 x hx).1)] at ht
    simpa using ht
  · intro hx
    have := h1 x hx
    refine ⟨x.toNat, by omega, by omega, ?_⟩
    rw [testBit_wd (fun x hx => (h1 x hx).1)]
    have e : ((x.toNat : Nat) : Int) = x := by omega
    simp [e, hx]

theorem isSet_mono {l : List Int} {n m : Int} (h : isSetB l n = true) (hm : n ≤ m) : isSetB l m = true := by
  obtain ⟨h1, h2⟩ := isSet_iff.1 h
  exact isSet_iff.2 ⟨fun x hx => ⟨(h1 x hx).1, by have := (h1 x hx).2; omega⟩, h2⟩

/-! ### operators on words -/
structure Wop where
  pre : Nat
  add : Nat
  del : Nat
  cost : Int

def Opr.word (o : Opr) : Wop := ⟨wd o.pre, wd o.add, wd o.del, o.cost⟩
def Wop.can (o : Wop) (s : Nat) : Bool := s &&& o.pre == o.pre
def andN (a b : Nat) : Nat := a &&& (b ^^^ 4294967295)
def Wop.next (o : Wop) (s : Nat) : Nat := andN s o.del ||| o.add

/-- Applicable, on lists. -/
def appL (o : Opr) (s : List Int) : Bool := o.pre.all fun x => s.contains x
/-- The state after an operator, on lists. -/
def aftL (n : Int) (o : Opr) (s : List Int) : List Int := ((List.range n.toNat).map fun p : Nat => (p : Int)).filter fun p => o.add.contains p || s.contains p && !o.del.contains p

theorem testBit_andN (a b i : Nat) (hi : i < 32) : (andN a b).testBit i = (a.testBit i && !b.testBit i) := by
  have : (4294967295 : Nat).testBit i = true := by
    rw [show (4294967295 : Nat) = 2 ^ 32 - 1 by decide, Nat.testBit_two_pow_sub_one]; simpa using hi
  unfold andN
  rw [Nat.testBit_and, Nat.testBit_xor, this]; simp

theorem andN_lt {a b m : Nat} (h : a < 2 ^ m) : andN a b < 2 ^ m := Nat.lt_of_le_of_lt Nat.and_le_left h

theorem mem_aftL {n : Int} {o : Opr} {s : List Int} {x : Int} : x ∈ aftL n o s ↔ (0 ≤ x ∧ x < n) ∧ (x ∈ o.add ∨ x ∈ s ∧ x ∉ o.del) := by
  unfold aftL
  simp only [List.mem_filter, List.mem_map, List.mem_range, Bool.or_eq_true, List.contains_iff_mem, Bool.and_eq_true, Bool.not_eq_true']
  constructor
  · rintro ⟨⟨p, hp, rfl⟩, h⟩
    refine ⟨by omega, h.imp id (fun h => ⟨h.1, by simpa using h.2⟩)⟩
  · rintro ⟨h1, h⟩
    exact ⟨⟨x.toNat, by omega, by omega⟩, h.imp id (fun h => ⟨h.1, by simpa using h.2⟩)⟩

theorem isSet_aftL (n : Int) (o : Opr) (s : List Int) : isSetB (aftL n o s) n = true := by
  refine isSet_iff.2 ⟨fun x hx => (mem_aftL.1 hx).1, ?_⟩
  unfold aftL
  refine List.Pairwise.sublist List.filter_sublist ?_
  rw [List.pairwise_map]
  exact List.Pairwise.imp (fun h => by omega) (List.pairwise_lt_range (n := n.toNat))

theorem appL_word {n : Int} {o : Opr} {s : List Int} (ho : o.Ok n) (hs : isSetB s n = true) : appL o s = o.word.can (wd s) := by
  have hp := (isSet_iff.1 ho.pre).1
  have hs' := (isSet_iff.1 hs).1
  rw [Bool.eq_iff_iff]
  unfold appL Wop.can Opr.word
  simp only [List.all_eq_true, List.contains_iff_mem, beq_iff_eq]
  constructor
  · intro h
    apply Nat.eq_of_testBit_eq
    intro i
    rw [Nat.testBit_and, testBit_wd (fun x hx => (hp x hx).1), testBit_wd (fun x hx => (hs' x hx).1)]
    by_cases hi : (i : Int) ∈ o.pre
    · simp [hi, h _ hi]
    · simp [hi]
  · intro h x hx
    have h1 := congrArg (fun w => w.testBit x.toNat) h
    have e : ((x.toNat : Nat) : Int) = x := by have := (hp x hx).1; omega
    simp only [Nat.testBit_and] at h1
    rw [testBit_wd (fun x hx => (hp x hx).1), testBit_wd (fun x hx => (hs' x hx).1), e] at h1
    simpa [hx] using h1

theorem wd_aftL {n : Int} {o : Opr} {s : List Int} (hn : n ≤ 32) (ho : o.Ok n) (hs : isSetB s n = true) : wd (aftL n o s) = o.word.next (wd s) := by
  have ha := (isSet_iff.1 ho.add).1
  have hd := (isSet_iff.1 ho.del).1
  have hs' := (isSet_iff.1 hs).1
  apply Nat.eq_of_testBit_eq
  intro i
  unfold Wop.next Opr.word
  rw [Nat.testBit_or, testBit_wd (fun x hx => (mem_aftL.1 hx).1.1), testBit_wd (fun x hx => (ha x hx).1)]
  by_cases hi : i < 32
  · rw [testBit_andN _ _ _ hi, testBit_wd (fun x hx => (hs' x hx).1), testBit_wd (fun x hx => (hd x hx).1)]
    rw [Bool.eq_iff_iff]
    simp only [decide_eq_true_eq, Bool.or_eq_true, Bool.and_eq_true, Bool.not_eq_true', decide_eq_false_iff_not, mem_aftL]
    constructor
    · rintro ⟨_, h | h⟩
      · exact .inr h
      · exact .inl h
    · rintro (h | h)
      · exact ⟨hs' _ h.1, .inr h⟩
      · exact ⟨ha _ h, .inl h⟩
  · have h1 : (andN (wd s) (wd o.del)).testBit i = false := by
      have hlt : wd s < 2 ^ 32 := wd_lt (n := 32) (fun x hx => ⟨(hs' x hx).1, by have := (hs' x hx).2; omega⟩)
      rw [Nat.testBit_lt_two_pow (Nat.lt_of_lt_of_le (andN_lt hlt) (Nat.pow_le_pow_right (by decide) (by omega)))]
    rw [h1]
    have h2 : (i : Int) ∉ aftL n o s := fun h => by have := (mem_aftL.1 h).1.2; omega
    have h3 : (i : Int) ∉ o.add := fun h => by have := (ha _ h).2; omega
    simp [h2, h3]

end Go.Proofs.YtjcgkmodmjckjaaGreat

/- The reachable words of a task: by the reference's loop, and by a search with a stack. Nothing here speaks of one program. -/
namespace Go.Proofs.YtjcgkmodmjckjaaGreat

/-- The words behind one step, in the order of the operators. -/
def nexts (ops : List Wop) (x : Nat) : List Nat := (ops.filter fun o => o.can x).map fun o => o.next x

inductive Reach (ops : List Wop) (s : Nat) : Nat → Prop
  | refl : Reach ops s s
  | step {x y : Nat} : Reach ops s x → y ∈ nexts ops x → Reach ops s y

/-- Those of xs that are not in seen, each once, in their order. -/
def freshs : List Nat → List Nat → List Nat
  | _, [] => []
  | seen, x :: r => if x ∈ seen then freshs seen r else x :: freshs (seen ++ [x]) r

theorem freshs_snoc (xs : List Nat) (x : Nat) : ∀ seen, freshs seen (xs ++ [x]) = freshs seen xs ++ (if x ∈ seen ++ freshs seen xs then [] else [x]) := by
  induction xs with
  | nil =>
    intro seen
    rw [List.nil_append, freshs]
    by_cases h : x ∈ seen <;> simp [h, freshs]
  | cons y r ih =>
    intro seen
    rw [List.cons_append, freshs, freshs]
    by_cases h : y ∈ seen
    · rw [if_pos h, if_pos h, ih]
    · rw [if_neg h, if_neg h, ih]
      simp only [List.append_assoc, List.cons_append, List.nil_append]

theorem mem_freshs {xs : List Nat} {y : Nat} : ∀ {seen}, y ∈ seen ++ freshs seen xs ↔ y ∈ seen ∨ y ∈ xs := by
  induction xs with
  | nil => intro seen; simp [freshs]
  | cons x r ih =>
    intro seen
    rw [freshs]
    by_cases h : x ∈ seen
    · rw [if_pos h, ih]
      constructor
      · rintro (h1 | h1)
        · exact .inl h1
        · exact .inr (by simp [h1])
      · rintro (h1 | h1)
        · exact .inl h1
        · rcases List.mem_cons.1 h1 with rfl | h1
          · exact .inl h
          · exact .inr h1
    · rw [if_neg h]
      have := ih (seen := seen ++ [x])
      rw [List.append_assoc, List.singleton_append] at this
      rw [this]
      simp [or_assoc]

theorem nodup_freshs {xs : List Nat} : ∀ {seen : List Nat}, seen.Nodup → (seen ++ freshs seen xs).Nodup := by
  induction xs with
  | nil => intro seen h; simpa [freshs] using h
  | cons x r ih =>
    intro seen h
    rw [freshs]
    by_cases hx : x ∈ seen
    · rw [if_pos hx]; exact ih h
    · rw [if_neg hx]
      have h1 : (seen ++ [x]).Nodup := by
        rw [List.nodup_append]
        refine ⟨h, by simp, fun a ha b hb => ?_⟩
        simp at hb; subst hb
        intro e; subst e; exact hx ha
      have := ih h1
      rwa [List.append_assoc, List.singleton_append] at this

theorem freshs_le {xs seen : List Nat} : (freshs seen xs).length ≤ xs.length := by
  induction xs generalizing seen with
  | nil => simp [freshs]
  | cons x r ih =>
    rw [freshs]
    split
    · have := ih (seen := seen); simp only [List.length_cons]; omega
    · have := ih (seen := seen ++ [x]); simp only [List.length_cons]; omega

/-! ### the reference's loop -/
/-- The list behind i rounds, or none where it would pass 2000. -/
def bfs (ops : List Wop) (s : Nat) : Nat → Option (List Nat)
  | 0 => some [s]
  | i + 1 => match bfs ops s i with
    | none => none
    | some l => match l[i]? with
      | none => some l
      | some x => if (l ++ freshs l (nexts ops x)).length ≤ 2000 then some (l ++ freshs l (nexts ops x)) else none

def reached (ops : List Wop) (s : Nat) : Option (List Nat) := bfs ops s 2001

theorem bfs_none {ops : List Wop} {s i : Nat} (h : bfs ops s i = none) : ∀ k, bfs ops s (i + k) = none := by
  intro k
  induction k with
  | zero => exact h
  | succ k ih => rw [← Nat.add_assoc, bfs, ih]

theorem bfs_end {ops : List Wop} {s i : Nat} {l : List Nat} (h : bfs ops s i = some l) (hi : l.length ≤ i) : ∀ k, bfs ops s (i + k) = some l := by
  intro k
  induction k with
  | zero => exact h
  | succ k ih =>
    rw [← Nat.add_assoc, bfs, ih]
    simp only
    rw [List.getElem?_eq_none (by omega)]

theorem bfs_step {ops : List Wop} {s i x : Nat} {l : List Nat} (h : bfs ops s i = some l) (hx : l[i]? = some x) :
    bfs ops s (i + 1) = if (l ++ freshs l (nexts ops x)).length ≤ 2000 then some (l ++ freshs l (nexts ops x)) else none := by
  rw [bfs, h]; simp only; rw [hx]

structure BfsOk (ops : List Wop) (s i : Nat) (l : List Nat) : Prop where
  nodup : l.Nodup
  head : l[0]? = some s
  few : l.length ≤ 2000
  reach : ∀ x ∈ l, Reach ops s x
  closed : ∀ j x, j < i → l[j]? = some x → ∀ y ∈ nexts ops x, y ∈ l

theorem bfs_ok {ops : List Wop} {s : Nat} : ∀ {i : Nat} {l : List Nat}, bfs ops s i = some l → BfsOk ops s i l
  | 0, l, h => by
    cases h
    exact ⟨by simp, rfl, by simp, fun x hx => by simp at hx; subst hx; exact .refl, fun j x hj => by omega⟩
  | i + 1, l, h => by
    rw [bfs] at h
    cases hb : bfs ops s i with
    | none => rw [hb] at h; cases h
    | some l0 =>
      rw [hb] at h; simp only at h
      have ok := bfs_ok hb
      cases hx : l0[i]? with
      | none =>
        rw [hx] at h; cases h
        refine ⟨ok.nodup, ok.head, ok.few, ok.reach, fun j x hj hl => ?_⟩
        have h1 := (List.getElem?_eq_some_iff.1 hl).1
        have h2 := List.getElem?_eq_none_iff.1 hx
        exact ok.closed j x (by omega) hl
      | some x =>
        rw [hx] at h; simp only at h
        split at h
        · rename_i hle
          cases h
          have hxm : x ∈ l0 := List.mem_of_getElem? hx
          refine ⟨nodup_freshs ok.nodup, ?_, hle, fun y hy => ?_, fun j y hj hl z hz => ?_⟩
          · rw [List.getElem?_append_left (by have := (List.getElem?_eq_some_iff.1 ok.head).1; omega)]; exact ok.head
          · rcases mem_freshs.1 hy with hy | hy
            · exact ok.reach y hy
            · exact .step (ok.reach x hxm) hy
          · have hil : i < l0.length := (List.getElem?_eq_some_iff.1 hx).1
            rw [List.getElem?_append_left (by omega)] at hl
            by_cases hji : j = i
            · subst hji
              rw [hx] at hl; cases hl
              exact mem_freshs.2 (.inr hz)
            · exact mem_freshs.2 (.inl (ok.closed j y (by omega) hl z hz))
        · cases h

theorem reached_some {ops : List Wop} {s : Nat} {l : List Nat} (h : reached ops s = some l) : l.Nodup ∧ l.length ≤ 2000 ∧ l[0]? = some s ∧ ∀ x, x ∈ l ↔ Reach ops s x := by
  have ok := bfs_ok h
  refine ⟨ok.nodup, ok.few, ok.head, fun x => ⟨ok.reach x, fun hr => ?_⟩⟩
  induction hr with
  | refl => exact List.mem_of_getElem? ok.head
  | step _ hy ih =>
    obtain ⟨j, hj⟩ := List.mem_iff_getElem?.1 ih
    have hlt := (List.getElem?_eq_some_iff.1 hj).1
    exact ok.closed j _ (by have := ok.few; omega) hj _ hy

theorem reached_of_end {ops : List Wop} {s i : Nat} {l : List Nat} (h : bfs ops s i = some l) (hi : i = l.length) : reached ops s = some l := by
  have hf := (bfs_ok h).few
  have := bfs_end h (by omega) (2001 - i)
  unfold reached
  rwa [show i + (2001 - i) = 2001 by omega] at this

theorem reached_of_none {ops : List Wop} {s i : Nat} (h : bfs ops s i = none) (hi : i ≤ 2001) : reached ops s = none := by
  have := bfs_none h (2001 - i)
  unfold reached
  rwa [show i + (2001 - i) = 2001 by omega] at this

theorem bfs_none_many {ops : List Wop} {s : Nat} : ∀ {i : Nat}, bfs ops s i = none → ∃ l : List Nat, l.Nodup ∧ 2000 < l.length ∧ ∀ x ∈ l, Reach ops s x
  | 0, h => by cases h
  | i + 1, h => by
    rw [bfs] at h
    cases hb : bfs ops s i with
    | none => exact bfs_none_many hb
    | some l0 =>
      rw [hb] at h; simp only at h
      have ok := bfs_ok hb
      cases hx : l0[i]? with
      | none => rw [hx] at h; cases h
      | some x =>
        rw [hx] at h; simp only at h
        split at h
        · cases h
        · rename_i hle
          refine ⟨_, nodup_freshs (xs := nexts ops x) ok.nodup, by omega, fun y hy => ?_⟩
          rcases mem_freshs.1 hy with hy | hy
          · exact ok.reach y hy
          · exact .step (ok.reach x (List.mem_of_getElem? hx)) hy

theorem nodup_sub_length : ∀ {a b : List Nat}, a.Nodup → (∀ x ∈ a, x ∈ b) → a.length ≤ b.length
  | [], _, _, _ => Nat.zero_le _
  | x :: r, b, ha, h => by
    rw [List.nodup_cons] at ha
    have hx := h x (by simp)
    have := nodup_sub_length (b := b.erase x) ha.2 (fun y hy => (List.mem_erase_of_ne (by rintro rfl; exact ha.1 hy)).2 (h y (by simp [hy])))
    have hl := List.length_erase_of_mem hx
    have : 0 < b.length := List.length_pos_of_mem hx
    simp only [List.length_cons]; omega

theorem reached_none {ops : List Wop} {s : Nat} (h : reached ops s = none) {l : List Nat} (hl : ∀ x, Reach ops s x → x ∈ l) : 2000 < l.length := by
  obtain ⟨m, h1, h2, h3⟩ := bfs_none_many h
  have := nodup_sub_length h1 (fun x hx => hl x (h3 x hx))
  omega

/-! ### a search with a stack -/
structure Dfs (ops : List Wop) (s : Nat) (stack seen out : List Nat) : Prop where
  nodup : seen.Nodup
  perm : seen.Perm (out ++ stack)
  head : s ∈ seen
  reach : ∀ x ∈ seen, Reach ops s x
  closed : ∀ x ∈ out, ∀ y ∈ nexts ops x, y ∈ seen

theorem Dfs.start (ops : List Wop) (s : Nat) : Dfs ops s [s] [s] [] :=
  ⟨by simp, by simp, by simp, fun x hx => by simp at hx; subst hx; exact .refl, fun x hx => by cases hx⟩

theorem Dfs.step {ops : List Wop} {s x : Nat} {stack seen out : List Nat} (h : Dfs ops s (stack ++ [x]) seen out) :
    Dfs ops s (stack ++ freshs seen (nexts ops x)) (seen ++ freshs seen (nexts ops x)) (out ++ [x]) := by
  have hx : x ∈ seen := h.perm.mem_iff.2 (by simp)
  refine ⟨nodup_freshs h.nodup, ?_, by simp [h.head], fun y hy => ?_, fun y hy z hz => ?_⟩
  · have h1 : (out ++ (stack ++ [x])).Perm (out ++ [x] ++ stack) := by
      rw [List.append_assoc]
      exact List.Perm.append_left _ List.perm_append_comm
    have := (h.perm.trans h1).append_right (freshs seen (nexts ops x))
    rwa [List.append_assoc] at this
  · rcases mem_freshs.1 hy with hy | hy
    · exact h.reach y hy
    · exact .step (h.reach x hx) hy
  · rcases List.mem_append.1 hy with hy | hy
    · exact mem_freshs.2 (.inl (h.closed y hy z hz))
    · simp at hy; subst hy
      exact mem_freshs.2 (.inr hz)

theorem Dfs.done {ops : List Wop} {s : Nat} {seen out : List Nat} (h : Dfs ops s [] seen out) : out.Nodup ∧ (∀ x, x ∈ out ↔ Reach ops s x) ∧ seen.length = out.length := by
  have hp : seen.Perm out := by simpa using h.perm
  refine ⟨hp.nodup_iff.1 h.nodup, fun x => ⟨fun hx => h.reach x (hp.mem_iff.2 hx), fun hr => ?_⟩, hp.length_eq⟩
  induction hr with
  | refl => exact hp.mem_iff.1 h.head
  | step _ hy ih => exact hp.mem_iff.1 (h.closed _ ih _ hy)

theorem Dfs.many {ops : List Wop} {s : Nat} {stack seen out : List Nat} (h : Dfs ops s stack seen out) (hm : 2000 < seen.length) : reached ops s = none := by
  cases hr : reached ops s with
  | none => rfl
  | some l =>
    obtain ⟨_, h2, _, h3⟩ := reached_some hr
    have := nodup_sub_length h.nodup (fun x hx => (h3 x).2 (h.reach x hx))
    omega

theorem Dfs.found {ops : List Wop} {s : Nat} {seen out : List Nat} (h : Dfs ops s [] seen out) (hf : seen.length ≤ 2000) : ∃ l, reached ops s = some l ∧ out.Perm l := by
  obtain ⟨h1, h2, h3⟩ := h.done
  cases hr : reached ops s with
  | none =>
    have := reached_none hr (fun x hx => (h2 x).2 hx)
    omega
  | some l =>
    obtain ⟨k1, _, _, k3⟩ := reached_some hr
    exact ⟨l, rfl, (List.perm_ext_iff_of_nodup h1 k1).2 fun x => (h2 x).trans (k3 x).symm⟩

end Go.Proofs.YtjcgkmodmjckjaaGreat

/- The plain law of novelty: what is covered, what is fresh. Nothing here speaks of one program. -/
namespace Go.Proofs.YtjcgkmodmjckjaaGreat

def after (ch : List Int) (y : Int) : Bool := match ch.getLast? with
  | none => true
  | some z => decide (z < y)
end Go.Proofs.YtjcgkmodmjckjaaGreat

namespace Go.Proofs.YtjcgkmodmjckjaaGreat
open Go.RowKit

theorem in_val {x lo hi : Int} {b : Bool} (w : World) (h : inB x lo hi = b) : Calls Tryz.prog 52 #[.int .i64 x, .int .i64 lo, .int .i64 hi] w fun e w' => e = .returned (.bool b) ∧ w' = w :=
  (in_any w x lo hi).mono fun _ _ ⟨he, hw⟩ => ⟨by rw [he, h], hw.symm⟩

theorem inB_false' {k lo hi : Int} (h : ¬ (lo ≤ k ∧ k ≤ hi)) : inB k lo hi = false := by
  unfold inB
  by_cases h1 : lo ≤ k
  · have h2 : ¬ k ≤ hi := fun h2 => h ⟨h1, h2⟩
    simp [h2]
  · simp [h1]
theorem inB_true' {k lo hi : Int} (h1 : lo ≤ k) (h2 : k ≤ hi) : inB k lo hi = true := by unfold inB; simp [h1, h2]

theorem take_getS {α : Type} {l : List α} {n : Nat} {k : α} (h : l[n]? = some k) : l.take (n + 1) = l.take n ++ [k] := by
  obtain ⟨h1, h2⟩ := List.getElem?_eq_some_iff.1 h
  rw [List.take_succ_eq_append_getElem h1, h2]

/-- What is left of the test of a set at place i. -/
def setLo (l : List Int) (i : Nat) : Int := match i with
  | 0 => 0
  | j + 1 => (l[j]?.getD 0) + 1
def setAt (n : Int) (l : List Int) (i : Nat) : Bool := setFrom n (setLo l i) (l.drop i)

theorem setAt_step {n : Int} {l : List Int} {i : Nat} {x : Int} (h : l[i]? = some x) : setAt n l i = (decide (setLo l i ≤ x) && decide (x < n) && setAt n l (i + 1)) := by
  obtain ⟨h1, h2⟩ := List.getElem?_eq_some_iff.1 h
  unfold setAt
  rw [List.drop_eq_getElem_cons h1, h2, setFrom]
  have : setLo l (i + 1) = x + 1 := by show (l[i]?.getD 0) + 1 = x + 1; rw [h]; rfl
  rw [this]
theorem setAt_end {n : Int} {l : List Int} {i : Nat} (h : l.length ≤ i) : setAt n l i = true := by
  unfold setAt
  rw [List.drop_eq_nil_of_le h]; rfl
theorem setLo_succ {l : List Int} {i : Nat} {x : Int} (h : l[i]? = some x) : setLo l (i + 1) = x + 1 := by show (l[i]?.getD 0) + 1 = x + 1; rw [h]; rfl

set_option maxHeartbeats 1000000 in
theorem sIsSet_any (w : World) (v : Value) (l : List Int) (n : Int) (h : Ints w v l) :
    Calls Tryz.prog 89 #[v, .int .i64 n] w fun e w' => e = .returned (.bool (isSetB l n)) ∧ w = w' := by
  obtain ⟨ao, ca, hv, ma⟩ := h.form
  have CA := Lib.hid (h.cell hv)
  subst hv
  clear h
  go_enter Tryz.func89, Tryz.ntmps89
  go_wp2_with fail
  go_loop [9] (fun i => ∃ k : Nat, k ≤ l.length ∧ i = .int .i64 (k : Int) ∧ setAt n l k = isSetB l n ∧ ∀ j x, j < k → l[j]? = some x → 0 ≤ x) (fun i => l.length - (intOf i).toNat)
  case atStart => exact ⟨0, Nat.zero_le _, rfl, rfl, fun j x hj => by omega⟩
  case round =>
    obtain ⟨k, hk, rfl, ht, hp⟩ := hrel
    have HT := Lib.hid ht; clear ht
    have HP := Lib.hid hp; clear hp
    by_cases hlt : k < l.length
    · obtain ⟨ba, oa, rfl, ha'⟩ := CA.out (by omega)
      obtain ⟨x, hx⟩ : ∃ x, l[k]? = some x := ⟨_, List.getElem?_eq_getElem hlt⟩
      have ha1 := ha' k _ hx
      have HX := Lib.hid hx
      have HS := Lib.hid (setAt_step (n := n) hx)
      by_cases h0 : x < 0
      · have hf : Hid (isSetB l n = false) := by
          unfold Hid
          rw [← HT.out, HS.out]
          have : ¬ setLo l k ≤ x := by
            cases k with
            | zero => show ¬ (0 : Int) ≤ x; omega
            | succ j =>
              obtain ⟨y, hy⟩ : ∃ y, l[j]? = some y := ⟨_, List.getElem?_eq_getElem (by omega)⟩
              have := HP.out j y (by omega) hy
              rw [setLo_succ hy]; omega
          simp [this]
        clear ha' hx
        go_wp2_with fail
        go_ret
        exact ⟨congrArg (fun b => Ending.returned (Value.bool b)) hf.out.symm, rfl⟩
      · have h0' : 0 ≤ x := by omega
        clear h0
        by_cases h1 : n ≤ x
        · have hf : Hid (isSetB l n = false) := by
            unfold Hid
            rw [← HT.out, HS.out]
            have : ¬ x < n := by omega
            simp [this]
          clear ha' hx
          go_wp2_with fail
          go_ret
          exact ⟨congrArg (fun b => Ending.returned (Value.bool b)) hf.out.symm, rfl⟩
        · have h1' : x < n := by omega
          clear h1
          cases k with
          | zero =>
            have HN : Hid (setAt n l (0 + 1) = isSetB l n) := by
              unfold Hid
              rw [← HT.out, HS.out]
              have : setLo l 0 ≤ x := h0'
              simp [this, h1']
            have HQ : Hid (∀ j y, j < 0 + 1 → l[j]? = some y → 0 ≤ y) := by
              unfold Hid
              intro j y hj hy
              obtain rfl : j = 0 := by omega
              rw [HX.out] at hy; cases hy; exact h0'
            rw [Nat.add_zero] at ha1
            clear ha' hx
            go_wp2_with fail
            go_round
            case rel => exact ⟨0 + 1, by omega, by go_num, HN.out, HQ.out⟩
            case measure => simp [intOf]; omega
          | succ j =>
            obtain ⟨y, hy⟩ : ∃ y, l[j]? = some y := ⟨_, List.getElem?_eq_getElem (by omega)⟩
            have ha2 := ha' j _ hy
            have e1 : (((j + 1 : Nat) : Int) - 1) = (j : Int) := by omega
            have hj0 : (0 : Int) < ((j + 1 : Nat) : Int) := by omega
            have HY := Lib.hid hy
            have HQ : Hid (∀ i z, i < j + 1 + 1 → l[i]? = some z → 0 ≤ z) := by
              unfold Hid
              intro i z hi hz
              by_cases e : i = j + 1
              · subst e; rw [HX.out] at hz; cases hz; exact h0'
              · exact HP.out i z (by omega) hz
            clear ha' hx hy
            by_cases hle : x ≤ y
            · have hf : Hid (isSetB l n = false) := by
                unfold Hid
                rw [← HT.out, HS.out]
                have : ¬ setLo l (j + 1) ≤ x := by rw [setLo_succ HY.out]; omega
                simp [this]
              go_wp2_with fail
              go_ret
              exact ⟨congrArg (fun b => Ending.returned (Value.bool b)) hf.out.symm, rfl⟩
            · have hgt : y < x := by omega
              clear hle
              have HN : Hid (setAt n l (j + 1 + 1) = isSetB l n) := by
                unfold Hid
                rw [← HT.out, HS.out]
                have : setLo l (j + 1) ≤ x := by rw [setLo_succ HY.out]; omega
                simp [this, h1']
              go_wp2_with fail
              go_round
              case rel => exact ⟨j + 1 + 1, by omega, by go_num, HN.out, HQ.out⟩
              case measure => simp [intOf]; omega
    · have hf : Hid (isSetB l n = true) := by unfold Hid; rw [← HT.out]; exact setAt_end (by omega)
      go_wp2_with fail
      go_ret
      exact ⟨congrArg (fun b => Ending.returned (Value.bool b)) hf.out.symm, rfl⟩

end Go.Proofs.YtjcgkmodmjckjaaGreat

/- IsSet of the reference; Disjoint. -/
namespace Go.Proofs.YtjcgkmodmjckjaaGreat
open Go.RowKit

theorem rIsSet_val (w : World) (v : Value) (l : List Int) (n : Int) (h : Ints w v l) (hn0 : 0 ≤ n) (hn1 : n ≤ 1000) :
    Calls Tryz.prog 53 #[v, .int .i64 n] w fun e w' => e = .returned (.bool (isSetB l n)) ∧ Keeps (fun _ => False) w w' := by
  obtain ⟨ao, ca, hv, ma⟩ := h.form
  have CA := Lib.hid (h.cell hv)
  subst hv
  clear h
  go_enter Tryz.func53, Tryz.ntmps53
  go_wp2_with fail
  go_loopw [5] (fun i wr => ∃ k : Nat, k ≤ l.length ∧ i = .int .i64 (k : Int) ∧ setAt n l k = isSetB l n ∧ (∀ j x, j < k → l[j]? = some x → 0 ≤ x) ∧ Keeps (fun _ => False) w wr) (fun i _ => l.length - (intOf i).toNat)
  case atStart => exact ⟨0, Nat.zero_le _, rfl, rfl, fun j x hj => by omega, Keeps.refl _ _⟩
  case round =>
    obtain ⟨k, hk, rfl, ht, hp, hkw⟩ := hrel
    have HT := Lib.hid ht; clear ht
    have HP := Lib.hid hp; clear hp
    have KW := Lib.hid hkw; clear hkw
    by_cases hlt : k < l.length
    · obtain ⟨ba, oa, rfl, ha'⟩ := CA.out (by omega)
      obtain ⟨x, hx⟩ : ∃ x, l[k]? = some x := ⟨_, List.getElem?_eq_getElem hlt⟩
      have ha1 := KW.out.cell (ha' k _ hx) (fun h => h)
      have HX := Lib.hid hx
      have HS := Lib.hid (setAt_step (n := n) hx)
      by_cases h0 : ¬ (0 ≤ x ∧ x ≤ n - 1)
      · have hf : Hid (isSetB l n = false) := by
          unfold Hid
          rw [← HT.out, HS.out]
          by_cases h1 : x < n
          · have : ¬ setLo l k ≤ x := by
              cases k with
              | zero => show ¬ (0 : Int) ≤ x; omega
              | succ j =>
                obtain ⟨y, hy⟩ : ∃ y, l[j]? = some y := ⟨_, List.getElem?_eq_getElem (by omega)⟩
                have := HP.out j y (by omega) hy
                rw [setLo_succ hy]; omega
            simp [this]
          · simp [h1]
        have HIN := Lib.hid (inB_false' h0)
        clear ha' hx h0
        go_wp2_with fail
        go_quiet ((go_at_call 52; exact Calls.quiet_of_same (in_val _ HIN.out)))
        go_wp2_with fail
        go_ret
        exact ⟨congrArg (fun b => Ending.returned (Value.bool b)) hf.out.symm, KW.out.drewN _⟩
      · have h0' : 0 ≤ x := by omega
        have h1' : x < n := by omega
        have HIN := Lib.hid (inB_true' h0' (by omega : x ≤ n - 1))
        clear h0
        cases k with
        | zero =>
          have HN : Hid (setAt n l (0 + 1) = isSetB l n) := by
            unfold Hid
            rw [← HT.out, HS.out]
            have : setLo l 0 ≤ x := h0'
            simp [this, h1']
          have HQ : Hid (∀ j y, j < 0 + 1 → l[j]? = some y → 0 ≤ y) := by
            unfold Hid
            intro j y hj hy
            obtain rfl : j = 0 := by omega
            rw [HX.out] at hy; cases hy; exact h0'
          rw [Nat.add_zero] at ha1
          clear ha' hx
          go_wp2_with fail
          go_quiet ((go_at_call 52; exact Calls.quiet_of_same (in_val _ HIN.out)))
          go_wp2_with fail
          go_roundw
          case rel => exact ⟨0 + 1, by omega, by go_num, HN.out, HQ.out, KW.out.drewN _⟩
          case measure => simp [intOf]; omega
        | succ j =>
          obtain ⟨y, hy⟩ : ∃ y, l[j]? = some y := ⟨_, List.getElem?_eq_getElem (by omega)⟩
          have ha2 := KW.out.cell (ha' j _ hy) (fun h => h)
          have e1 : (((j + 1 : Nat) : Int) - 1) = (j : Int) := by omega
          have hj0 : (0 : Int) < ((j + 1 : Nat) : Int) := by omega
          have HY := Lib.hid hy
          have HQ : Hid (∀ i z, i < j + 1 + 1 → l[i]? = some z → 0 ≤ z) := by
            unfold Hid
            intro i z hi hz
            by_cases e : i = j + 1
            · subst e; rw [HX.out] at hz; cases hz; exact h0'
            · exact HP.out i z (by omega) hz
          clear ha' hx hy
          by_cases hle : x ≤ y
          · have hf : Hid (isSetB l n = false) := by
              unfold Hid
              rw [← HT.out, HS.out]
              have : ¬ setLo l (j + 1) ≤ x := by rw [setLo_succ HY.out]; omega
              simp [this]
            go_wp2_with fail
            go_quiet ((go_at_call 52; exact Calls.quiet_of_same (in_val _ HIN.out)))
            go_wp2_with fail
            go_ret
            exact ⟨congrArg (fun b => Ending.returned (Value.bool b)) hf.out.symm, KW.out.drewN _⟩
          · have hgt : y < x := by omega
            have hgt' : decide (x ≤ y) = false := by simpa using hle
            clear hle
            have HN : Hid (setAt n l (j + 1 + 1) = isSetB l n) := by
              unfold Hid
              rw [← HT.out, HS.out]
              have : setLo l (j + 1) ≤ x := by rw [setLo_succ HY.out]; omega
              simp [this, h1']
            go_wp2_with fail
            go_quiet ((go_at_call 52; exact Calls.quiet_of_same (in_val _ HIN.out)))
            go_wp2_with fail
            go_roundw
            case rel => exact ⟨j + 1 + 1, by omega, by go_num, HN.out, HQ.out, KW.out.drewN _⟩
            case measure => simp [intOf]; omega
    · have hf : Hid (isSetB l n = true) := by unfold Hid; rw [← HT.out]; exact setAt_end (by omega)
      go_wp2_with fail
      go_ret
      exact ⟨congrArg (fun b => Ending.returned (Value.bool b)) hf.out.symm, KW.out⟩

set_option maxHeartbeats 1000000 in
theorem disjoint_any (w : World) (va vb : Value) (a b : List Int) (ha : Ints w va a) (hb : Ints w vb b) :
    Calls Tryz.prog 54 #[va, vb] w fun e w' => e = .returned (.bool (disjB a b)) ∧ w = w' := by
  obtain ⟨ao, ca, hv, ma⟩ := ha.form
  have CA := Lib.hid (ha.cell hv)
  have HB := Lib.hid hb
  obtain ⟨bo, cb, hvb, mb⟩ := hb.form
  subst hv hvb
  clear ha hb
  go_enter Tryz.func54, Tryz.ntmps54
  go_wp2_with fail
  go_loop [5] (fun i => ∃ k : Nat, k ≤ a.length ∧ i = .int .i64 (k : Int) ∧ disjB (a.take k) b = true) (fun i => a.length - (intOf i).toNat)
  case atStart => exact ⟨0, Nat.zero_le _, rfl, rfl⟩
  case round =>
    obtain ⟨k, hk, rfl, ht⟩ := hrel
    have HT := Lib.hid ht; clear ht
    by_cases hlt : k < a.length
    · obtain ⟨ba, oa, rfl, ha'⟩ := CA.out (by omega)
      obtain ⟨x, hx⟩ : ∃ x, a[k]? = some x := ⟨_, List.getElem?_eq_getElem hlt⟩
      have ha1 := ha' k _ hx
      have HX := Lib.hid hx
      clear ha' hx
      have e2 := take_getS HX.out
      by_cases hm : x ∈ b
      · have hf : Hid (disjB a b = false) := by
          unfold Hid disjB
          rw [List.all_eq_false]
          exact ⟨x, List.mem_of_getElem? HX.out, by simp [hm]⟩
        have HD := Lib.hid (decide_eq_true hm)
        clear hm e2
        go_wp2_with fail
        refine (has_any _ _ _ _ HB.out).mono ?_; rintro e w1 ⟨rfl, rfl⟩
        rw [HD.out]
        go_wp2_with fail
        go_ret
        exact ⟨congrArg (fun b => Ending.returned (Value.bool b)) hf.out.symm, rfl⟩
      · have HN : Hid (disjB (a.take (k + 1)) b = true) := by
          unfold Hid
          rw [e2]
          have := HT.out
          unfold disjB at this ⊢
          rw [List.all_append, this]
          simp [hm]
        have HD := Lib.hid (decide_eq_false hm)
        clear hm e2
        go_wp2_with fail
        refine (has_any _ _ _ _ HB.out).mono ?_; rintro e w1 ⟨rfl, rfl⟩
        rw [HD.out]
        go_wp2_with fail
        go_round
        case rel => exact ⟨k + 1, by omega, by go_num, HN.out⟩
        case measure => simp [intOf]; omega
    · have hf : Hid (disjB a b = true) := by
        unfold Hid
        have := HT.out
        rwa [List.take_of_length_le (by omega)] at this
      go_wp2_with fail
      go_ret
      exact ⟨congrArg (fun b => Ending.returned (Value.bool b)) hf.out.symm, rfl⟩

end Go.Proofs.YtjcgkmodmjckjaaGreat

namespace Go.Proofs.YtjcgkmodmjckjaaGreat
open Go.RowKit

theorem bsearch_any (w : World) (v : Value) (l : List Int) (x : Int) (h : Ints w v l) (hs : l.Pairwise (· < ·)) (hlen : l.length < 4611686018427387904) :
    Calls Tryz.prog 133 #[v, .int .i64 x] w fun e w' => ∃ k : Int, e = .returned (.tuple #[.int .i64 k, .bool (decide (x ∈ l))]) ∧ ∃ q, w' = w.drewN q := by
  obtain ⟨ao, ca, hv, ma⟩ := h.form
  have CA := h.cell hv
  subst hv
  by_cases hl : 0 < l.length
  · obtain ⟨b, off, rfl, hc⟩ := CA hl
    refine (Tryz.slices_BinarySearch_int b off l.length ca l x w (Nat.le_refl _) hlen (fun j hj => ?_) (by rw [List.take_length]; exact hs.imp (fun h => by omega))).mono ?_
    · obtain ⟨y, hy⟩ : ∃ y, l[j]? = some y := ⟨_, List.getElem?_eq_getElem hj⟩
      rw [hc j y hy, List.getD_eq_getElem?_getD, hy]; rfl
    · rintro e w' ⟨rfl, hw⟩
      have : (l.take l.length).contains x = decide (x ∈ l) := by
        rw [List.take_length]
        cases hd : decide (x ∈ l) with
        | true => simpa using hd
        | false => simpa using hd
      rw [this]
      exact ⟨_, rfl, hw⟩
  · obtain rfl : l = [] := List.length_eq_zero_iff.1 (by omega)
    refine (Tryz.slices_BinarySearch_int_empty ao ca x w).mono ?_
    rintro e w' ⟨rfl, rfl⟩
    exact ⟨0, by simp, 0, rfl⟩

theorem meets1_any (w : World) (a : Nat) (v : Value) (l : List Int) (x : Int) (h : Ints w v l) (hs : l.Pairwise (· < ·)) (hlen : l.length < 4611686018427387904) (hb : w.cell? ⟨a, 0, none⟩ = some v) :
    Calls Tryz.prog 132 #[.int .i64 x, .pointer (some ⟨a, 0, none⟩)] w fun e w' => e = .returned (.bool (decide (x ∈ l))) ∧ ∃ q, w' = w.drewN q := by
  obtain ⟨ao, ca, hv, ma⟩ := h.form
  have HI := Lib.hid h
  have HS := Lib.hid hs
  subst hv
  clear h hs
  generalize hm : decide (x ∈ l) = r
  have HM := Lib.hid hm
  clear hm
  go_enter Tryz.func132, Tryz.ntmps132
  go_wp2_with fail
  refine (bsearch_any _ _ _ _ HI.out HS.out hlen).mono ?_; rintro e w1 ⟨k, rfl, q, rfl⟩
  rw [HM.out]
  go_wp2_with fail
  go_ret
  exact ⟨rfl, q, rfl⟩

/-- The place of the first element of a in b, or -1. -/
theorem indexFunc_any (w : World) (va vb : Value) (a b : List Int) (bx : Nat) (ha : Ints w va a) (hb : Ints w vb b) (hs : b.Pairwise (· < ·)) (hlen : b.length < 4611686018427387904) (hbx : w.cell? ⟨bx, 0, none⟩ = some vb) :
    Calls Tryz.prog 143 #[va, .func (.func 132) #[] #[.pointer (some ⟨bx, 0, none⟩)]] w fun e w' => ∃ k : Int, e = .returned (.int .i64 k) ∧ (decide (0 ≤ k) = !disjB a b) ∧ Keeps (fun _ => False) w w' := by
  obtain ⟨ao, ca, hv, ma⟩ := ha.form
  have CA := Lib.hid (ha.cell hv)
  have HB := Lib.hid hb; have HS := Lib.hid hs; have HX := Lib.hid hbx
  subst hv
  clear ha hb hs hbx
  go_enter Tryz.func143, Tryz.ntmps143
  go_wp2_with fail
  go_loopw [8] (fun i wr => ∃ k : Nat, k ≤ a.length ∧ i = .int .i64 (k : Int) ∧ disjB (a.take k) b = true ∧ Keeps (fun _ => False) w wr) (fun i _ => a.length - (intOf i).toNat)
  case atStart => exact ⟨0, Nat.zero_le _, rfl, rfl, Keeps.refl _ _⟩
  case round =>
    obtain ⟨k, hk, rfl, ht, hkw⟩ := hrel
    have HT := Lib.hid ht; clear ht
    have KW := Lib.hid hkw; clear hkw
    by_cases hlt : k < a.length
    · obtain ⟨ba, oa, rfl, ha'⟩ := CA.out (by omega)
      obtain ⟨x, hx⟩ : ∃ x, a[k]? = some x := ⟨_, List.getElem?_eq_getElem hlt⟩
      have ha1 := KW.out.cell (ha' k _ hx) (fun h => h)
      have HXX := Lib.hid hx
      have e2 := take_getS hx
      clear ha' hx
      by_cases hm : x ∈ b
      · have hf : Hid (disjB a b = false) := by
          unfold Hid disjB
          rw [List.all_eq_false]
          exact ⟨x, List.mem_of_getElem? HXX.out, by simp [hm]⟩
        have HD := Lib.hid (decide_eq_true hm)
        clear hm e2
        go_wp2_with fail
        refine (meets1_any _ bx _ _ _ (HB.out.keeps0 KW.out) HS.out hlen (KW.out.cell HX.out (fun h => h))).mono ?_; rintro e w1 ⟨rfl, q, rfl⟩
        rw [HD.out]
        go_wp2_with fail
        go_ret
        exact ⟨_, rfl, by rw [hf.out]; simp, KW.out.drewN q⟩
      · have HN : Hid (disjB (a.take (k + 1)) b = true) := by
          unfold Hid
          rw [e2]
          have := HT.out
          unfold disjB at this ⊢
          rw [List.all_append, this]
          simp [hm]
        have HD := Lib.hid (decide_eq_false hm)
        clear hm e2
        go_wp2_with fail
        refine (meets1_any _ bx _ _ _ (HB.out.keeps0 KW.out) HS.out hlen (KW.out.cell HX.out (fun h => h))).mono ?_; rintro e w1 ⟨rfl, q, rfl⟩
        rw [HD.out]
        go_wp2_with fail
        go_roundw
        case rel => exact ⟨k + 1, by omega, by go_num, HN.out, KW.out.drewN q⟩
        case measure => simp [intOf]; omega
    · have hf : Hid (disjB a b = true) := by
        unfold Hid
        have := HT.out
        rwa [List.take_of_length_le (by omega)] at this
      go_wp2_with fail
      go_ret
      exact ⟨_, rfl, by rw [hf.out]; rfl, KW.out⟩

theorem containsFunc_any (w : World) (va vb : Value) (a b : List Int) (bx : Nat) (ha : Ints w va a) (hb : Ints w vb b) (hs : b.Pairwise (· < ·)) (hlen : b.length < 4611686018427387904) (hbx : w.cell? ⟨bx, 0, none⟩ = some vb) :
    Calls Tryz.prog 126 #[va, .func (.func 132) #[] #[.pointer (some ⟨bx, 0, none⟩)]] w fun e w' => e = .returned (.bool (!disjB a b)) ∧ Keeps (fun _ => False) w w' := by
  have H := Lib.hid (indexFunc_any w va vb a b bx ha hb hs hlen hbx)
  clear ha hb hs hbx
  generalize (!disjB a b) = r at H ⊢
  go_enter Tryz.func126, Tryz.ntmps126
  go_wp2_with fail
  refine H.out.mono ?_; rintro e w1 ⟨k, rfl, hk, hkw⟩
  have KW := Lib.hid hkw
  have HK := Lib.hid hk
  clear hkw hk
  go_wp2_with fail
  go_ret
  exact ⟨congrArg (fun b => Ending.returned (Value.bool b)) HK.out, KW.out⟩

theorem meets_any (w : World) (va vb : Value) (a b : List Int) (ha : Ints w va a) (hb : Ints w vb b) (hs : b.Pairwise (· < ·)) (hlen : b.length < 4611686018427387904) :
    Calls Tryz.prog 106 #[va, vb] w fun e w' => e = .returned (.bool (!disjB a b)) ∧ Keeps (fun _ => False) w w' := by
  have HA := Lib.hid ha; have HB := Lib.hid hb; have HS := Lib.hid hs
  obtain ⟨ao, ca, hva, ma⟩ := ha.form
  obtain ⟨bo, cb, hvb, mb⟩ := hb.form
  subst hva hvb
  clear ha hb hs
  generalize hr : (!disjB a b) = r
  have HR := Lib.hid hr
  clear hr
  go_enter Tryz.func106, Tryz.ntmps106
  go_wp2_with fail
  have K1 := (Keeps.refl (fun _ => False) w).alloc (.cells #[.slice bo b.length cb] 22)
  refine (containsFunc_any _ _ _ a b w.heap.size (HA.out.keeps0 K1) (HB.out.keeps0 K1) HS.out hlen ((cell_of_blk (heap_alloc_new w _)).trans rfl)).mono ?_; rintro e w1 ⟨rfl, hk⟩
  rw [HR.out]
  have KW := Lib.hid (K1.trans hk)
  clear hk K1
  go_wp2_with fail
  go_ret
  exact ⟨rfl, KW.out⟩

end Go.Proofs.YtjcgkmodmjckjaaGreat
