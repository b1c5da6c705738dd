/- A slice that is cut at its head and appended to at its end. Nothing here speaks of one program. slices.Reverse over owned rows; space.Path. breadth.First: the tree of a breadth-first search. space.Steps: what its first loop knows. The queue's heap: what the slice of entries reads as; Less, Swap, Len walked. The library's heap over the queue's entries: up, down, Fix, Remove, Push, Pop: what they make of the list. The library's heap over the queue's entries: the slice's own Push, Pop, Len; heap.Fix, Remove, Push, Pop. The slice's own Push, and heap.Push. No condition beyond what each theorem says. -/
import Derived.Test.YtdokakhgflljgaaGreatM1
import Derived.Deep.AppendSrc
import Derived.Test.YtdokakhgflljgaaGreatM3
import Derived.Test.YtdokakhgflljgaaGreatM4
import Derived.Test.YtdokakhgflljgaaGreatM2
import Derived.Test.YtdokakhgflljgaaGreatProg

namespace Go.Proofs.YtdokakhgflljgaaGreat
open Go.RowKit

/-- v: a window on a row of one-cell elements, which reads as xs. -/
def Tail (w : World) (base : Nat) (e : TypeId) (v : Value) (xs : List Value) : Prop :=
 ∃ (g off cap : Nat) (cur : Array Value), v = .slice (some ⟨g, off, none⟩) xs.length cap ∧ base ≤ g ∧ w.heap[g]? = some (.cells cur e (0, 0)) ∧ xs.length ≤ cap ∧ cap ≤ maxLen ∧ off + cap ≤ cur.size ∧ (cur.toList.drop off).take xs.length = xs

section
variable {w w' : World} {base : Nat} {e : TypeId} {v : Value} {xs : List Value}
theorem Tail.keeps {S : Nat → Prop} (h : Tail w base e v xs) (hk : Keeps S w w') (hs : ∀ k, v.ownBlock = some k → ¬ S k) : Tail w' base e v xs := by
 obtain ⟨g, off, cap, cur, rfl, hb, hg, rest⟩ := h
 exact ⟨g, off, cap, cur, rfl, hb, hk.heap hg (hs g rfl), rest⟩
theorem Tail.lt (h : Tail w base e v xs) (k : Nat) (hk : v.ownBlock = some k) : base ≤ k ∧ k < w.heap.size := by
 obtain ⟨g, off, cap, cur, rfl, hb, hg, rest⟩ := h
 simp [Value.ownBlock] at hk; subst hk
 exact ⟨hb, lt_of_heap hg⟩
theorem Tail.block (h : Tail w base e v xs) (k : Nat) (hk : v.ownBlock = some k) : ∃ cur, w.heap[k]? = some (.cells cur e (0, 0)) := by
 obtain ⟨g, off, cap, cur, rfl, hb, hg, rest⟩ := h
 simp [Value.ownBlock] at hk; subst hk
 exact ⟨_, hg⟩
theorem Tail.not_deferred (h : Tail w base e v xs) (k : Nat) (hk : v.ownBlock = some k) : w.heap[k]? ≠ some (.deferred (some [])) := by
 obtain ⟨cur, hg⟩ := h.block k hk
 exact cells_not_deferred hg
theorem Tail.not_map {b : Nat} {kd : IntKind} {l : List (Int × Value)} (hm : IMap w b kd l) (h : Tail w base e v xs) : v.ownBlock ≠ some b := by
 intro e'
 obtain ⟨cur, hg⟩ := h.block b e'
 obtain ⟨es, c, hb, _⟩ := hm
 rw [hg] at hb; cases hb
theorem Tail.not_box {b : Nat} {t : TypeId} {u : Value} (h : Tail w base e v xs) (hx : w.heap[b]? = some (.cells #[u] t (0, 0))) (ht : t ≠ e) : v.ownBlock ≠ some b := by
 intro e'
 obtain ⟨cur, hg⟩ := h.block b e'
 rw [hg] at hx
 simp at hx
 exact ht hx.2.symm
theorem Tail.steady {row : Option Nat} (hg : w.grownBy w' row) (hr : ∀ r, row = some r → ∃ o : Obj, w.heap[r]? = some o ∧ o.isCells = false) (h : Tail w base e v xs) : Tail w' base e v xs := by
 obtain ⟨g, off, cap, cur, rfl, hb, hgg, rest⟩ := h
 exact ⟨g, off, cap, cur, rfl, hb, steady_heap hg hr hgg, rest⟩
theorem Tail.head {g off n cap : Nat} {x : Value} (h : Tail w base e (.slice (some ⟨g, off, none⟩) n cap) (x :: xs)) : w.cell? ⟨g, off, none⟩ = some x := by
 obtain ⟨g', off', cap', cur, hv, hb, hg, h1, h2, h3, h4⟩ := h
 simp only [Value.slice.injEq, Option.some.injEq, Addr.mk.injEq] at hv
 obtain ⟨⟨rfl, rfl, _⟩, rfl, rfl⟩ := hv
 rw [cell_of_blk hg]
 have := congrArg (fun l : List Value => l[0]?) h4
 simp only [List.getElem?_take, List.getElem?_drop] at this
 simpa using this
theorem Tail.form (h : Tail w base e v xs) : ∃ g off cap, v = .slice (some ⟨g, off, none⟩) xs.length cap ∧ xs.length ≤ cap ∧ cap ≤ maxLen ∧ base ≤ g ∧ g < w.heap.size := by
 obtain ⟨g, off, cap, cur, hv, hb, hg, h1, h2, _⟩ := h
 exact ⟨g, off, cap, hv, h1, h2, hb, lt_of_heap hg⟩

/-- The address behind the first element, as the machine tells it. -/
def cutAt (g off cap : Nat) : Addr := if cap = 1 then ⟨g, off, none⟩ else ⟨g, off + 1, none⟩
theorem cutAt_block (g off cap : Nat) : (cutAt g off cap).block = g := by unfold cutAt; split <;> rfl
theorem Tail.cut {g off n cap : Nat} {x : Value} (h : Tail w base e (.slice (some ⟨g, off, none⟩) (n + 1) cap) (x :: xs)) (hn : xs.length = n) : Tail w base e (.slice (some (cutAt g off cap)) n (cap - 1)) xs := by
 obtain ⟨g', off', cap', cur, hv, hb, hg, h1, h2, h3, h4⟩ := h
 simp only [Value.slice.injEq, Option.some.injEq, Addr.mk.injEq] at hv
 obtain ⟨⟨rfl, rfl, _⟩, _, rfl⟩ := hv
 have ht : (cur.toList.drop (off + 1)).take xs.length = xs := by
  have := congrArg (List.drop 1) h4
  rw [List.drop_take, List.drop_drop] at this
  simpa using this
 simp only [List.length_cons] at h1
 by_cases hc : cap = 1
 ·have hz : xs = [] := List.length_eq_zero_iff.1 (by omega)
  subst hz
  refine ⟨g, off, cap - 1, cur, by simp [cutAt, hc, ← hn], hb, hg, by simp, by omega, by omega, by simp⟩
 ·exact ⟨g, off + 1, cap - 1, cur, by simp [cutAt, hc, hn], hb, hg, by omega, by omega, by omega, ht⟩

theorem Tail.new (W : World) (base : Nat) (e : TypeId) (x : Value) (hb : base ≤ W.heap.size) : Tail (W.alloc (.cells #[x] e)) base e (.slice (some ⟨W.heap.size, 0, none⟩) 1 1) [x] :=
 ⟨W.heap.size, 0, 1, #[x], rfl, hb, heap_alloc_new W _, by simp, by unfold maxLen; omega, by simp, by simp⟩
end

section
variable {P : Program} (w : World)
theorem run_append_tail (base : Nat) (t ty e : TypeId) (i : TypeInfo) (z : Value) (bytes : Nat) (ht : P.underlying t = some (.slice e)) (hi : P.info? e = some i) (hz : i.zero = some z)
  (hsize : i.size = 1) (hby : i.bytes = bytes) (hzs : z.cells.size = 1)
  (v : Value) (xs : List Value) (hown : Tail w base e v xs) (ad : Addr) (c : Nat) (u : Value) (hnew : w.cell? ad = some u) (h1 : u.oneCell' = true)
  (h63 : xs.length + 1 ≤ maxLen) (hbytes : (xs.length + 1) * bytes ≤ 140737488355328) (hbase : base ≤ w.heap.size) :
  ∃ g off cap w', (Builtin.append_ #[t, t] ty #[v, .slice (some ad) 1 c]).run P w = .ok (.slice (some ⟨g, off, none⟩) (xs.length + 1) cap) w' ∧
   Tail w' base e (.slice (some ⟨g, off, none⟩) (xs.length + 1) cap) (xs ++ [u]) ∧ w.grownBy w' v.ownBlock ∧ (v.ownBlock = some g ∨ g = w.heap.size) ∧ g < w'.heap.size := by
 obtain ⟨g, off, cap, cur, rfl, hb, hg, hn, hcm, hcs, htake⟩ := hown
 have hnews : ∀ j u', [u][j]? = some u' → w.cell? (ad.add j) = some u' := by
  intro j u' hj
  cases j with
  | zero => simp at hj; subst hj; simpa [Addr.add] using hnew
  | succ j => simp at hj
 by_cases hroom : xs.length + 1 ≤ cap
 ·have hsrc := Src.ofSlice (P := P) (size := i.size) w ht ad 1 c [u] (by rw [hsize]; rfl) hnews (by intro u' hu; simp at hu; subst hu; exact h1)
  have hr := run_append_room_src (P := P) w t t ty e i ht hi g off xs.length cap _ 1 [u] hsrc hroom
   (by
    intro j hj
    simp at hj
    subst hj
    rw [cell_of_blk hg, hsize, Nat.mul_one, Nat.add_zero]
    rw [Array.getElem?_eq_getElem (by omega)]; rfl)
   (by intro j hj; exact frozen_of_blk hg)
  rw [hsize, Nat.mul_one] at hr
  have hw' : w.setCells g (off + xs.length) [u] = w.setCell ⟨g, off + xs.length, none⟩ u := rfl
  rw [hw'] at hr
  refine ⟨g, off, cap, _, hr, ⟨g, off, cap, cur.setIfInBounds (off + xs.length) u, by simp, hb, blk_set_same hg u, by simpa using hroom, hcm, by simpa using hcs, ?_⟩, ?_, .inl rfl, ?_⟩
  ·apply List.ext_getElem?
   intro j
   rw [List.length_append, List.length_singleton, List.getElem?_take]
   by_cases hj : j < xs.length + 1
   ·rw [if_pos hj, List.getElem?_drop, Array.toList_setIfInBounds, List.getElem?_set]
    by_cases hj2 : j = xs.length
    ·subst hj2
     simp; omega
    ·have : ¬ off + xs.length = off + j := by omega
     rw [if_neg this, List.getElem?_append_left (by omega)]
     have h2 := congrArg (fun l : List Value => l[j]?) htake
     simp only [List.getElem?_take, List.getElem?_drop] at h2
     rw [if_pos (by omega)] at h2
     exact h2
   ·rw [if_neg hj, List.getElem?_eq_none (by simp; omega)]
  ·refine ⟨rfl, rfl, rfl, by simp, fun k hk hne => ?_⟩
   exact heap_setCell_other w ⟨g, off + xs.length, none⟩ k u (by rintro rfl; exact hne rfl)
  ·have := lt_of_heap hg; simpa using this
 ·have hold : ∀ j u', xs[j]? = some u' → w.cell? ((⟨g, off, none⟩ : Addr).add j) = some u' := by
   intro j u' hj
   have hadd : (⟨g, off, none⟩ : Addr).add j = ⟨g, off + j, none⟩ := by unfold Addr.add; split <;> simp_all
   rw [hadd, cell_of_blk hg]
   rw [← htake, List.getElem?_take] at hj
   split at hj
   ·rw [List.getElem?_drop] at hj; simpa using hj
   ·cases hj
  have hsmall : xs.length + 1 ≤ 9223372036854775807 := by simp only [maxLen] at h63; omega
  subst hby
  have hr := run_append_grow (P := P) w t ty e i z ht hi hz ⟨g, off, none⟩ xs.length cap xs (by rw [hsize, Nat.mul_one]) hold ad 1 c [u] (by rw [hsize]; rfl) hnews (by omega) (by omega) (growslice_fits (by omega) hbytes)
  have hge := grownCap_ge w (xs.length + 1) cap e
  have hcm2 : grownCap w (xs.length + 1) cap e ≤ maxLen := grownCap_le_maxLen w _ cap e h63
  refine ⟨w.heap.size, 0, _, _, hr, ⟨w.heap.size, 0, grownCap w (xs.length + 1) cap e, _, by simp, hbase, heap_alloc_new w.drew _, by simpa using hge, hcm2, ?_, ?_⟩, ⟨rfl, rfl, rfl, by simp, fun k hk _ => Below.heap_alloc w.drew _ k hk⟩, .inr rfl, by simp⟩
  ·simp only [Array.size_append, List.size_toArray, size_zeroCells, hzs, List.length_singleton]
   omega
  ·simp only [Array.toList_append, List.drop_zero]
   rw [List.take_left' (by simp)]

theorem wpListIn_append_tail {F : Fence} {n : Nat} {ops : Array Oper} {rest : List Oper} {o : Oper} {a : Act} {Q : Exit → Act → World → Prop}
  (hg : o.guard = none) (s x : Operand) (t : TypeId) (hop : o.op = Op.call { callee := Callee.builtin Builtin.append, args := #[s, x], argTypes := #[t, t] })
  (base : Nat) (e : TypeId) (i : TypeInfo) (z : Value) (bytes : Nat) (h1 : P.underlying t = some (.slice e)) (h2 : P.info? e = some i) (h3 : i.zero = some z) (h4 : i.size = 1) (h5 : i.bytes = bytes) (h6 : z.cells.size = 1)
  (v : Value) (xs : List Value) (hs : a.eval s = v) (hown : Tail w base e v xs) (ad : Addr) (c : Nat) (u : Value) (hx : a.eval x = .slice (some ad) 1 c)
  (hc : w.cell? ad = some u) (h1c : u.oneCell' = true) (k : Nat) (hk : xs.length = k) (b1 : k + 1 ≤ maxLen) (b2 : (k + 1) * bytes ≤ 140737488355328) (b3 : base ≤ w.heap.size) (H : Nat) (hH : w.heap.size = H)
  (hK : ∀ g off cap w', Tail w' base e (.slice (some ⟨g, off, none⟩) (k + 1) cap) (xs ++ [u]) → w.grownBy w' v.ownBlock → (v.ownBlock = some g ∨ g = H) → g < w'.heap.size → wpListIn F n P ops Q rest (a.put o.dst (.slice (some ⟨g, off, none⟩) (k + 1) cap)) w') :
  wpListIn F n P ops Q (o :: rest) a w := by
 refine wpListIn_plain hg fun K hK' => ?_
 subst hk
 obtain ⟨g, off, cap, w', hrun, r1, r2, r3, r4⟩ := run_append_tail (P := P) w base t o.type e i z bytes h1 h2 h3 h4 h5 h6 v xs hown ad c u hc h1c b1 b2 b3
 rw [hH] at r3
 unfold Oper.wpIn
 refine ⟨?_, ?_⟩
 ·simp [Oper.about, hop, resolve, Target.leads, Sem.run_pure]
 ·rw [Oper.semAt_plain F _ _ (by rw [hop]; intro c hc'; cases hc')]
  simp [execOp, hop, resolve, invoke, builtin, hs, hx, hrun, Result.andThen]
  exact hK' _ _ (hK g off cap w' r1 r2 r3 r4)
end

end Go.Proofs.YtdokakhgflljgaaGreat

namespace Go.Proofs.YtdokakhgflljgaaGreat
open Go.RowKit Go.Sort Go.Proofs

section
variable {α : Type} [Inhabited α] (enc : α → Value)
theorem holdsE_of_block {w : World} {g : Nat} {cur : Array Value} {e : TypeId} {ss : List α} (hb : w.heap[g]? = some (.cells cur e (0, 0))) (ht : cur.toList.take ss.length = ss.map enc) : Holds enc w g 0 ss.toArray := by
 intro j hj
 have hj' : j < ss.length := by simpa using hj
 refine ⟨?_, by simp [World.frozen?, hb]⟩
 have h1 : (cur.toList.take ss.length)[j]? = (ss.map enc)[j]? := by rw [ht]
 rw [List.getElem?_take_of_lt hj'] at h1
 simp only [World.cell?, hb, Nat.zero_add]
 simp only [Option.isSome_none, Bool.false_eq_true, if_false]
 rw [← Array.getElem?_toList, h1]
 simp [hj']
theorem take_putCellsE (cur : Array Value) (ts : List α) (h : ts.length ≤ cur.size) : (putCells enc 0 ts.toArray cur).toList.take ts.length = ts.map enc := by
 apply List.ext_getElem?
 intro j
 by_cases hj : j < ts.length
 ·rw [List.getElem?_take_of_lt hj, Array.getElem?_toList]
  simp [putCells, hj, show j < cur.size by omega]
 ·rw [List.getElem?_take_eq_none (by omega), List.getElem?_eq_none (by simp; omega)]
theorem heap_putE {w : World} {g n : Nat} {cur : Array Value} {e : TypeId} {fr : Nat × Nat} (d : Array α) (hb : w.heap[g]? = some (.cells cur e fr)) :
  (putRow enc (Sort.ahead w n) g 0 d).heap[g]? = some (.cells (putCells enc 0 d cur) e fr) := by
 simp [putRow, mapBlock, Sort.ahead, Array.getElem?_modify, hb, onCells]
theorem keeps_putE {w : World} {g n : Nat} (d : Array α) : Keeps (fun b => b = g) w (putRow enc (Sort.ahead w n) g 0 d) := by
 refine ⟨rfl, rfl, rfl, by simp [putRow, mapBlock, Sort.ahead], fun k hk hne => ?_⟩
 have : g ≠ k := fun e => hne e.symm
 simp [putRow, mapBlock, Sort.ahead, Array.getElem?_modify, this]
end

theorem reverse_any (w : World) (base : Nat) (T : TypeId) (v : Value) (l : List Int) (hown : w.ownsRow base T 1 v l.length (l.map (Value.int .i64))) (hlen : l.length ≤ 9223372036854775807) :
  Calls Tryz.prog 75 #[v] w fun e w' => e = .returned (.tuple #[]) ∧ w'.ownsRow base T 1 v l.length (l.reverse.map (Value.int .i64)) ∧ Keeps (fun b => v.ownBlock = some b) w w' := by
 rcases hown.2 with ⟨rfl, h0⟩ | ⟨g, cap, cur, rfl, hb, hg, hn, hm, hs, ht⟩
 ·have hz : l = [] := List.length_eq_zero_iff.1 h0
  subst hz
  refine (Tryz.slices_Reverse_int_empty none 0 w).mono ?_
  rintro e w' ⟨rfl, rfl⟩
  exact ⟨rfl, World.ownsRow_nil _ _ _ _, Keeps.refl _ _⟩
 ·have ht' : cur.toList.take l.length = l.map (Value.int .i64) := by simpa using ht
  refine (Tryz.slices_Reverse_int g 0 cap l w (holdsE_of_block (Value.int .i64) hg ht') hlen).mono ?_
  rintro e w' ⟨rfl, n, rfl⟩
  refine ⟨rfl, ⟨by simp, .inr ⟨g, cap, _, rfl, hb, heap_putE (Value.int .i64) _ hg, hn, hm, by simp [putCells, hs], ?_⟩⟩, (keeps_putE (Value.int .i64) _).mono (fun i _ h => by subst h; rfl)⟩
  have := take_putCellsE (Value.int .i64) cur l.reverse (by simp; omega)
  simpa using this

/-! ### space.Path -/
/-- The map of a tree. -/
def parL (T : List Ent) : List (Int × Value) := T.map fun e => ((e.to : Int), Value.agg #[.int .u32 (e.frm : Int), .int .i64 (e.op : Int)])
theorem parL_nodup {T : List Ent} (h : (keysT T).Nodup) : ((parL T).map Prod.fst).Nodup := by
 have e : (parL T).map Prod.fst = (keysT T).map fun x : Nat => (x : Int) := by unfold parL keysT; rw [List.map_map, List.map_map]; rfl
 rw [e]
 exact List.Pairwise.map _ (fun a b hab => by omega) h
theorem parL_mem {T : List Ent} {e : Ent} (h : e ∈ T) : ((e.to : Int), Value.agg #[.int .u32 (e.frm : Int), .int .i64 (e.op : Int)]) ∈ parL T := List.mem_map.2 ⟨e, h, rfl⟩
theorem parL_miss {T : List Ent} {x : Nat} (h : x ∉ keysT T) : ∀ p ∈ parL T, p.1 ≠ (x : Int) := by
 intro p hp e
 obtain ⟨y, hy, rfl⟩ := List.mem_map.1 hp
 have : y.to = x := by simp only at e; omega
 exact h (List.mem_map.2 ⟨y, hy, this⟩)

def intsP (p : List Nat) : List Int := p.map fun x : Nat => (x : Int)

set_option maxRecDepth 100000 in
set_option maxHeartbeats 1000000 in
theorem path_any (w : World) (m : Nat) (ops : List Wop) (s i : Nat) (T : List Ent) (k : Nat) (e : Ent) (ok : TreeOk ops s i T) (hm : IMap w m .u32 (parL T)) (he : T[k]? = some e) (few : T.length ≤ 100000) :
  Calls Tryz.prog 57 #[.map (some m), .int .u32 (s : Int), .int .u32 (e.to : Int)] w fun en w' => ∃ v, en = .returned v ∧ w'.ownsRow w.heap.size 3 1 v e.path.length ((intsP e.path).map (Value.int .i64)) ∧ Keeps (fun _ => False) w w' := by
 obtain ⟨i0, hi0, hz0, hz1, hz2⟩ := info_parts Tryz.info3
 have HM := Lib.hid hm; have OK := Lib.hid ok; have HE := Lib.hid he; have FEW := Lib.hid few
 have hkl := (List.getElem?_eq_some_iff.1 he).1
 clear hm ok he few
 go_enter Tryz.func57, Tryz.ntmps57
 go_wp2_with fail
 go_loopw [2, 7] (fun x v wr => ∃ (j : Nat) (f : Ent) (out : List Nat), T[j]? = some f ∧ out.length + j ≤ k ∧ e.path = f.path ++ out.reverse ∧ x = .int .u32 (f.to : Int) ∧ wr.ownsRow w.heap.size 3 1 v (intsP out).length ((intsP out).map (Value.int .i64)) ∧ Keeps (fun _ => False) w wr)
  (fun x _ _ => ((keysT T).idxOf (intOf x).toNat))
 case atStart => exact ⟨k, e, [], HE.out, by simp, by simp, rfl, World.ownsRow_nil _ _ _ _, Keeps.refl _ _⟩
 case round =>
  obtain ⟨j, f, out, hj, hjk, hp, rfl, hown, hkw⟩ := hrel
  have HO := Lib.hid hown; have KW := Lib.hid hkw; have HP := Lib.hid hp; have HJ := Lib.hid hj; have HJK := Lib.hid hjk
  have hmw := HM.out.keeps hkw (fun h => h)
  clear hown hkw hp hj hjk
  obtain ⟨av, cv, hv⟩ := ownsRow_form1 HO.out
  subst hv
  by_cases hne : f.to = s
  ·have hb : ((f.to : Int) != (s : Int)) = false := by simp [hne]
   have hf : f.path = [] := by
    have h0 := OK.out.inj HJ.out OK.out.head hne
    subst h0
    have h1 := HJ.out
    rw [OK.out.head] at h1
    cases h1; rfl
   have HPE := Lib.hid (show (intsP out).reverse = intsP e.path by
    rw [HP.out, hf]; simp [intsP])
   clear hne hf
   go_wp2_with fail
   refine (reverse_any _ _ _ _ (intsP out) HO.out (by have := HJK.out; have := FEW.out; simp [intsP]; omega)).mono ?_
   rintro e' w5 ⟨rfl, hown2, hk5⟩
   have HO5 := Lib.hid hown2
   have K5 := Lib.hid (KW.out.trans' hk5 (fun b hb => .inr (World.ownsRow.lt HO.out b hb).1))
   clear hown2 hk5
   go_wp2_with fail
   go_ret
   refine ⟨_, rfl, ?_, K5.out⟩
   have h2 : (intsP out).length = e.path.length := by
    have := congrArg List.length HPE.out
    simpa [intsP] using this
   have h1 := HO5.out
   rw [HPE.out] at h1
   generalize (Value.slice av (intsP out).length cv) = v at h1
   rw [h2] at h1
   exact h1
  ·have hb : ((f.to : Int) != (s : Int)) = true := by simp; omega
   have hj0 : 0 < j := by
    rcases Nat.eq_zero_or_pos j with h0 | h0
    ·exfalso
     have h1 := HJ.out
     rw [h0, OK.out.head] at h1
     cases h1; exact hne rfl
    ·exact h0
   obtain ⟨k2, g, h1, h2, h3, h4, h5, h6⟩ := OK.out.parent j f HJ.out hj0
   have HG := Lib.hid h3; have HFG := Lib.hid h4; have HPG := Lib.hid h5; have HKJ := Lib.hid h1
   have hlk := (hmw.run_lookup_hit (P := Tryz.prog) Tryz.underlying95 Tryz.underlying66 (parL_nodup OK.out.nodup) (parL_mem (List.mem_of_getElem? HJ.out))).2
   clear hne h1 h2 h3 h4 h5 h6 hj0
   have HB := Lib.hid (heap_alloc_new wr (.cells #[.int .u32 (f.frm : Int), .int .i64 (f.op : Int)] 94))
   have KA := Lib.hid ((Keeps.refl (fun _ => False) wr).alloc (.cells #[.int .u32 (f.frm : Int), .int .i64 (f.op : Int)] 94))
   go_upto_region 4 with fail
   generalize wr.alloc (.cells #[.int .u32 (f.frm : Int), .int .i64 (f.op : Int)] 94) = w3 at KA HB ⊢
   have c0 : w3.cell? ⟨wr.heap.size, 0, none⟩ = some (.int .u32 (f.frm : Int)) := by rw [cell_of_blk HB.out]; rfl
   have c1 : w3.cell? ⟨wr.heap.size, 1, none⟩ = some (.int .i64 (f.op : Int)) := by rw [cell_of_blk HB.out]; rfl
   have hO3 := KA.out.ownsRow HO.out (fun _ _ h => h)
   have hlen : (intsP out).length ≤ 100000 := by have := HJK.out; have := FEW.out; simp [intsP]; omega
   have hfew := FEW.out; have hs3 := KA.out.size; have hsw := KW.out.size
   go_wp2_with (at_builtin; refine wpList_append_d rfl _ _ _ rfl w.heap.size 3 i0 _ 1 8 Tryz.underlying22 hi0 hz0 hz1 hz2 rfl (by omega) _ (intsP out).length ((intsP out).map (Value.int .i64)) (by rfl) (World.ownsRow.alloc hO3 (.cells #[.int .i64 (f.op : Int)] 3)) ⟨w3.heap.size, 0, none⟩ 1 1 [.int .i64 (f.op : Int)] (by rfl) (by rfl) ?hnews ?hone (by omega) (by unfold maxLen; omega) (by omega) (by simp; omega) (w3.heap.size + 1) (by simp) ?_)
   case hnews => exact World.news_of_block (cs := #[.int .i64 (f.op : Int)]) (t := 3) (fr := (0, 0)) (heap_alloc_new _ _)
   case hone => simp [Value.oneCell']
   intro gg cap2 w4 hown hgrow hat hlt4 hd4
   have HN := Lib.hid (show w4.ownsRow w.heap.size 3 1 (.slice (some ⟨gg, 0, none⟩) ((intsP out).length + 1) cap2) (intsP (out ++ [f.op])).length ((intsP (out ++ [f.op])).map (Value.int .i64)) by
    have e1 : (intsP (out ++ [f.op])) = intsP out ++ [(f.op : Int)] := by simp [intsP]
    rw [e1, List.map_append, List.length_append]; exact hown)
   have HKN := Lib.hid (own_grown HO.out KW.out (KA.out.alloc (.cells #[.int .i64 (f.op : Int)] 3)) hgrow)
   have d0 : w4.cell? ⟨wr.heap.size, 0, none⟩ = some (.int .u32 (f.frm : Int)) := by
    have hb4 : w4.heap[wr.heap.size]? = _ := (steady_keeps hgrow).heap ((Below.heap_alloc w3 (.cells #[.int .i64 (f.op : Int)] 3) wr.heap.size (lt_of_heap HB.out)).trans HB.out) (fun e' => by have := (World.ownsRow.lt HO.out _ e').2; omega)
    rw [cell_of_blk hb4]; rfl
   clear hown hgrow hat hd4 c0 c1 hO3 hmw
   go_wp2_with fail
   go_roundw
   case rel =>
    refine ⟨k2, g, out ++ [f.op], HG.out, by have := HKJ.out; have := HJK.out; simp; omega, ?_, by rw [HFG.out], HN.out, HKN.out⟩
    rw [HP.out, HPG.out]; simp
   case measure =>
    have idx : ∀ (j : Nat) (x : Ent), T[j]? = some x → (keysT T).idxOf x.to = j := by
     intro j x hx
     have h1 : (keysT T)[j]? = some x.to := by unfold keysT; rw [List.getElem?_map, hx]; rfl
     obtain ⟨l1, g1⟩ := List.getElem?_eq_some_iff.1 h1
     rw [← g1]
     exact OK.out.nodup.idxOf_getElem j l1
    simp only [intOf, HFG.out, Int.toNat_natCast]
    rw [idx _ _ HG.out, idx _ _ HJ.out]
    exact HKJ.out

end Go.Proofs.YtdokakhgflljgaaGreat

namespace Go.Proofs.YtdokakhgflljgaaGreat
open Go.RowKit Go.Shelf
attribute [local go_sem] Oper.semAt_some

/-- What First knows between two steps. -/
structure FirS (w0 : World) (b1 b2 b3 : Nat) (T : List Ent) (q : List Nat) (vl : Value) (W : World) : Prop where
 keep : Keeps (fun _ => False) w0 W
 x1 : Boxed W b1 61 vl
 x3 : Boxed W b3 95 (.map (some b2))
 line : Tail W w0.heap.size 66 vl (q.map encW)
 map : IMap W b2 .u32 (parL T)
 l1 : w0.heap.size ≤ b1
 l2 : w0.heap.size ≤ b2
 l3 : w0.heap.size ≤ b3

section
variable {w0 : World} {b1 b2 b3 : Nat} {T : List Ent} {q : List Nat} {vl : Value} {W : World}
theorem FirS.by {W' : World} {S : Nat → Prop} (h : FirS w0 b1 b2 b3 T q vl W) (hk : Keeps S W W') (s1 : ¬ S b1) (s2 : ¬ S b2) (s3 : ¬ S b3) (ss : ∀ k, vl.ownBlock = some k → ¬ S k) (hS : ∀ k, S k → w0.heap.size ≤ k) : FirS w0 b1 b2 b3 T q vl W' :=
 ⟨h.keep.trans' hk (fun i hi => .inr (hS i hi)), hk.heap h.x1 s1, hk.heap h.x3 s3, h.line.keeps hk ss, h.map.keeps hk s2, h.l1, h.l2, h.l3⟩
theorem FirS.keeps0 {W' : World} (h : FirS w0 b1 b2 b3 T q vl W) (hk : Keeps (fun _ => False) W W') : FirS w0 b1 b2 b3 T q vl W' :=
 h.by hk (fun h => h) (fun h => h) (fun h => h) (fun _ _ h => h) (fun _ h => h.elim)
theorem FirS.row1 (h : FirS w0 b1 b2 b3 T q vl W) : vl.ownBlock ≠ some b1 := h.line.not_box h.x1 (by decide)
theorem FirS.row3 (h : FirS w0 b1 b2 b3 T q vl W) : vl.ownBlock ≠ some b3 := h.line.not_box h.x3 (by decide)
theorem FirS.row2 (h : FirS w0 b1 b2 b3 T q vl W) : vl.ownBlock ≠ some b2 := Tail.not_map h.map h.line
theorem FirS.box13 (h : FirS w0 b1 b2 b3 T q vl W) : b1 ≠ b3 := by
 rintro rfl
 have := (show W.heap[b1]? = _ from h.x1).symm.trans h.x3
 simp at this
theorem FirS.steady {W' : World} {row : Option Nat} {B : Nat} (h : FirS w0 b1 b2 b3 T q vl W) (hg : W.grownBy W' row) (hr : ∀ r, row = some r → B ≤ r ∧ ∃ o : Obj, W.heap[r]? = some o ∧ o.isCells = false) (hB : w0.heap.size ≤ B) (hb2 : b2 < B) : FirS w0 b1 b2 b3 T q vl W' :=
 ⟨steady_keeps0 hg (fun r e => (hr r e).1) hB h.keep, steady_heap hg (fun r e => (hr r e).2) h.x1, steady_heap hg (fun r e => (hr r e).2) h.x3, h.line.steady hg (fun r e => (hr r e).2), steady_map hg (fun r e => (hr r e).1) hb2 h.map, h.l1, h.l2, h.l3⟩

/-- The first of the line is taken. -/
theorem FirS.pop {g off n cap x : Nat} (h : FirS w0 b1 b2 b3 T (x :: q) (.slice (some ⟨g, off, none⟩) (n + 1) cap) W) (hn : q.length = n) :
  FirS w0 b1 b2 b3 T q (.slice (some (cutAt g off cap)) n (cap - 1)) (W.setCell ⟨b1, 0, none⟩ (.slice (some (cutAt g off cap)) n (cap - 1))) := by
 have hk : Keeps (fun b => b = b1) W (W.setCell ⟨b1, 0, none⟩ (.slice (some (cutAt g off cap)) n (cap - 1))) := (Keeps.refl (fun b => b = b1) W).setCell (p := ⟨b1, 0, none⟩) (.inl rfl) _
 have hl := h.line
 rw [List.map_cons] at hl
 refine ⟨h.keep.trans' hk (fun i hi => .inr (by subst hi; exact h.l1)), h.x1.set _, hk.heap h.x3 (fun e => h.box13 e.symm), ?_, h.map.keeps hk (box_not_map h.map h.x1), h.l1, h.l2, h.l3⟩
 refine (hl.cut (by simpa using hn)).keeps hk (fun k hk' e => ?_)
 subst e
 simp [Value.ownBlock, cutAt_block] at hk'
 exact h.row1 (by simp [Value.ownBlock, hk'])

/-- One more is put in the line. -/
theorem FirS.push {W3 : World} {o : Obj} {gg off m cap x : Nat} (h : FirS w0 b1 b2 b3 T q vl W) (hown : Tail W3 w0.heap.size 66 (.slice (some ⟨gg, off, none⟩) m cap) (q.map encW ++ [encW x]))
  (hg : (W.alloc o).grownBy W3 vl.ownBlock) (hat : vl.ownBlock = some gg ∨ gg = W.heap.size + 1) : FirS w0 b1 b2 b3 T (q ++ [x]) (.slice (some ⟨gg, off, none⟩) m cap) (W3.setCell ⟨b1, 0, none⟩ (.slice (some ⟨gg, off, none⟩) m cap)) := by
 have h' := h.keeps0 ((Keeps.refl (fun _ => False) W).alloc o)
 have hk1 : Keeps (fun b => vl.ownBlock = some b) (W.alloc o) W3 := (Keeps.refl _ _).grown hg (fun k hk => .inl hk)
 have hx1 : Boxed W3 b1 61 vl := hk1.heap h'.x1 h.row1
 have hk2 : Keeps (fun b => b = b1) W3 (W3.setCell ⟨b1, 0, none⟩ (.slice (some ⟨gg, off, none⟩) m cap)) := (Keeps.refl (fun b => b = b1) W3).setCell (p := ⟨b1, 0, none⟩) (.inl rfl) _
 have hgb : gg ≠ b1 := by
  rcases hat with e | e
  ·intro e'; exact h.row1 (by rw [e, e'])
  ·have := h.x1.lt; omega
 refine ⟨(h'.keep.trans' hk1 (fun i e => .inr (h.line.lt i e).1)).trans' hk2 (fun i e => .inr (by subst e; exact h.l1)), hx1.set _, hk2.heap (hk1.heap h'.x3 h.row3) (fun e => h.box13 e.symm), ?_, (h'.map.keeps hk1 h.row2).keeps hk2 (box_not_map h.map h.x1), h.l1, h.l2, h.l3⟩
 rw [List.map_append]
 exact hown.keeps hk2 (fun k hk' e => by simp [Value.ownBlock] at hk'; omega)

/-- One more is seen. -/
theorem FirS.see {W' : World} {e : Ent} (h : FirS w0 b1 b2 b3 T q vl W) (hI : IMap W' b2 .u32 (parL T ++ [((e.to : Int), .agg #[.int .u32 (e.frm : Int), .int .i64 (e.op : Int)])])) (hk : Keeps (fun k => k = b2) W W') : FirS w0 b1 b2 b3 (T ++ [e]) q vl W' :=
 ⟨h.keep.trans' hk (fun i e => .inr (by subst e; exact h.l2)), hk.heap h.x1 (fun e => box_not_map h.map h.x1 e.symm), hk.heap h.x3 (fun e => box_not_map h.map h.x3 e.symm), h.line.keeps hk (fun k hk' e => by subst e; exact h.row2 hk'),
  by simpa [parL] using hI, h.l1, h.l2, h.l3⟩
end

structure FirLoop (ops : List Wop) (st : Nat) (acc : Nat → Bool) (w0 : World) (b1 b2 b3 i : Nat) (q : List Nat) (vl : Value) (ds : List Deferred) (W : World) : Prop where
 s : FirS w0 b1 b2 b3 (tree ops st i) q vl W
 q : q = (keysT (tree ops st i)).drop i
 no : ∀ (j : Nat) f, j < i → (tree ops st i)[j]? = some f → acc f.to = false
 marks : Marks ds W w0.heap.size

/-- Within the loop over the steps of e, when the steps l have come. -/
def FirI (w0 : World) (b1 b2 b3 : Nat) (T : List Ent) (q : List Nat) (e : Ent) (ds : List Deferred) (Bs Bx : Nat) (l : List Stp) (W : World) : Prop :=
 ∃ vl, FirS w0 b1 b2 b3 (T ++ frs e (keysT T) l) (q ++ keysT (frs e (keysT T) l)) vl W ∧ Marks ds W w0.heap.size ∧ W.heap[Bs]? = some (.cells #[.int .u32 (e.to : Int)] 66 (0, 0)) ∧ W.heap[Bx]? = some (.cells #[.int .u32 (e.to : Int)] 66 (0, 0)) ∧ (∀ k, vl.ownBlock = some k → k ≠ Bs) ∧ (∀ k, vl.ownBlock = some k → k ≠ Bx)

def mapLen (W : World) (b : Nat) : Nat := match W.heap[b]? with
 | some (.map es _) => es.size
 | _ => 0
def boxLen (W : World) (b : Nat) : Nat := match W.cell? ⟨b, 0, none⟩ with
 | some v => sliceLen v
 | _ => 0

/-- What First hands back. -/
def FirstPost (ops : List Wop) (st : Nat) (acc : Nat → Bool) (w : World) (e : Ending) (w' : World) : Prop := Keeps (fun _ => False) w w' ∧
 ((Best ops st acc none ∧ e = .returned (.tuple #[.slice none 0 0, .bool false])) ∨
   (∃ p, Best ops st acc (some p) ∧ ∃ v', e = .returned (.tuple #[v', .bool true]) ∧ w'.ownsRow w.heap.size 3 1 v' p.length ((intsP p).map (Value.int .i64))))

theorem reach_small {ops : List Wop} (hops : WopsOk ops) {st : Nat} (hst : st < 4294967296) {x : Nat} (h : Reach ops st x) : x < 4294967296 := by
 induction h with
 | refl => exact hst
 | step _ hy ih =>
  unfold nexts at hy
  obtain ⟨o, ho, rfl⟩ := List.mem_map.1 hy
  have ho' := List.mem_filter.1 ho
  exact next_lt ih (hops o ho'.1).2.1

/-- What a function value must do to be asked by First. -/
structure Asked (w0 : World) (g : Nat) (pa cb : Array Value) (acc : Nat → Bool) : Prop where
 enters : ∀ args w, (callFunc g args).run Tryz.prog w = .ok (.enter g args) w
 answers : ∀ (W : World) (x : Nat), Keeps (fun _ => False) w0 W → x < 4294967296 → Calls Tryz.prog g (pa.push (.int .u32 (x : Int)) ++ cb) W fun e W' => e = .returned (.bool (acc x)) ∧ ∃ n, W' = W.drewN n

theorem keysT_append (A B : List Ent) : keysT (A ++ B) = keysT A ++ keysT B := by simp [keysT]
theorem keysT_length (A : List Ent) : (keysT A).length = A.length := by simp [keysT]

theorem FirS.count {w0 : World} {b1 b2 b3 : Nat} {T : List Ent} {q : List Nat} {vl : Value} {W : World} (h : FirS w0 b1 b2 b3 T q vl W) : mapLen W b2 = T.length ∧ boxLen W b1 = q.length := by
 obtain ⟨es, c, h1, h2⟩ := h.map.length
 obtain ⟨g, off, cap, hv, _⟩ := h.line.form
 constructor
 ·unfold mapLen; rw [h1]; simp only; rw [h2]; simp [parL]
 ·unfold boxLen; rw [h.x1.cell]; simp only; rw [hv]; simp [sliceLen]

set_option maxRecDepth 100000 in
set_option maxHeartbeats 4000000 in
theorem first_in (w : World) (b st g0 base : Nat) (v : Value) (ops : List Wop) (hw : WordsAt w base b st g0 v ops) (hops : WopsOk ops) (hmany : ops.length ≤ 40) (hst : st < 4294967296) (l : List Nat) (hl : reached ops st = some l)
  (ga : Nat) (pa cb : Array Value) (acc : Nat → Bool) (hask : Asked w ga pa cb acc) :
  CallsIn Fence.wide 9 Tryz.prog 32 #[.iface 60 (.pointer (some ⟨b, 0, none⟩)), .func (.func ga) pa cb] w (FirstPost ops st acc w) := by
 have HW := Lib.hid hw; have HL0 := Lib.hid hl; have HASK := Lib.hid hask
 have hmm := @run_makeMap Tryz.prog
 have mS := method_Start ⟨b, 0, none⟩
 have mT := method_Steps ⟨b, 0, none⟩
 have eg := hask.enters
 clear hw hl hask
 refine callsIn_of_wp_marks Tryz.func32 rfl trivial ?_ rfl
 simp only [Tryz.ntmps32, List.size_toArray, List.length_cons, List.length_nil, Nat.reduceAdd, Nat.reduceSub, Array.replicate_succ, Array.replicate_zero, List.push_toArray, List.append_toArray, List.nil_append, List.cons_append]
 gi_wp2
 refine ⟨trivial, ?_⟩
 refine (callsIn_wide.2 (start_any _ _ _ _ _ _ _ HW.out)).mono ?_; rintro e w1 ⟨rfl, rfl⟩
 have hm0 : IMap (w.alloc (.map #[] 0)) w.heap.size .u32 [] := IMap.made w .u32
 obtain ⟨W4, hrun, hI4, hk4⟩ := hm0.run_update_new (P := Tryz.prog) Tryz.underlying95 Tryz.underlying66 (x := (st : Int)) (by simp) (.agg #[.int .u32 (st : Int), .int .i64 0])
 gi_wp2
 have hS : FirS w (W4.heap.size + 1 + 1) w.heap.size W4.heap.size (tree ops st 0) [st] (.slice (some ⟨W4.heap.size + 1, 0, none⟩) 1 1) (((W4.alloc (.cells #[.map (some w.heap.size)] 95)).alloc (.cells #[.int .u32 (st : Int)] 66)).alloc (.cells #[.slice (some ⟨W4.heap.size + 1, 0, none⟩) 1 1] 61)) := by
  have hsz : w.heap.size + 1 ≤ W4.heap.size := by have := hk4.size; simpa using this
  have k0 : Keeps (fun _ => False) w W4 := ((Keeps.refl (fun _ => False) w).alloc (.map #[] 0)).trans' hk4 (fun i e => .inr (by omega))
  have kA := (Keeps.refl (fun _ => False) W4).alloc (.cells #[.map (some w.heap.size)] 95)
  have kB := (Keeps.refl (fun _ => False) (W4.alloc (.cells #[.map (some w.heap.size)] 95))).alloc (.cells #[.int .u32 (st : Int)] 66)
  have kC := (Keeps.refl (fun _ => False) ((W4.alloc (.cells #[.map (some w.heap.size)] 95)).alloc (.cells #[.int .u32 (st : Int)] 66))).alloc (.cells #[.slice (some ⟨W4.heap.size + 1, 0, none⟩) 1 1] 61)
  have n1 := Boxed.new ((W4.alloc (.cells #[.map (some w.heap.size)] 95)).alloc (.cells #[.int .u32 (st : Int)] 66)) 61 (.slice (some ⟨W4.heap.size + 1, 0, none⟩) 1 1)
  rw [World.size_alloc, World.size_alloc] at n1
  have nl := Tail.new (W4.alloc (.cells #[.map (some w.heap.size)] 95)) w.heap.size 66 (.int .u32 (st : Int)) (by simp; omega)
  rw [World.size_alloc] at nl
  have n3 := Boxed.new W4 95 (.map (some w.heap.size))
  refine ⟨k0.trans (kA.trans (kB.trans kC)), n1, kC.heap (kB.heap n3 (fun h => h)) (fun h => h), nl.keeps kC (fun _ _ h => h), ?_, by omega, Nat.le_refl _, by omega⟩
  have h4 : IMap W4 w.heap.size .u32 (parL (tree ops st 0)) := by simpa [parL, tree] using hI4
  exact h4.keeps (kA.trans (kB.trans kC)) (fun h => h)
 have HS := Lib.hid hS
 clear hS hI4 hm0 hk4
 generalize (((W4.alloc (.cells #[.map (some w.heap.size)] 95)).alloc (.cells #[.int .u32 (st : Int)] 66)).alloc (.cells #[.slice (some ⟨W4.heap.size + 1, 0, none⟩) 1 1] 61)) = W5 at HS ⊢
 generalize W4.heap.size + 1 + 1 = b1 at HS ⊢
 generalize W4.heap.size + 1 = ba at HS ⊢
 generalize W4.heap.size = b3 at HS ⊢
 clear hrun
 obtain ⟨b2, hb2⟩ : ∃ b2, w.heap.size = b2 := ⟨_, rfl⟩
 have HSB : Hid (FirS w b1 b2 b3 (tree ops st 0) [st] (.slice (some ⟨ba, 0, none⟩) 1 1) W5) := by rw [← hb2]; exact HS
 clear HS hb2
 obtain ⟨i0, hi0, hz0, hz1, hz2⟩ := info_parts Tryz.info_u32
 refine wpIn_loop (fun a' wr => ∃ (ds : List Deferred) (u9 u10 u11 u12 u13 u14 u15 u16 u17 u18 u19 u20 u21 u22 u23 u24 u25 u26 u27 u28 u29 u30 u31 u32 u33 u34 u35 u36 u37 u38 u39 u40 u41 u42 u43 u44 u45 u46 u47 u48 u49 u50 u51 u52 u53 u54 u55 u56 u57 u58 u59 u60 u61 : Value) (i : Nat) (q : List Nat) (vl : Value), FirLoop ops st acc w b1 b2 b3 i q vl ds wr ∧ i ≤ (tree ops st i).length ∧
   a' = { tmps := #[.iface 60 (.pointer (some ⟨b, 0, none⟩)), .func (.func ga) pa cb, undef, undef, .slice none 0 0, .bool false, .int .u32 (st : Int), .pointer (some ⟨b3, 0, none⟩), .pointer (some ⟨b1, 0, none⟩), u9, u10, u11, u12, u13, u14, u15, u16, u17, u18, u19, u20, u21, u22, u23, u24, u25, u26, u27, u28, u29, u30, u31, u32, u33, u34, u35, u36, u37, u38, u39, u40, u41, u42, u43, u44, u45, u46, u47, u48, u49, u50, u51, u52, u53, u54, u55, u56, u57, u58, u59, u60, u61], defers := ds })
  (fun _ W => l.length + 1 - (mapLen W b2 - boxLen W b1)) ?start ?round
 case start => exact ⟨[], _, _, _, _, _, _, _, _, _, _, _, _, _, _, _, _, _, _, _, _, _, _, _, _, _, _, _, _, _, _, _, _, _, _, _, _, _, _, _, _, _, _, _, _, _, _, _, _, _, _, _, _, _, 0, [st], _, ⟨HSB.out, rfl, fun j f hj => by omega, Marks.nil _ _⟩, by simp, rfl⟩
 case round =>
  rintro a wr ⟨ds, u9, u10, u11, u12, u13, u14, u15, u16, u17, u18, u19, u20, u21, u22, u23, u24, u25, u26, u27, u28, u29, u30, u31, u32, u33, u34, u35, u36, u37, u38, u39, u40, u41, u42, u43, u44, u45, u46, u47, u48, u49, u50, u51, u52, u53, u54, u55, u56, u57, u58, u59, u60, u61, i, q, vl, hL, hil, rfl⟩
  have HL := Lib.hid hL
  clear hL HSB
  have x1c := HL.out.s.x1.cell
  have x1f := HL.out.s.x1.frozen
  have x3c := HL.out.s.x3.cell
  have x1l := HL.out.s.x1.lt
  have x3l := HL.out.s.x3.lt
  obtain ⟨gl, off, cap, hv, hqc, hcm, hgb, hgl⟩ := HL.out.s.line.form
  subst hv
  rw [List.length_map] at *
  by_cases hq : q = []
  ·subst hq
   gi_wp2
   refine leaves_marks HL.out.marks (fun W' hk => ?_)
   have hlen : (tree ops st i).length ≤ i := by
    have h := congrArg List.length HL.out.q
    unfold keysT at h
    simp at h; omega
   have HN := HL.out.no
   refine ⟨.tuple #[.slice none 0 0, .bool false], by simp [results, Tryz.results32, go_sem], HL.out.s.keep.trans' hk (fun i hi => .inr hi.1), .inl ⟨tree_none hlen (fun f hf => ?_), rfl⟩⟩
   obtain ⟨j, hj⟩ := List.mem_iff_getElem?.1 hf
   exact HN j f (by have := (List.getElem?_eq_some_iff.1 hj).1; omega) hj
  ·obtain ⟨x, q', rfl⟩ : ∃ x q', q = x :: q' := by
    cases q with
    | nil => exact absurd rfl hq
    | cons x q' => exact ⟨x, q', rfl⟩
   rw [List.length_cons] at *
   have hq0 := HL.out.q
   obtain ⟨e, hTi, hex⟩ : ∃ e, (tree ops st i)[i]? = some e ∧ e.to = x := by
    have h := congrArg (fun l : List Nat => l[0]?) hq0
    simp only [List.getElem?_cons_zero, List.getElem?_drop, Nat.add_zero] at h
    unfold keysT at h
    rw [List.getElem?_map] at h
    cases hT : (tree ops st i)[i]? with
    | none => rw [hT] at h; cases h
    | some e => rw [hT] at h; exact ⟨e, rfl, by simpa using h.symm⟩
   subst hex
   have hqq : q' = (keysT (tree ops st i)).drop (i + 1) := by
    have h := congrArg (List.drop 1) hq0
    rw [List.drop_drop] at h
    simpa using h
   have htl : i < (tree ops st i).length := (List.getElem?_eq_some_iff.1 hTi).1
   have hok := tree_ok ops st i
   have hll := (reached_some HL0.out).2.1
   have htf := tree_few HL0.out i
   have hnext := tree_step hTi
   have hx32 : e.to < 4294967296 := reach_small hops hst (hok.reach e (List.mem_of_getElem? hTi))
   have hqlen : q'.length + (i + 1) = (tree ops st i).length := by rw [hqq, List.length_drop, keysT_length]; omega
   have hfound : acc e.to = true → Best ops st acc (some e.path) := fun ha => tree_found HL0.out hTi ha HL.out.no
   have hno := HL.out.no
   have hcount := HL.out.s.count
   have hcx := Tail.head (by have := HL.out.s.line; rw [List.map_cons] at this; exact this)
   unfold encW at hcx
   have hsz : w.heap.size ≤ wr.heap.size := HL.out.s.keep.size
   have hpop := HL.out.s.pop (n := q'.length) rfl
   have hmk := HL.out.marks
   have hkd : KeepsD wr (wr.setCell ⟨b1, 0, none⟩ (.slice (some (cutAt gl off cap)) q'.length (cap - 1))) :=
    KeepsD.of ((Keeps.refl (fun b => b = b1) wr).setCell (p := ⟨b1, 0, none⟩) (.inl rfl) _) (fun b hb => by subst hb; exact cells_not_deferred HL.out.s.x1)
   have hm2 := hmk.keeps hkd
   clear hq hkd
   generalize hT : tree ops st i = T at hTi hqq htl hok htf hnext hqlen hno hcount hpop hil
   have HTI := Lib.hid hTi; have HQQ := Lib.hid hqq; have HOK := Lib.hid hok; have HNX := Lib.hid hnext; have HFO := Lib.hid hfound; have HNO := Lib.hid hno; have HCO := Lib.hid hcount; have HMK := Lib.hid hmk; have HTE := Lib.hid hT
   have HTF := Lib.hid (Nat.le_trans htf hll); have HTL := Lib.hid htf; have HIT := Lib.hid htl; have HQL := Lib.hid hqlen
   clear hTi hqq hok hnext hfound hno hcount hmk hT htf hll htl hqlen hq0 HL hil
   rcases (Classical.em (cap = 1)) with hc1 | hc1
   case' inl =>
    rw [show cutAt gl off cap = ⟨gl, off, none⟩ by simp [cutAt, hc1], show cap - 1 = 0 by omega] at hpop hm2
    have hz : q'.length = 0 := by omega
    rw [hz] at hpop hm2
    have HP := Lib.hid hpop; have HM := Lib.hid hm2
    clear hpop hm2
    subst hc1
    gi_wp2
    generalize (Value.slice (some ⟨gl, off, none⟩) 1 1) = vo
    generalize (Value.slice (some ⟨gl, off, none⟩) 0 0) = vc at HP HM ⊢
    generalize (Value.int .i64 1) = v23
   case' inr =>
    rw [show cutAt gl off cap = ⟨gl, off + 1, none⟩ by simp [cutAt, hc1]] at hpop hm2
    have HP := Lib.hid hpop; have HM := Lib.hid hm2
    clear hpop hm2
    gi_wp2
    generalize (Value.slice (some ⟨gl, off, none⟩) (q'.length + 1) cap) = vo
    generalize (Value.slice (some ⟨gl, off + 1, none⟩) q'.length (cap - 1)) = vc at HP HM ⊢
    generalize (Value.int .i64 ((q'.length : Int) + 1)) = v23
   all_goals
    have hkz : (wr.setCell ⟨b1, 0, none⟩ vc).heap.size = wr.heap.size := by simp
    generalize wr.setCell ⟨b1, 0, none⟩ vc = W2 at HP HM hkz ⊢
    rw [← hkz] at hsz ⊢
    have HB9 := Lib.hid (heap_alloc_new W2 (.cells #[.int .u32 (e.to : Int)] 66))
    have HPA := Lib.hid (HP.out.keeps0 ((Keeps.refl (fun _ => False) W2).alloc (.cells #[.int .u32 (e.to : Int)] 66)))
    have HMA := Lib.hid (HM.out.keeps (KeepsD.of0 ((Keeps.refl (fun _ => False) W2).alloc (.cells #[.int .u32 (e.to : Int)] 66))))
    have hv9 : ∀ k, vc.ownBlock = some k → k ≠ W2.heap.size := fun k hk => by have := (HP.out.line.lt k hk).2; omega
    have HV9 := Lib.hid hv9
    have hb9l : W2.heap.size < (W2.alloc (.cells #[.int .u32 (e.to : Int)] 66)).heap.size := by simp
    have hb9w : w.heap.size ≤ W2.heap.size := hsz
    clear hv9 hkz HP HM hsz
    generalize (W2.alloc (.cells #[.int .u32 (e.to : Int)] 66)) = W3 at HB9 HPA HMA hb9l ⊢
    generalize W2.heap.size = b9 at HB9 HV9 hb9l hb9w ⊢
    refine ⟨trivial, ?_⟩
    refine (callsIn_wide.2 (HASK.out.answers W3 e.to HPA.out.keep hx32)).mono ?_; rintro en W4' ⟨rfl, nq, rfl⟩
    have kq := (Keeps.refl (fun _ => False) W3).drewN nq
    have hb9q : b9 < (W3.drewN nq).heap.size := hb9l
    have HB9q := Lib.hid (kq.heap HB9.out (fun h => h))
    have HPq := Lib.hid (HPA.out.keeps0 kq)
    have HMq := Lib.hid (HMA.out.keeps (KeepsD.of0 kq))
    clear kq HB9 HPA HMA hb9l
    generalize W3.drewN nq = W4 at HB9q HPq HMq hb9q ⊢
    have x1c := HPq.out.x1.cell
    have x1f := HPq.out.x1.frozen
    have x3c := HPq.out.x3.cell
    have c9 : W4.cell? ⟨b9, 0, none⟩ = some (.int .u32 (e.to : Int)) := by rw [cell_of_blk HB9q.out]; rfl
    rcases hacc : acc e.to with _ | _
    case' true =>
     gi_wp2
     refine ⟨trivial, ?_⟩
     refine (callsIn_wide.2 (path_any W4 b2 ops st i T i e HOK.out HPq.out.map HTI.out (by have := HTF.out; omega))).mono ?_; rintro en w8 ⟨v8, rfl, hown8, hk8⟩
     gi_wp2
     refine leaves_marks (HMq.out.keeps (KeepsD.of0 hk8)) (fun W' hk => ?_)
     refine ⟨.tuple #[v8, .bool true], by simp [results, Tryz.results32, go_sem], (HPq.out.keep.trans hk8).trans' hk (fun i hi => .inr hi.1), .inr ⟨e.path, HFO.out hacc, v8, rfl, ?_⟩⟩
     exact ownsRow_mono (hk.ownsRow hown8 (fun k hk' hs => row_not_deferred hown8 k hk' hs.2)) HPq.out.keep.size
    case' false =>
     gi_wp2
     refine ⟨trivial, ?_⟩
     refine (callsIn_wide.2 (steps_any W4 b e.to)).mono ?_; rintro en w5 ⟨rfl, rfl⟩
     gi_wp2
     obtain ⟨W6, hW6⟩ : ∃ W6, ((W4.alloc (.cells #[.pointer (some ⟨b, 0, none⟩)] 60)).alloc (.cells #[.int .u32 (e.to : Int)] 66)) = W6 := ⟨_, rfl⟩
     have hz6 : W6.heap.size = W4.heap.size + 1 + 1 := by rw [← hW6]; simp
     have k6 : Keeps (fun _ => False) W4 W6 := by rw [← hW6]; exact ((Keeps.refl _ _).alloc _).alloc _
     have hBw : W6.cell? ⟨W4.heap.size, 0, none⟩ = some (.pointer (some ⟨b, 0, none⟩)) := by
      rw [← hW6]; exact ((Boxed.new W4 _ _).alloc _).cell
     have hBs : W6.heap[W4.heap.size + 1]? = some (.cells #[.int .u32 (e.to : Int)] 66 (0, 0)) := by
      rw [← hW6]
      have := heap_alloc_new (W4.alloc (.cells #[.pointer (some ⟨b, 0, none⟩)] 60)) (.cells #[.int .u32 (e.to : Int)] 66)
      rwa [World.size_alloc] at this
     have hBsc : W6.cell? ⟨W4.heap.size + 1, 0, none⟩ = some (.int .u32 (e.to : Int)) := by rw [cell_of_blk hBs]; rfl
     rw [hW6]
     have hlow4 : w.heap.size ≤ W4.heap.size := HPq.out.keep.size
     have HA6 := Lib.hid (HPq.out.keeps0 k6)
     have HM6 := Lib.hid (HMq.out.keeps (KeepsD.of0 k6))
     have HB96 := Lib.hid (k6.heap HB9q.out (fun h => h))
     have HWW := Lib.hid (show ∃ w0 : World, WordsAt w0 base b st g0 v ops ∧ w0.heap.size ≤ w.heap.size ∧ Below w.heap.size w0 W6 from ⟨w, HW.out, Nat.le_refl _, HA6.out.keep.below⟩)
     have hgrow0 : ∀ k, vc.ownBlock = some k → k ≠ W4.heap.size + 1 := fun k hk => by have := (HPq.out.line.lt k hk).2; omega
     have HG0 := Lib.hid hgrow0
     have HBS := Lib.hid hBs
     have HWL := Lib.hid (show (wsteps ops e.to).length ≤ 40 from Nat.le_trans (wsteps_le ops e.to) hmany)
     have hb6 : w.heap.size ≤ W6.heap.size := by omega
     have hb96 : b9 < W6.heap.size := by omega
     have hb26 : b2 < W6.heap.size := HA6.out.map.lt
     clear hgrow0 hBs x1c x1f x3c c9 HB9q HPq HMq
     refine wpIn_rangeFunc_ownH (α := StpOf ops e.to) rfl (by omega) (gf := 88) (lb := #[.pointer (some ⟨W4.heap.size, 0, none⟩), .pointer (some ⟨W4.heap.size + 1, 0, none⟩)]) rfl trivial (enters_of Tryz.func88 (by kernel_rfl) rfl)
      (steps_stops Fence.wide 8 trivial rfl (by omega) W4.heap.size (W4.heap.size + 1) w.heap.size base b st g0 e.to v ops hops (by omega) hx32 W6 (by omega) hBw hBsc (by omega) (by omega) HWW.out)
      KpS.trans (kpS_b (by omega) (by omega)) (Below.refl _ _) (fun _ => rfl)
      (fun pre W => FirI w b1 b2 b3 T q' e ds (W4.heap.size + 1) b9 (pre.map fun y => y.1) W)
      (fun _ _ _ => False) ?_ (fun _ _ _ _ _ hs _ _ => hs) ?_
      (fun (y : StpOf ops e.to) (a' : Act) (W : World) => ∃ Bx : Nat, W.heap[Bx]? = some (Obj.cells #[.int .i64 (y.1.op : Int), .int .i64 y.1.cost, .int .u32 (y.1.to : Int)] 107 (0, 0)) ∧ a' = { tmps := #[.iface 60 (.pointer (some ⟨b, 0, none⟩)), .func (.func ga) pa cb, undef, undef, .slice none 0 0, .bool false, .int .u32 (st : Int), .pointer (some ⟨b3, 0, none⟩), .pointer (some ⟨b1, 0, none⟩), .pointer (some ⟨b9, 0, none⟩), .pointer (some ⟨Bx, 0, none⟩), u11, u12, u13, u14, u15, u16, u17, u18, u19, u20, u21, vo, v23, .bool true, vo, .pointer (some ⟨gl, off, none⟩), .int .u32 (e.to : Int), vo, vc, .func (.func ga) pa cb, .int .u32 (e.to : Int), .bool false, u33, u34, u35, u36, .iface 60 (.pointer (some ⟨b, 0, none⟩)), .int .u32 (e.to : Int), .func (.func 88) #[] #[.pointer (some ⟨W4.heap.size, 0, none⟩), .pointer (some ⟨W4.heap.size + 1, 0, none⟩)], y.1.val, u41, u42, u43, u44, u45, u46, u47, u48, u49, u50, u51, u52, u53, u54, u55, u56, u57, u58, u59, u60, u61], defers := [] }) ?_ ?_ ?_ ?_ ?_
     ·intro l W W' row hs hg hr
      obtain ⟨vl, h1, h2, h3, h4, h5⟩ := hs
      exact ⟨vl, h1.steady hg hr hb6 hb26, Marks.steady HM6.out h2 hg hr, steady_heap hg (fun r e => (hr r e).2) h3, steady_heap hg (fun r e => (hr r e).2) h4, h5⟩
     ·exact ⟨vc, by simpa [frs, keysT] using HA6.out, HM6.out, HBS.out, HB96.out, HG0.out, HV9.out⟩
     ·intro y a' _ W W' row hs hg hr
      obtain ⟨Bx, h1, h2⟩ := hs
      exact ⟨Bx, steady_heap hg (fun r e => (hr r e).2) h1, h2⟩
     ·intro l pre y W K hi hK
      simp only [Stp.val]
      gi_wp2
      obtain ⟨vl, h1, h2, h3, h4, h5⟩ := hi
      refine hK _ _ ((KeepsOthers.alloc _ _).from _) ((KpS.refl _ _ W).alloc h1.keep.size (lt_of_heap h3) _) ⟨vl, h1.keeps0 ((Keeps.refl _ _).alloc _), h2.keeps (KeepsD.of0 ((Keeps.refl _ _).alloc _)), ((Keeps.refl (fun _ => False) W).alloc _).heap h3 (fun h => h), ((Keeps.refl (fun _ => False) W).alloc _).heap h4 (fun h => h), h5⟩ ⟨W.heap.size, heap_alloc_new W _, rfl⟩
     ·rintro l pre y a' W hl - ⟨vl, h1, h2, h3, h4, h5, h6⟩ ⟨Bx, hBx, rfl⟩ hlt
      have x1c := h1.x1.cell
      have x1f := h1.x1.frozen
      have x3c := h1.x3.cell
      have c9 : W.cell? ⟨b9, 0, none⟩ = some (.int .u32 (e.to : Int)) := by rw [cell_of_blk h4]; rfl
      have y0 : W.cell? ⟨Bx, 0, none⟩ = some (.int .i64 (y.1.op : Int)) := by rw [cell_of_blk hBx]; rfl
      have y2 : W.cell? ⟨Bx, 2, none⟩ = some (.int .u32 (y.1.to : Int)) := by rw [cell_of_blk hBx]; rfl
      have hBxl := lt_of_heap hBx
      have l1 := h1.x1.lt
      have l3 := h1.x3.lt
      have l9 := lt_of_heap h4
      have hnd : (keysT (T ++ frs e (keysT T) (pre.map fun y => y.1))).Nodup := by
       rw [keysT_append, frs_keys]; exact nodup_freshs HOK.out.nodup
      have hsn := frs_snoc e (pre.map fun y => y.1) y.1 (keysT T)
      by_cases hm : y.1.to ∈ keysT T ++ keysT (frs e (keysT T) (pre.map fun y => y.1))
      ·obtain ⟨f, hf, hfy⟩ : ∃ f ∈ T ++ frs e (keysT T) (pre.map fun y => y.1), f.to = y.1.to := by
        rw [← keysT_append] at hm
        obtain ⟨f, h1, h2⟩ := List.mem_map.1 hm
        exact ⟨f, h1, h2⟩
       have hlk := (h1.map.run_lookup_hit (P := Tryz.prog) Tryz.underlying95 Tryz.underlying66 (parL_nodup hnd) (parL_mem hf)).1
       rw [hfy] at hlk
       rw [if_pos hm, List.append_nil] at hsn
       have H1 := Lib.hid h1; have H2 := Lib.hid h2; have H3 := Lib.hid h3; have H4 := Lib.hid h4; have H5 := Lib.hid h5; have H6 := Lib.hid h6; have HSN := Lib.hid hsn
       clear h1 h2 h3 h4 h5 h6 hsn hm hnd hBx hf hfy
       gi_wp2
       refine ⟨(KeepsOthers.alloc _ _).from _, (KpS.refl _ _ W).alloc H1.out.keep.size (lt_of_heap H3.out) _, ⟨vl, ?_, H2.out.keeps (KeepsD.of0 ((Keeps.refl _ _).alloc _)), ((Keeps.refl (fun _ => False) W).alloc _).heap H3.out (fun h => h), ((Keeps.refl (fun _ => False) W).alloc _).heap H4.out (fun h => h), H5.out, H6.out⟩⟩
       have e1 : frs e (keysT T) ((pre ++ [y]).map fun y => y.1) = frs e (keysT T) (pre.map fun y => y.1) := by rw [List.map_append]; exact HSN.out
       rw [e1]
       exact H1.out.keeps0 ((Keeps.refl _ _).alloc _)
      ·have kal := (Keeps.refl (fun _ => False) W).alloc (.cells #[.int .u32 0, .int .i64 0] 94)
       have hm2 : y.1.to ∉ keysT (T ++ frs e (keysT T) (pre.map fun y => y.1)) := by rw [keysT_append]; exact hm
       have hlk := ((h1.map).run_lookup_miss (P := Tryz.prog) Tryz.underlying95 Tryz.underlying66 (z := .agg #[.int .u32 0, .int .i64 0]) (by simp [Tryz.zeroValue94]) (parL_miss hm2)).1
       obtain ⟨W1, hrunU, hI1, hK1⟩ := ((h1.map.alloc (.cells #[.int .u32 0, .int .i64 0] 94))).run_update_new (P := Tryz.prog) Tryz.underlying95 Tryz.underlying66 (parL_miss hm2) (.agg #[.int .u32 (e.to : Int), .int .i64 (y.1.op : Int)])
       have hS1 := (h1.keeps0 kal).see (e := e.of y.1) hI1 hK1
       have hb2 := box_not_map h1.map h1.x1
       have hbx2 : Bx ≠ b2 := by rintro rfl; obtain ⟨es, c, hb, _⟩ := h1.map; rw [hBx] at hb; cases hb
       have hbs2 : W4.heap.size + 1 ≠ b2 := by rintro rfl; obtain ⟨es, c, hb, _⟩ := h1.map; rw [h3] at hb; cases hb
       have hb92 : b9 ≠ b2 := by rintro rfl; obtain ⟨es, c, hb, _⟩ := h1.map; rw [h4] at hb; cases hb
       have z1c := hS1.x1.cell
       have z1f := hS1.x1.frozen
       have z3c := hS1.x3.cell
       have y2' : W1.cell? ⟨Bx, 2, none⟩ = some (.int .u32 (y.1.to : Int)) := hK1.cell (kal.cell y2 (fun h => h)) hbx2
       have zs := hS1.x1.lt
       have zb := lt_of_heap (hK1.heap (kal.heap hBx (fun h => h)) hbx2)
       rw [if_neg hm] at hsn
       have hfl : (keysT (frs e (keysT T) (pre.map fun y => y.1))).length ≤ 40 := by
        rw [frs_keys]
        have e1 := freshs_le (seen := keysT T) (xs := (pre.map fun y => y.1).map Stp.to)
        rw [List.length_map, List.length_map] at e1
        have := HWL.out; omega
       obtain ⟨sk, hsk⟩ : ∃ sk, q' ++ keysT (frs e (keysT T) (pre.map fun y => y.1)) = sk := ⟨_, rfl⟩
       have hlen : sk.length ≤ 2040 := by
        have := HQL.out; have := HTF.out
        rw [← hsk, List.length_append]; omega
       rw [hsk] at hS1
       have HSK := Lib.hid hsk
       clear hsk
       have hlowW : w.heap.size ≤ W1.heap.size := hS1.keep.size
       have HROW := Lib.hid (hS1.line.keeps ((Keeps.refl (fun _ => False) W1).alloc (.cells #[.int .u32 (y.1.to : Int)] 66)) (fun _ _ h => h))
       have H1 := Lib.hid h1; have H2 := Lib.hid h2; have H3 := Lib.hid h3; have H4 := Lib.hid h4; have H5 := Lib.hid h5; have H6 := Lib.hid h6; have HSN := Lib.hid hsn; have HS1 := Lib.hid hS1; have HK1 := Lib.hid hK1; have HNB := Lib.hid hbs2; have HN9 := Lib.hid hb92; have HI1 := Lib.hid hI1
       clear h1 h2 h3 h4 h5 h6 hsn hm hm2 hnd hBx hS1 hK1 hI1 kal hb2 hbx2 hbs2 hb92 hfl
       gi_wp2_with (gi_at_builtin; refine wpListIn_append_tail _ rfl (.tmp 57) (.tmp 60) 61 rfl w.heap.size 66 i0 _ 4 Tryz.underlying61 hi0 hz0 hz1 hz2 rfl vl (sk.map encW) rfl HROW.out ⟨W1.heap.size, 0, none⟩ 1 (.int .u32 (y.1.to : Int)) rfl ?_ rfl sk.length (by simp) (by unfold maxLen; omega) (by omega) (by simp; omega) (W1.heap.size + 1) (by simp) ?_)
       ·exact (Boxed.new W1 _ _).cell
       intro g4 off4 cap4 W2' hown2 hgrow2 hat2 hlt2
       have hbx1 : W2'.heap[b1]? = some (.cells #[vl] 61 (0, 0)) := ((Keeps.refl (fun b => vl.ownBlock = some b) _).grown hgrow2 (fun k hk => .inl hk)).heap (((Keeps.refl (fun _ => False) W1).alloc _).heap HS1.out.x1 (fun h => h)) HS1.out.row1
       have v1c : W2'.cell? ⟨b1, 0, none⟩ = some vl := (cell_of_blk hbx1).trans rfl
       have v1f : W2'.frozen? ⟨b1, 0, none⟩ = false := frozen_of_blk hbx1
       have v1l := lt_of_heap hbx1
       have HP2 := Lib.hid (HS1.out.push (x := y.1.to) hown2 hgrow2 hat2)
       have HX1 := Lib.hid hbx1
       have HG2 := Lib.hid hgrow2
       have HAT2 := Lib.hid hat2
       clear hown2 hgrow2 hat2 hlt2 hbx1
       gi_wp2
       have hk : Keeps (fun b => b = b2 ∨ b = b1 ∨ vl.ownBlock = some b) W (W2'.setCell ⟨b1, 0, none⟩ (.slice (some ⟨g4, off4, none⟩) (sk.length + 1) cap4)) := by
        have q1 : Keeps (fun b => b = b2 ∨ b = b1 ∨ vl.ownBlock = some b) W W1 := (((Keeps.refl (fun _ => False) W).alloc (.cells #[.int .u32 0, .int .i64 0] 94)).mono (fun _ _ h => h.elim)).trans (HK1.out.mono (fun _ _ h => .inl h))
        have q2 : Keeps (fun b => b = b2 ∨ b = b1 ∨ vl.ownBlock = some b) W1 W2' := (((Keeps.refl (fun _ => False) W1).alloc (.cells #[.int .u32 (y.1.to : Int)] 66)).mono (fun _ _ h => h.elim)).trans (((Keeps.refl (fun b => vl.ownBlock = some b) _).grown HG2.out (fun k hk => .inl hk)).mono (fun _ _ h => .inr (.inr h)))
        exact (q1.trans q2).trans ((Keeps.refl _ W2').setCell (p := ⟨b1, 0, none⟩) (.inl (.inr (.inl rfl))) _)
       have hS : ∀ b, b = b2 ∨ b = b1 ∨ vl.ownBlock = some b → w.heap.size ≤ b ∧ b < W6.heap.size + W.heap.size ∧ b ≠ W4.heap.size + 1 ∧ b ≠ b9 ∧ W.heap[b]? ≠ some (.deferred (some [])) ∧ (b = b2 ∨ ∃ cs t fr, W.heap[b]? = some (.cells cs t fr)) := by
        rintro b (rfl | rfl | hb)
        ·exact ⟨H1.out.l2, by have := H1.out.map.lt; omega, fun e => HNB.out e.symm, fun e => HN9.out e.symm, map_not_deferred H1.out.map, .inl rfl⟩
        ·refine ⟨H1.out.l1, by have := H1.out.x1.lt; omega, ?_, ?_, cells_not_deferred H1.out.x1, .inr ⟨_, _, _, H1.out.x1⟩⟩
         ·intro e'
          have h := (show W.heap[b]? = _ from H1.out.x1)
          rw [e', H3.out] at h
          simp at h
         ·intro e'
          have h := (show W.heap[b]? = _ from H1.out.x1)
          rw [e', H4.out] at h
          simp at h
        ·obtain ⟨cur, hcur⟩ := H1.out.line.block b hb
         exact ⟨(H1.out.line.lt b hb).1, by have := (H1.out.line.lt b hb).2; omega, H5.out b hb, H6.out b hb, H1.out.line.not_deferred b hb, .inr ⟨_, _, _, hcur⟩⟩
       refine ⟨⟨hk.size, fun k o hB hk0 hc => ?_⟩, KpS.ofKeeps hk H1.out.keep.size (fun k hlt hs => by have := (hS k hs).1; omega) (lt_of_heap H3.out) (fun hs => (hS _ hs).2.2.1 rfl), ⟨.slice (some ⟨g4, off4, none⟩) (sk.length + 1) cap4, ?_, H2.out.keeps (KeepsD.of hk (fun b hs => (hS b hs).2.2.2.2.1)), hk.heap H3.out (fun hs => (hS _ hs).2.2.1 rfl), hk.heap H4.out (fun hs => (hS _ hs).2.2.2.1 rfl), ?_, ?_⟩⟩
       ·refine hk.heap hk0 (fun hs => ?_)
        rcases (hS k hs).2.2.2.2.2 with rfl | ⟨cs, t, fr, e'⟩
        ·omega
        ·rw [e'] at hk0; cases hk0; cases hc
       ·have e1 : frs e (keysT T) ((pre ++ [y]).map fun y => y.1) = frs e (keysT T) (pre.map fun y => y.1) ++ [e.of y.1] := by rw [List.map_append]; exact HSN.out
        rw [e1, keysT_append, ← List.append_assoc, ← List.append_assoc, HSK.out]
        exact HP2.out
       ·intro k hk' e'
        simp [Value.ownBlock] at hk'
        subst hk'
        rcases HAT2.out with e2 | e2
        ·exact H5.out g4 e2 e'
        ·have := lt_of_heap H3.out; have := HK1.out.size; simp at this; omega
       ·intro k hk' e'
        simp [Value.ownBlock] at hk'
        subst hk'
        rcases HAT2.out with e2 | e2
        ·exact H6.out g4 e2 e'
        ·have := lt_of_heap H4.out; have := HK1.out.size; simp at this; omega
     ·rintro D ys W hD hys ⟨vl, h1, h2, h3, h4, h5, h6⟩ hd
      have hys' : (ys.map fun y => y.1) = wsteps ops e.to := hys
      rw [hys', ← HNX.out] at h1
      have HM7 := Lib.hid (HM6.out.cons h2 hD (by omega) hd)
      have H1 := Lib.hid h1
      have hle : i + 1 ≤ (tree ops st (i + 1)).length := by
       rw [HNX.out, List.length_append]; have := HIT.out; omega
      have HLE := Lib.hid hle
      have HQ2 := Lib.hid (show q' ++ keysT (frs e (keysT T) (wsteps ops e.to)) = (keysT (tree ops st (i + 1))).drop (i + 1) by
       rw [HNX.out, keysT_append, List.drop_append_of_le_length (by rw [keysT_length]; exact HIT.out), HQQ.out])
      have HNO2 := Lib.hid (show ∀ (j : Nat) f, j < i + 1 → (tree ops st (i + 1))[j]? = some f → acc f.to = false by
       intro j f hj hf
       rw [HNX.out, List.getElem?_append_left (by have := HIT.out; omega)] at hf
       by_cases hji : j < i
       ·exact HNO.out j f hji hf
       ·have : j = i := by omega
        subst this
        rw [HTI.out] at hf; cases hf; exact hacc)
      have HMEA := Lib.hid (show l.length + 1 - (mapLen W b2 - boxLen W b1) < l.length + 1 - (mapLen wr b2 - boxLen wr b1) by
       obtain ⟨c1, c2⟩ := H1.out.count
       obtain ⟨c3, c4⟩ := HCO.out
       have hq1 := congrArg List.length HQ2.out
       rw [List.length_drop, keysT_length] at hq1
       have hq2 := HQL.out
       have hq3 := HTL.out
       have hq4 := HIT.out
       have hq5 := HLE.out
       rw [c1, c2, c3, c4, List.length_cons, hq1]
       omega)
      clear h1 h2 h3 h4 h5 h6 hd hys hys' hle
      gi_wp2
      exact ⟨⟨mark D :: ds, _, _, _, _, _, _, _, _, _, _, _, _, _, _, _, _, _, _, _, _, _, _, _, _, _, _, _, _, _, _, _, _, _, _, _, _, _, _, _, _, _, _, _, _, _, _, _, _, _, _, _, _, _, i + 1, _, vl, ⟨H1.out, HQ2.out, HNO2.out, HM7.out⟩, HLE.out, rfl⟩, HMEA.out⟩
     ·exact fun _ _ _ _ _ _ h _ => h.elim

theorem first_any (w : World) (b st g0 base : Nat) (v : Value) (ops : List Wop) (hw : WordsAt w base b st g0 v ops) (hops : WopsOk ops) (hmany : ops.length ≤ 40) (hst : st < 4294967296) (l : List Nat) (hl : reached ops st = some l)
  (ga : Nat) (pa cb : Array Value) (acc : Nat → Bool) (hask : Asked w ga pa cb acc) :
  Calls Tryz.prog 32 #[.iface 60 (.pointer (some ⟨b, 0, none⟩)), .func (.func ga) pa cb] w (FirstPost ops st acc w) := callsIn_wide.1 (first_in w b st g0 base v ops hw hops hmany hst l hl ga pa cb acc hask)

end Go.Proofs.YtdokakhgflljgaaGreat

namespace Go.Proofs.YtdokakhgflljgaaGreat
open Go.RowKit Go.Shelf

theorem ex_fnD {p : (Nat → Value) → Act} {a : Act} (h : a = p (fun k => a.tmps.getD k undef)) : ∃ u, a = p u := ⟨_, h⟩

section
variable {w0 : World} {b1 b2 b3 : Nat} {T : List Ent} {q : List Nat} {vl : Value} {W : World}
end

end Go.Proofs.YtdokakhgflljgaaGreat

namespace Go.Proofs.YtdokakhgflljgaaGreat.U
open Go.RowKit

structure Ent where
 blk : Nat
 item : Int
 key : Int
 time : Int

def Ent.ptr (e : Ent) : Value := .pointer (some ⟨e.blk, 0, none⟩)

def lessE (a b : Ent) : Bool := decide (a.key < b.key) || (a.key == b.key && decide (a.time < b.time))

/-- The slice v of entries reads as L in w. -/
structure HRep (w : World) (v : Value) (L : List Ent) : Prop where
 row : w.ownsRow 0 136 1 v L.length (L.map Ent.ptr)
 ent : ∀ (i : Nat) (e : Ent), L[i]? = some e → w.heap[e.blk]? = some (.cells #[.int .u32 e.item, .int .i64 e.key, .int .i64 e.time, .int .i64 (i : Int)] 139 (0, 0))
 small : L.length ≤ 1000000

theorem HRep.form {w : World} {v : Value} {L : List Ent} (h : HRep w v L) (hn : 0 < L.length) :
  ∃ H cap cur, v = .slice (some ⟨H, 0, none⟩) L.length cap ∧ w.heap[H]? = some (.cells cur 136 (0, 0)) ∧ cur.size = cap ∧ L.length ≤ cap ∧ ∀ (i : Nat) (e : Ent), L[i]? = some e → cur[i]? = some e.ptr := by
 rcases h.row.2 with ⟨_, h0⟩ | ⟨g, cap, cur, hv, _, hg, hn, hm, hs, ht⟩
 ·omega
 ·refine ⟨g, cap, cur, hv, hg, by omega, hn, fun i e he => ?_⟩
  have hi : i < L.length := (List.getElem?_eq_some_iff.1 he).1
  have : (cur.toList.take (L.length * 1))[i]? = some e.ptr := by rw [ht, List.getElem?_map, he]; rfl
  rw [List.getElem?_take, if_pos (by omega)] at this
  simpa using this

theorem HRep.cell {w : World} {v : Value} {L : List Ent} (h : HRep w v L) {H cap : Nat} (hv : v = .slice (some ⟨H, 0, none⟩) L.length cap) {i : Nat} {e : Ent} (hi : L[i]? = some e) :
  w.cell? ⟨H, i, none⟩ = some (.pointer (some ⟨e.blk, 0, none⟩)) := by
 have hl : i < L.length := (List.getElem?_eq_some_iff.1 hi).1
 obtain ⟨H', cap', cur, hv', hb, hs, hc, hcur⟩ := h.form (by omega)
 rw [hv] at hv'
 simp only [Value.slice.injEq, Option.some.injEq, Addr.mk.injEq] at hv'
 obtain ⟨⟨rfl, _⟩, _⟩ := hv'
 rw [cell_of_blk hb, hcur i e hi]; rfl

theorem HRep.e1 {w : World} {v : Value} {L : List Ent} (h : HRep w v L) {i : Nat} {e : Ent} (hi : L[i]? = some e) : w.cell? ⟨e.blk, 1, none⟩ = some (.int .i64 e.key) := by rw [cell_of_blk (h.ent i e hi)]; rfl
theorem HRep.e2 {w : World} {v : Value} {L : List Ent} (h : HRep w v L) {i : Nat} {e : Ent} (hi : L[i]? = some e) : w.cell? ⟨e.blk, 2, none⟩ = some (.int .i64 e.time) := by rw [cell_of_blk (h.ent i e hi)]; rfl
theorem HRep.e3 {w : World} {v : Value} {L : List Ent} (h : HRep w v L) {i : Nat} {e : Ent} (hi : L[i]? = some e) : w.cell? ⟨e.blk, 3, none⟩ = some (.int .i64 (i : Int)) := by rw [cell_of_blk (h.ent i e hi)]; rfl

set_option maxRecDepth 100000 in
set_option maxHeartbeats 1000000 in
theorem less_any (w : World) (v : Value) (L : List Ent) (h : HRep w v L) (i k : Nat) (ei ek : Ent) (hi : L[i]? = some ei) (hk : L[k]? = some ek) :
  Calls Tryz.prog 171 #[v, .int .i64 (i : Int), .int .i64 (k : Int)] w fun e w' => e = .returned (.bool (lessE ei ek)) ∧ ∃ n, w' = w.drewN n := by
 have li : i < L.length := (List.getElem?_eq_some_iff.1 hi).1
 have lk : k < L.length := (List.getElem?_eq_some_iff.1 hk).1
 have hsm := h.small
 obtain ⟨H, cap, cur, hv, -, -, -, -⟩ := h.form (by omega)
 have ci := h.cell hv hi
 have ck := h.cell hv hk
 have ci1 := h.e1 hi
 have ck1 := h.e1 hk
 have ci2 := h.e2 hi
 have ck2 := h.e2 hk
 subst hv
 clear h hi hk
 have i0 : (0 : Int) ≤ (i : Int) := by omega
 have k0 : (0 : Int) ≤ (k : Int) := by omega
 have il : (i : Int) < (L.length : Int) := by omega
 have kl : (k : Int) < (L.length : Int) := by omega
 by_cases h1 : ei.key < ek.key
 ·have hr : lessE ei ek = true := by simp [lessE, h1]
  have HR := Lib.hid hr; clear hr
  have h1' : decide (ei.key < ek.key) = true := by simpa using h1
  go_enter Tryz.func171, Tryz.ntmps171
  go_wp2
  go_quiet (fail)
  go_wp2
  go_ret
  exact ⟨congrArg (fun b => Ending.returned (Value.bool b)) HR.out.symm, nq, rfl⟩
 ·by_cases h2 : ei.key = ek.key
  ·have hr : lessE ei ek = decide (ei.time < ek.time) := by simp [lessE, h2]
   have HR := Lib.hid hr; clear hr
   have h1' : decide (ei.key < ek.key) = false := by simpa using h1
   have h2' : (ei.key == ek.key) = true := by simpa using h2
   have H2 := Lib.hid h2; clear h2
   go_enter Tryz.func171, Tryz.ntmps171
   go_wp2
   go_quiet (fail)
   go_wp2
   go_ret
   exact ⟨congrArg (fun b => Ending.returned (Value.bool b)) HR.out.symm, nq, rfl⟩
  ·have hr : lessE ei ek = false := by simp [lessE, h1, h2]
   have HR := Lib.hid hr; clear hr
   have h1' : decide (ei.key < ek.key) = false := by simpa using h1
   have h2' : (ei.key == ek.key) = false := by simpa using h2
   go_enter Tryz.func171, Tryz.ntmps171
   go_wp2
   go_quiet (fail)
   go_wp2
   go_ret
   exact ⟨congrArg (fun b => Ending.returned (Value.bool b)) HR.out.symm, nq, rfl⟩

/-! ### Swap -/
def swp (L : List Ent) (i k : Nat) : List Ent :=
 match L[i]?, L[k]? with
 | some a, some b => (L.set i b).set k a
 | _, _ => L

theorem swp_eq {L : List Ent} {i k : Nat} {a b : Ent} (hi : L[i]? = some a) (hk : L[k]? = some b) : swp L i k = (L.set i b).set k a := by simp [swp, hi, hk]

theorem length_swp (L : List Ent) (i k : Nat) : (swp L i k).length = L.length := by
 unfold swp; split <;> simp

theorem get_swp {L : List Ent} {i k : Nat} {a b : Ent} (hi : L[i]? = some a) (hk : L[k]? = some b) (j : Nat) :
  (swp L i k)[j]? = if j = k then some a else if j = i then some b else L[j]? := by
 have li : i < L.length := (List.getElem?_eq_some_iff.1 hi).1
 have lk : k < L.length := (List.getElem?_eq_some_iff.1 hk).1
 rw [swp_eq hi hk, List.getElem?_set]
 by_cases h : k = j
 ·subst h; simp [lk]
 ·rw [if_neg h, if_neg (fun e => h e.symm), List.getElem?_set]
  by_cases h' : i = j
  ·subst h'; simp [li]
  ·rw [if_neg h', if_neg (fun e => h' e.symm)]

theorem swp_self {L : List Ent} {i : Nat} {a : Ent} (hi : L[i]? = some a) : swp L i i = L := by
 apply List.ext_getElem?
 intro j
 rw [get_swp hi hi]
 by_cases h : j = i
 ·subst h; simp [hi]
 ·simp [h]

def hfoot (v : Value) (L : List Ent) (b : Nat) : Prop := v.ownBlock = some b ∨ ∃ e ∈ L, e.blk = b

theorem mem_swp {L : List Ent} {i k : Nat} {e : Ent} : e ∈ swp L i k → e ∈ L := by
 intro h
 cases hi : L[i]? with
 | none => simpa [swp, hi] using h
 | some a =>
  cases hk : L[k]? with
  | none => simpa [swp, hi, hk] using h
  | some b =>
   obtain ⟨j, hj⟩ := List.mem_iff_getElem?.1 h
   rw [get_swp hi hk] at hj
   split at hj
   ·exact (Option.some.inj hj) ▸ List.mem_of_getElem? hi
   ·split at hj
    ·exact (Option.some.inj hj) ▸ List.mem_of_getElem? hk
    ·exact List.mem_of_getElem? hj

theorem HRep.inj {w : World} {v : Value} {L : List Ent} (h : HRep w v L) {i k : Nat} {a b : Ent} (hi : L[i]? = some a) (hk : L[k]? = some b) (e : a.blk = b.blk) : i = k := by
 have x := h.ent i a hi
 rw [e, h.ent k b hk] at x
 simp at x
 omega

theorem HRep.ne_row {w : World} {v : Value} {L : List Ent} (h : HRep w v L) {i : Nat} {a : Ent} (hi : L[i]? = some a) {g : Nat} (hg : v.ownBlock = some g) : a.blk ≠ g := by
 have hl : i < L.length := (List.getElem?_eq_some_iff.1 hi).1
 obtain ⟨H, cap, cur, hv, hb, _⟩ := h.form (by omega)
 rw [hv] at hg
 obtain rfl : H = g := by simpa [Value.ownBlock] using hg
 rintro rfl
 rw [h.ent i a hi] at hb
 simp at hb

theorem HRep.lt {w : World} {v : Value} {L : List Ent} (h : HRep w v L) {b : Nat} (hb : hfoot v L b) : b < w.heap.size := by
 rcases hb with hb | ⟨e, he, rfl⟩
 ·exact (h.row.lt b hb).2
 ·obtain ⟨j, hj⟩ := List.mem_iff_getElem?.1 he
  exact lt_of_heap (h.ent j e hj)

theorem HRep.keeps {S : Nat → Prop} {w w' : World} {v : Value} {L : List Ent} (h : HRep w v L) (hk : Keeps S w w') (hs : ∀ b, hfoot v L b → ¬ S b) : HRep w' v L :=
 ⟨hk.ownsRow h.row (fun b hb => hs b (.inl hb)), fun i e hi => hk.heap (h.ent i e hi) (hs _ (.inr ⟨e, List.mem_of_getElem? hi, rfl⟩)), h.small⟩

theorem HRep.drewN {w : World} {v : Value} {L : List Ent} (h : HRep w v L) (n : Nat) : HRep (w.drewN n) v L := ⟨h.row, h.ent, h.small⟩

structure SwapPost (w : World) (v : Value) (L : List Ent) (i k : Nat) (w' : World) : Prop where
 rep : HRep w' v (swp L i k)
 keeps : Keeps (hfoot v L) w w'

theorem swap_post {w : World} {H n cap : Nat} {L : List Ent} (h : HRep w (.slice (some ⟨H, 0, none⟩) n cap) L) {i k : Nat} {ei ek : Ent} (hi : L[i]? = some ei) (hk : L[k]? = some ek) (hne : i ≠ k) :
  SwapPost w (.slice (some ⟨H, 0, none⟩) n cap) L i k
   ((((w.setCell ⟨H, i, none⟩ (.pointer (some ⟨ek.blk, 0, none⟩))).setCell ⟨H, k, none⟩ (.pointer (some ⟨ei.blk, 0, none⟩))).setCell ⟨ek.blk, 3, none⟩ (.int .i64 (i : Int))).setCell ⟨ei.blk, 3, none⟩ (.int .i64 (k : Int))).drew.drew := by
 have li : i < L.length := (List.getElem?_eq_some_iff.1 hi).1
 have lk : k < L.length := (List.getElem?_eq_some_iff.1 hk).1
 have nH : ∀ (j : Nat) (e : Ent), L[j]? = some e → e.blk ≠ H := fun j e hj => h.ne_row hj rfl
 have hn : n = L.length := by
  have := h.row.2
  rcases this with ⟨hv, _⟩ | ⟨_, _, _, hv, _⟩ <;> simp at hv
  omega
 subst hn
 refine ⟨⟨?_, ?_, ?_⟩, ?_⟩
 ·have r1 := h.row.stored i (.pointer (some ⟨ek.blk, 0, none⟩))
  have r2 := r1.1.stored k (.pointer (some ⟨ei.blk, 0, none⟩))
  have r3 : ((((w.setCell ⟨H, i, none⟩ (.pointer (some ⟨ek.blk, 0, none⟩))).setCell ⟨H, k, none⟩ (.pointer (some ⟨ei.blk, 0, none⟩))).setCell ⟨ek.blk, 3, none⟩ (.int .i64 (i : Int))).setCell ⟨ei.blk, 3, none⟩ (.int .i64 (k : Int))).ownsRow
    0 136 1 (.slice (some ⟨H, 0, none⟩) L.length cap) L.length (((L.map Ent.ptr).set i (.pointer (some ⟨ek.blk, 0, none⟩))).set k (.pointer (some ⟨ei.blk, 0, none⟩))) := by
   refine Keeps.ownsRow (S := fun b => b ≠ H) ?_ r2.1 ?_
   ·exact ((Keeps.refl _ _).setCell (.inl (nH k ek hk)) _).setCell (.inl (nH i ei hi)) _
   ·intro g hg; simp [Value.ownBlock] at hg; simp [hg]
  have e1 : (swp L i k).map Ent.ptr = ((L.map Ent.ptr).set i (.pointer (some ⟨ek.blk, 0, none⟩))).set k (.pointer (some ⟨ei.blk, 0, none⟩)) := by
   rw [swp_eq hi hk, List.map_set, List.map_set]; rfl
  rw [e1, length_swp]
  exact r3
 ·intro j e hj
  rw [get_swp hi hk] at hj
  simp only [heap_drew]
  by_cases hjk : j = k
  ·subst hjk
   rw [if_pos rfl] at hj
   obtain rfl := Option.some.inj hj
   have hx : (((w.setCell ⟨H, i, none⟩ (.pointer (some ⟨ek.blk, 0, none⟩))).setCell ⟨H, j, none⟩ (.pointer (some ⟨ei.blk, 0, none⟩))).setCell ⟨ek.blk, 3, none⟩ (.int .i64 (i : Int))).heap[ei.blk]? = some (.cells #[.int .u32 ei.item, .int .i64 ei.key, .int .i64 ei.time, .int .i64 (i : Int)] 139 (0, 0)) := by
    rw [blk_set_ne (fun e => hne (h.inj hi hk e)), blk_set_ne (nH i ei hi), blk_set_ne (nH i ei hi)]
    exact h.ent i ei hi
   rw [blk_set_same hx]; rfl
  ·rw [if_neg hjk] at hj
   by_cases hji : j = i
   ·subst hji
    rw [if_pos rfl] at hj
    obtain rfl := Option.some.inj hj
    have hx : ((w.setCell ⟨H, j, none⟩ (.pointer (some ⟨ek.blk, 0, none⟩))).setCell ⟨H, k, none⟩ (.pointer (some ⟨ei.blk, 0, none⟩))).heap[ek.blk]? = some (.cells #[.int .u32 ek.item, .int .i64 ek.key, .int .i64 ek.time, .int .i64 (k : Int)] 139 (0, 0)) := by
     rw [blk_set_ne (nH k ek hk), blk_set_ne (nH k ek hk)]
     exact h.ent k ek hk
    rw [blk_set_ne (fun e => hne (h.inj hi hk e.symm)), blk_set_same hx]; rfl
   ·rw [if_neg hji] at hj
    rw [blk_set_ne (fun e => hji (h.inj hj hi e)), blk_set_ne (fun e => hjk (h.inj hj hk e)), blk_set_ne (nH j e hj), blk_set_ne (nH j e hj)]
    exact h.ent j e hj
 ·rw [length_swp]; exact h.small
 ·refine (((((Keeps.refl _ _).setCell (.inl ?_) _).setCell (.inl ?_) _).setCell (.inl ?_) _).setCell (.inl ?_) _).drew.drew
  ·exact .inl rfl
  ·exact .inl rfl
  ·exact .inr ⟨ek, List.mem_of_getElem? hk, rfl⟩
  ·exact .inr ⟨ei, List.mem_of_getElem? hi, rfl⟩

set_option maxRecDepth 100000 in
set_option maxHeartbeats 1000000 in
theorem swap_ne (w : World) (v : Value) (L : List Ent) (h : HRep w v L) (i k : Nat) (ei ek : Ent) (hi : L[i]? = some ei) (hk : L[k]? = some ek) (hne : i ≠ k) :
  Calls Tryz.prog 172 #[v, .int .i64 (i : Int), .int .i64 (k : Int)] w fun e w' => e = .returned (.tuple #[]) ∧ SwapPost w v L i k w' := by
 have li : i < L.length := (List.getElem?_eq_some_iff.1 hi).1
 have lk : k < L.length := (List.getElem?_eq_some_iff.1 hk).1
 have hsm := h.small
 obtain ⟨H, cap, cur, hv, hH, -, -, -⟩ := h.form (by omega)
 have ci := h.cell hv hi
 have ck := h.cell hv hk
 have ci3 := h.e3 hi
 have ck3 := h.e3 hk
 have fi : w.frozen? ⟨H, i, none⟩ = false := frozen_of_blk hH
 have fk : w.frozen? ⟨H, k, none⟩ = false := frozen_of_blk hH
 have fi3 : w.frozen? ⟨ei.blk, 3, none⟩ = false := frozen_of_blk (h.ent i ei hi)
 have fk3 : w.frozen? ⟨ek.blk, 3, none⟩ = false := frozen_of_blk (h.ent k ek hk)
 have n1 : ¬ H = ei.blk := by rintro rfl; rw [h.ent i ei hi] at hH; simp at hH
 have n2 : ¬ H = ek.blk := by rintro rfl; rw [h.ent k ek hk] at hH; simp at hH
 have n3 : ¬ ei.blk = ek.blk := fun e => hne (h.inj hi hk e)
 subst hv
 have HP := Lib.hid (swap_post h hi hk hne)
 clear h hi hk hH
 have i0 : (0 : Int) ≤ (i : Int) := by omega
 have k0 : (0 : Int) ≤ (k : Int) := by omega
 have il : (i : Int) < (L.length : Int) := by omega
 have kl : (k : Int) < (L.length : Int) := by omega
 have hne' : ¬ k = i := fun e => hne e.symm
 have n1' : ¬ ei.blk = H := fun e => n1 e.symm
 have n2' : ¬ ek.blk = H := fun e => n2 e.symm
 have n3' : ¬ ek.blk = ei.blk := fun e => n3 e.symm
 go_enter Tryz.func172, Tryz.ntmps172
 go_wp2
 go_region
 go_wp2
 go_region
 go_end0
 exact ⟨rfl, HP.out⟩

set_option maxRecDepth 100000 in
set_option maxHeartbeats 1000000 in
theorem swap_eq (w : World) (v : Value) (L : List Ent) (h : HRep w v L) (i : Nat) (ei : Ent) (hi : L[i]? = some ei) :
  Calls Tryz.prog 172 #[v, .int .i64 (i : Int), .int .i64 (i : Int)] w fun e w' => e = .returned (.tuple #[]) ∧ SwapPost w v L i i w' := by
 have li : i < L.length := (List.getElem?_eq_some_iff.1 hi).1
 have hsm := h.small
 obtain ⟨H, cap, cur, hv, hH, -, -, -⟩ := h.form (by omega)
 have ci := h.cell hv hi
 have ci3 := h.e3 hi
 have fi : w.frozen? ⟨H, i, none⟩ = false := frozen_of_blk hH
 have fi3 : w.frozen? ⟨ei.blk, 3, none⟩ = false := frozen_of_blk (h.ent i ei hi)
 have n1 : ¬ H = ei.blk := by rintro rfl; rw [h.ent i ei hi] at hH; simp at hH
 subst hv
 have HP : Hid (SwapPost w (.slice (some ⟨H, 0, none⟩) L.length cap) L i i ((((w.setCell ⟨H, i, none⟩ (.pointer (some ⟨ei.blk, 0, none⟩))).setCell ⟨H, i, none⟩ (.pointer (some ⟨ei.blk, 0, none⟩))).setCell ⟨ei.blk, 3, none⟩ (.int .i64 (i : Int))).setCell ⟨ei.blk, 3, none⟩ (.int .i64 (i : Int))).drew.drew) := by
  rw [setCell_id ci, setCell_id ci, setCell_id ci3, setCell_id ci3]
  exact ⟨by rw [swp_self hi]; exact h.drewN 2, (Keeps.refl _ _).drewN 2⟩
 have n1' : ¬ ei.blk = H := fun e => n1 e.symm
 have i0 : (0 : Int) ≤ (i : Int) := by omega
 have il : (i : Int) < (L.length : Int) := by omega
 clear h hi hH
 go_enter Tryz.func172, Tryz.ntmps172
 go_wp2
 go_region
 go_wp2
 go_region
 go_end0
 exact ⟨rfl, HP.out⟩

end Go.Proofs.YtdokakhgflljgaaGreat.U

namespace Go.Proofs.YtdokakhgflljgaaGreat.U
open Go.RowKit

theorem method_Less_raw (a : Addr) (w : World) : (method 337 141 (.pointer (some a)) "Less").run Tryz.prog w = (Sem.load .plain a fun v => .pure (171, v)).run Tryz.prog w := by kernel_rfl
theorem method_Less {a : Addr} {w : World} {v : Value} (h : w.cell? a = some v) : (method 337 141 (.pointer (some a)) "Less").run Tryz.prog w = .ok (171, v) w := by
 rw [method_Less_raw]; simp [Sem.run, h]
theorem method_Swap_raw (a : Addr) (w : World) : (method 337 141 (.pointer (some a)) "Swap").run Tryz.prog w = (Sem.load .plain a fun v => .pure (172, v)).run Tryz.prog w := by kernel_rfl
theorem method_Len_raw (a : Addr) (w : World) : (method 337 141 (.pointer (some a)) "Len").run Tryz.prog w = (Sem.load .plain a fun v => .pure (170, v)).run Tryz.prog w := by kernel_rfl
theorem method_Push_raw (a : Addr) (w : World) : (method 337 141 (.pointer (some a)) "Push").run Tryz.prog w = .ok (174, .pointer (some a)) w := by kernel_rfl
theorem method_Pop_raw (a : Addr) (w : World) : (method 337 141 (.pointer (some a)) "Pop").run Tryz.prog w = .ok (173, .pointer (some a)) w := by kernel_rfl

theorem method_Swap {a : Addr} {w : World} {v : Value} (h : w.cell? a = some v) : (method 337 141 (.pointer (some a)) "Swap").run Tryz.prog w = .ok (172, v) w := by
 rw [method_Swap_raw]; simp [Sem.run, h]
theorem method_Len {a : Addr} {w : World} {v : Value} (h : w.cell? a = some v) : (method 337 141 (.pointer (some a)) "Len").run Tryz.prog w = .ok (170, v) w := by
 rw [method_Len_raw]; simp [Sem.run, h]

theorem hfoot_swp {v : Value} {L : List Ent} {i k b : Nat} (h : hfoot v (swp L i k) b) : hfoot v L b := by
 rcases h with h | ⟨e, he, rfl⟩
 ·exact .inl h
 ·exact .inr ⟨e, mem_swp he, rfl⟩

def lessAt (L : List Ent) (i k : Nat) : Bool :=
 match L[i]?, L[k]? with
 | some a, some b => lessE a b
 | _, _ => false

theorem lessAt_eq {L : List Ent} {i k : Nat} {a b : Ent} (hi : L[i]? = some a) (hk : L[k]? = some b) : lessAt L i k = lessE a b := by simp [lessAt, hi, hk]

def upL (L : List Ent) (j : Nat) : List Ent :=
 if j = 0 then L else if lessAt L j ((j - 1) / 2) then upL (swp L ((j - 1) / 2) j) ((j - 1) / 2) else L
termination_by j
decreasing_by omega

/-- What a call that only turns the heap leaves behind. -/
structure HPost (w : World) (v : Value) (L L' : List Ent) (w' : World) : Prop where
 rep : HRep w' v L'
 keeps : Keeps (hfoot v L) w w'
 len : L'.length = L.length
 sub : ∀ b, hfoot v L' b → hfoot v L b

theorem HPost.refl {w : World} {v : Value} {L : List Ent} (h : HRep w v L) : HPost w v L L w := ⟨h, Keeps.refl _ _, rfl, fun _ h => h⟩

theorem HPost.drewN {w w' : World} {v : Value} {L L' : List Ent} (h : HPost w v L L' w') (n : Nat) : HPost w v L L' (w'.drewN n) := ⟨h.rep.drewN n, h.keeps.drewN n, h.len, h.sub⟩

theorem HPost.swap {w w' w'' : World} {v : Value} {L L' : List Ent} (h : HPost w v L L' w') {i k : Nat} (hs : SwapPost w' v L' i k w'') : HPost w v L (swp L' i k) w'' :=
 ⟨hs.rep, h.keeps.trans (hs.keeps.mono (fun b _ hb => h.sub b hb)), by rw [length_swp]; exact h.len, fun b hb => h.sub b (hfoot_swp hb)⟩

theorem HPost.trans {w w' w'' : World} {v : Value} {L L' L'' : List Ent} (h : HPost w v L L' w') (hs : HPost w' v L' L'' w'') : HPost w v L L'' w'' :=
 ⟨hs.rep, h.keeps.trans (hs.keeps.mono (fun b _ hb => h.sub b hb)), hs.len.trans h.len, fun b hb => h.sub b (hs.sub b hb)⟩

theorem HPost.cell {w w' : World} {v : Value} {L L' : List Ent} (h : HPost w v L L' w') {Q : Nat} {o : Nat} {x : Value} (hQ : w.cell? ⟨Q, o, none⟩ = some x) (nQ : ¬ hfoot v L Q) : w'.cell? ⟨Q, o, none⟩ = some x := h.keeps.cell hQ nQ

set_option maxRecDepth 100000 in
set_option maxHeartbeats 1000000 in
theorem up_any (w : World) (Q : Nat) (v : Value) (L : List Ent) (h : HRep w v L) (hQ : w.cell? ⟨Q, 0, none⟩ = some v) (nQ : ¬ hfoot v L Q) (j : Nat) (hj : j < L.length) :
  Calls Tryz.prog 90 #[.iface 141 (.pointer (some ⟨Q, 0, none⟩)), .int .i64 (j : Int)] w fun e w' => e = .returned (.tuple #[]) ∧ HPost w v L (upL L j) w' := by
 have hsm := h.small
 go_enter Tryz.func90, Tryz.ntmps90
 go_wp2_with fail
 go_loopw [1] (fun x wr => ∃ (k : Nat) (Lc : List Ent), x = .int .i64 (k : Int) ∧ k < Lc.length ∧ upL Lc k = upL L j ∧ HPost w v L Lc wr) (fun x _ => (intOf x).toNat)
 case atStart => exact ⟨j, L, rfl, hj, rfl, HPost.refl h⟩
 case round =>
  obtain ⟨k, Lc, rfl, hk, hup, hP⟩ := hrel
  have hk' : Lc.length ≤ 1000000 := hP.rep.small
  have HU := Lib.hid hup; clear hup
  by_cases k0 : k = 0
  ·subst k0
   have HP := Lib.hid hP; clear hP h
   go_wp2_with fail
   go_end0
   refine ⟨rfl, ?_⟩
   have := HU.out
   rw [upL, if_pos rfl] at this
   rw [← this]; exact HP.out
  ·have e1 : ((k : Int) - 1) / 2 = (((k - 1) / 2 : Nat) : Int) := by omega
   have hup' : upL Lc k = if lessAt Lc k ((k - 1) / 2) then upL (swp Lc ((k - 1) / 2) k) ((k - 1) / 2) else Lc := by rw [upL, if_neg k0]
   generalize (k - 1) / 2 = i at *
   have hik : i < k := by omega
   have hne : (((i : Nat) : Int) == (k : Int)) = false := by simp; omega
   obtain ⟨ek, hek⟩ : ∃ e, Lc[k]? = some e := ⟨_, List.getElem?_eq_getElem hk⟩
   obtain ⟨ei, hei⟩ : ∃ e, Lc[i]? = some e := ⟨_, List.getElem?_eq_getElem (by omega)⟩
   rw [lessAt_eq hek hei] at hup'
   have hq : ∀ n, (wr.drewN n).cell? ⟨Q, 0, none⟩ = some v := fun n => hP.cell hQ nQ
   have mL := method_Less (hP.cell hQ nQ)
   have mS := fun n => method_Swap (hq n)
   have HE := Lib.hid hek
   have HI := Lib.hid hei
   have HUP := Lib.hid hup'
   have HP := Lib.hid hP
   have HQ := Lib.hid hQ
   clear hek hei hup' hP hq hQ h nQ
   cases hb : lessE ek ei
   ·have HB := Lib.hid hb; clear hb
    go_wp2_with (first | (go_at_call 171; refine (less_any _ v Lc HP.out.rep k i ek ei HE.out HI.out).mono ?_; rintro e w' ⟨he, n, rfl⟩; rw [HB.out] at he; subst he))
    go_end0
    refine ⟨rfl, ?_⟩
    have x := HUP.out
    rw [HB.out, HU.out] at x
    rw [x]; exact HP.out.drewN n
   ·have HB := Lib.hid hb; clear hb
    go_wp2_with (first | (go_at_call 171; refine (less_any _ v Lc HP.out.rep k i ek ei HE.out HI.out).mono ?_; rintro e w' ⟨he, n, rfl⟩; rw [HB.out] at he; subst he) | (go_at_call 172; refine (swap_ne _ v Lc (HP.out.rep.drewN _) i k ei ek HI.out HE.out (by omega)).mono ?_; rintro e w' ⟨rfl, hS⟩))
    go_roundw
    case rel =>
     refine ⟨i, _, by go_num, ?_, ?_, (HP.out.drewN _).swap hS⟩
     ·rw [length_swp]; omega
     ·have x := HUP.out
      rw [HB.out, HU.out] at x
      exact x.symm
    case measure => simp [intOf]; omega

theorem less_any' (w : World) (v : Value) (L : List Ent) (h : HRep w v L) (x y : Int) (i k : Nat) (ei ek : Ent) (hi : L[i]? = some ei) (hk : L[k]? = some ek) (b : Bool) (hb : lessE ei ek = b) (hx : x = (i : Int)) (hy : y = (k : Int)) :
  Calls Tryz.prog 171 #[v, .int .i64 x, .int .i64 y] w fun e w' => e = .returned (.bool b) ∧ ∃ n, w' = w.drewN n := by
 subst hx hy hb; exact less_any w v L h i k ei ek hi hk

theorem swap_ne' (w : World) (v : Value) (L : List Ent) (h : HRep w v L) (x y : Int) (i k : Nat) (ei ek : Ent) (hi : L[i]? = some ei) (hk : L[k]? = some ek) (hne : i ≠ k) (hx : x = (i : Int)) (hy : y = (k : Int)) :
  Calls Tryz.prog 172 #[v, .int .i64 x, .int .i64 y] w fun e w' => e = .returned (.tuple #[]) ∧ SwapPost w v L i k w' := by
 subst hx hy; exact swap_ne w v L h i k ei ek hi hk hne

def downL (L : List Ent) (n i : Nat) : List Ent × Nat :=
 if n ≤ 2 * i + 1 then (L, i) else
 let j := if 2 * i + 2 < n && lessAt L (2 * i + 2) (2 * i + 1) then 2 * i + 2 else 2 * i + 1
 if lessAt L j i then downL (swp L i j) n j else (L, i)
termination_by n - i
decreasing_by split <;> omega

theorem downL_stop {L : List Ent} {n i : Nat} (h : n ≤ 2 * i + 1) : downL L n i = (L, i) := by rw [downL, if_pos h]
theorem downL_go {L : List Ent} {n i j : Nat} (h : ¬ n ≤ 2 * i + 1) (hj : (if 2 * i + 2 < n && lessAt L (2 * i + 2) (2 * i + 1) then 2 * i + 2 else 2 * i + 1) = j) :
  downL L n i = if lessAt L j i then downL (swp L i j) n j else (L, i) := by
 rw [downL, if_neg h]; simp only [hj]

theorem ret_bool {a b : Bool} (h : a = b) : Ending.returned (.bool a) = .returned (.bool b) := by rw [h]


set_option maxRecDepth 100000 in
set_option maxHeartbeats 4000000 in
theorem down_any (w : World) (Q : Nat) (v : Value) (L : List Ent) (h : HRep w v L) (hQ : w.cell? ⟨Q, 0, none⟩ = some v) (nQ : ¬ hfoot v L Q) (i0 n : Nat) (hn : n ≤ L.length) (hi0 : i0 ≤ L.length) :
  Calls Tryz.prog 89 #[.iface 141 (.pointer (some ⟨Q, 0, none⟩)), .int .i64 (i0 : Int), .int .i64 (n : Int)] w fun e w' => e = .returned (.bool (decide (i0 < (downL L n i0).2))) ∧ HPost w v L (downL L n i0).1 w' := by
 have hsm := h.small
 have hnn : n ≤ 1000000 := by omega
 have hii : i0 ≤ 1000000 := by omega
 go_enter Tryz.func89, Tryz.ntmps89
 go_wp2_with fail
 go_loopw [7] (fun x wr => ∃ (i : Nat) (Lc : List Ent), x = .int .i64 (i : Int) ∧ i ≤ 1000000 ∧ downL Lc n i = downL L n i0 ∧ HPost w v L Lc wr) (fun x _ => n - (intOf x).toNat)
 case atStart => exact ⟨i0, L, rfl, hii, rfl, HPost.refl h⟩
 case round =>
  obtain ⟨i, Lc, rfl, hi, hdn, hP⟩ := hrel
  have hk' : Lc.length ≤ 1000000 := hP.rep.small
  have hlen : n ≤ Lc.length := by rw [hP.len]; exact hn
  have HU := Lib.hid hdn; clear hdn
  by_cases hst : n ≤ 2 * i + 1
  ·have HP := Lib.hid hP; clear hP h
   have x := downL_stop (L := Lc) hst
   rw [HU.out] at x
   have HX := Lib.hid x; clear x
   go_wp2_with fail
   go_ret
   exact ⟨ret_bool (by rw [HX.out]), by rw [HX.out]; exact HP.out⟩
  ·obtain ⟨ei, hei⟩ : ∃ e, Lc[i]? = some e := ⟨_, List.getElem?_eq_getElem (by omega)⟩
   obtain ⟨e1, he1⟩ : ∃ e, Lc[2 * i + 1]? = some e := ⟨_, List.getElem?_eq_getElem (by omega)⟩
   have hst' : 2 * i + 1 < n := by omega
   have hq : ∀ n, (wr.drewN n).cell? ⟨Q, 0, none⟩ = some v := fun n => hP.cell hQ nQ
   have mL := fun n => method_Less (hq n)
   have mL0 := method_Less (hP.cell hQ nQ)
   have mS := fun n => method_Swap (hq n)
   have HEI := Lib.hid hei
   have HE1 := Lib.hid he1
   have HP := Lib.hid hP
   by_cases h2 : 2 * i + 2 < n
   ·obtain ⟨e2, he2⟩ : ∃ e, Lc[2 * i + 2]? = some e := ⟨_, List.getElem?_eq_getElem (by omega)⟩
    have HE2 := Lib.hid he2
    cases hb : lessE e2 e1
    ·have hj : (if 2 * i + 2 < n && lessAt Lc (2 * i + 2) (2 * i + 1) then 2 * i + 2 else 2 * i + 1) = 2 * i + 1 := by simp [lessAt_eq he2 he1, hb]
     have HG := Lib.hid (downL_go hst hj)
     rw [lessAt_eq he1 hei, HU.out] at HG
     have HB := Lib.hid hb
     cases hc : lessE e1 ei
     ·clear hei he1 hP hq hQ h nQ hb he2 hj
      have HC := Lib.hid hc; clear hc
      rw [HC.out] at HG
      go_wp2_with fail
      refine (less_any' _ v Lc HP.out.rep _ _ _ _ e2 e1 HE2.out HE1.out _ HB.out (by omega) (by omega)).mono ?_; rintro e w' ⟨rfl, n1, rfl⟩
      go_wp2_with fail
      refine (less_any' _ v Lc (HP.out.rep.drewN _) _ _ _ _ e1 ei HE1.out HEI.out _ HC.out (by omega) (by omega)).mono ?_; rintro e w' ⟨rfl, n2, rfl⟩
      go_wp2_with fail
      go_ret
      have hx := HG.out; simp only [Bool.false_eq_true, if_false] at hx
      exact ⟨ret_bool (by rw [hx]), by rw [hx]; exact HP.out.drewN _⟩
     ·clear hei he1 hP hq hQ h nQ hb he2 hj
      have HC := Lib.hid hc; clear hc
      rw [HC.out] at HG
      go_wp2_with fail
      refine (less_any' _ v Lc HP.out.rep _ _ _ _ e2 e1 HE2.out HE1.out _ HB.out (by omega) (by omega)).mono ?_; rintro e w' ⟨rfl, n1, rfl⟩
      go_wp2_with fail
      refine (less_any' _ v Lc (HP.out.rep.drewN _) _ _ _ _ e1 ei HE1.out HEI.out _ HC.out (by omega) (by omega)).mono ?_; rintro e w' ⟨rfl, n2, rfl⟩
      go_wp2_with fail
      refine (swap_ne' _ v Lc (HP.out.rep.drewN _) _ _ i (2 * i + 1) ei e1 HEI.out HE1.out (by omega) (by omega) (by omega)).mono ?_; rintro e w' ⟨rfl, hS⟩
      go_wp2_with fail
      go_roundw
      case rel =>
       have hx := HG.out; simp only [if_true] at hx
       exact ⟨2 * i + 1, _, by go_num, by omega, hx.symm, (HP.out.drewN _).swap hS⟩
      case measure => simp [intOf]; omega
    ·have hj : (if 2 * i + 2 < n && lessAt Lc (2 * i + 2) (2 * i + 1) then 2 * i + 2 else 2 * i + 1) = 2 * i + 2 := by simp [lessAt_eq he2 he1, hb, h2]
     have HG := Lib.hid (downL_go hst hj)
     rw [lessAt_eq he2 hei, HU.out] at HG
     have HB := Lib.hid hb
     cases hc : lessE e2 ei
     ·clear hei he1 hP hq hQ h nQ hb he2 hj
      have HC := Lib.hid hc; clear hc
      rw [HC.out] at HG
      go_wp2_with fail
      refine (less_any' _ v Lc HP.out.rep _ _ _ _ e2 e1 HE2.out HE1.out _ HB.out (by omega) (by omega)).mono ?_; rintro e w' ⟨rfl, n1, rfl⟩
      go_wp2_with fail
      refine (less_any' _ v Lc (HP.out.rep.drewN _) _ _ _ _ e2 ei HE2.out HEI.out _ HC.out (by omega) (by omega)).mono ?_; rintro e w' ⟨rfl, n2, rfl⟩
      go_wp2_with fail
      go_ret
      have hx := HG.out; simp only [Bool.false_eq_true, if_false] at hx
      exact ⟨ret_bool (by rw [hx]), by rw [hx]; exact HP.out.drewN _⟩
     ·clear hei he1 hP hq hQ h nQ hb he2 hj
      have HC := Lib.hid hc; clear hc
      rw [HC.out] at HG
      go_wp2_with fail
      refine (less_any' _ v Lc HP.out.rep _ _ _ _ e2 e1 HE2.out HE1.out _ HB.out (by omega) (by omega)).mono ?_; rintro e w' ⟨rfl, n1, rfl⟩
      go_wp2_with fail
      refine (less_any' _ v Lc (HP.out.rep.drewN _) _ _ _ _ e2 ei HE2.out HEI.out _ HC.out (by omega) (by omega)).mono ?_; rintro e w' ⟨rfl, n2, rfl⟩
      go_wp2_with fail
      refine (swap_ne' _ v Lc (HP.out.rep.drewN _) _ _ i (2 * i + 2) ei e2 HEI.out HE2.out (by omega) (by omega) (by omega)).mono ?_; rintro e w' ⟨rfl, hS⟩
      go_wp2_with fail
      go_roundw
      case rel =>
       have hx := HG.out; simp only [if_true] at hx
       exact ⟨2 * i + 2, _, by go_num, by omega, hx.symm, (HP.out.drewN _).swap hS⟩
      case measure => simp [intOf]; omega
   ·have hj : (if 2 * i + 2 < n && lessAt Lc (2 * i + 2) (2 * i + 1) then 2 * i + 2 else 2 * i + 1) = 2 * i + 1 := by simp [h2]
    have HG := Lib.hid (downL_go hst hj)
    rw [lessAt_eq he1 hei, HU.out] at HG
    cases hc : lessE e1 ei
    ·clear hei he1 hP hq hQ h nQ hj
     have HC := Lib.hid hc; clear hc
     rw [HC.out] at HG
     go_wp2_with fail
     refine (less_any' _ v Lc HP.out.rep _ _ _ _ e1 ei HE1.out HEI.out _ HC.out (by omega) (by omega)).mono ?_; rintro e w' ⟨rfl, n2, rfl⟩
     go_wp2_with fail
     go_ret
     have hx := HG.out; simp only [Bool.false_eq_true, if_false] at hx
     exact ⟨ret_bool (by rw [hx]), by rw [hx]; exact HP.out.drewN _⟩
    ·clear hei he1 hP hq hQ h nQ hj
     have HC := Lib.hid hc; clear hc
     rw [HC.out] at HG
     go_wp2_with fail
     refine (less_any' _ v Lc HP.out.rep _ _ _ _ e1 ei HE1.out HEI.out _ HC.out (by omega) (by omega)).mono ?_; rintro e w' ⟨rfl, n2, rfl⟩
     go_wp2_with fail
     refine (swap_ne' _ v Lc (HP.out.rep.drewN _) _ _ i (2 * i + 1) ei e1 HEI.out HE1.out (by omega) (by omega) (by omega)).mono ?_; rintro e w' ⟨rfl, hS⟩
     go_wp2_with fail
     go_roundw
     case rel =>
      have hx := HG.out; simp only [if_true] at hx
      exact ⟨2 * i + 1, _, by go_num, by omega, hx.symm, (HP.out.drewN _).swap hS⟩
     case measure => simp [intOf]; omega

end Go.Proofs.YtdokakhgflljgaaGreat.U

namespace Go.Proofs.YtdokakhgflljgaaGreat.U
open Go.RowKit

/-- Q is the queue's struct: the slice v, the map m, the clock t. -/
def QBlk (w : World) (Q : Nat) (v m : Value) (t : Int) : Prop := w.heap[Q]? = some (.cells #[v, m, .int .i64 t] 135 (0, 0))

theorem QBlk.c0 {w : World} {Q : Nat} {v m : Value} {t : Int} (h : QBlk w Q v m t) : w.cell? ⟨Q, 0, none⟩ = some v := by rw [cell_of_blk h]; rfl
theorem QBlk.c1 {w : World} {Q : Nat} {v m : Value} {t : Int} (h : QBlk w Q v m t) : w.cell? ⟨Q, 1, none⟩ = some m := by rw [cell_of_blk h]; rfl
theorem QBlk.c2 {w : World} {Q : Nat} {v m : Value} {t : Int} (h : QBlk w Q v m t) : w.cell? ⟨Q, 2, none⟩ = some (.int .i64 t) := by rw [cell_of_blk h]; rfl

theorem QBlk.nfoot {w : World} {Q : Nat} {v m : Value} {t : Int} (h : QBlk w Q v m t) {L : List Ent} (hr : HRep w v L) : ¬ hfoot v L Q := by
 rintro (hb | ⟨e, he, rfl⟩)
 ·rcases hr.row.2 with ⟨hv, _⟩ | ⟨g, cap, cur, hv, _, hg, _⟩
  ·rw [hv] at hb; simp [Value.ownBlock] at hb
  ·rw [hv] at hb; simp [Value.ownBlock] at hb
   subst hb
   unfold QBlk at h; rw [hg] at h; simp at h
 ·obtain ⟨j, hj⟩ := List.mem_iff_getElem?.1 he
  have := hr.ent j e hj
  unfold QBlk at h; rw [this] at h; simp at h

theorem HPost.qblk {w w' : World} {v m : Value} {L L' : List Ent} (h : HPost w v L L' w') {Q : Nat} {t : Int} (hQ : QBlk w Q v m t) (hr : HRep w v L) : QBlk w' Q v m t := h.keeps.heap hQ (hQ.nfoot hr)

theorem HRep.isSlice {w : World} {v : Value} {L : List Ent} (h : HRep w v L) : ∃ ao cap, v = .slice ao L.length cap := by
 rcases h.row.2 with ⟨hv, h0⟩ | ⟨g, cap, cur, hv, _⟩
 ·exact ⟨none, 0, by rw [hv, h0]⟩
 ·exact ⟨_, _, hv⟩

set_option maxRecDepth 100000 in
set_option maxHeartbeats 400000 in
theorem len_any (w : World) (v : Value) (L : List Ent) (h : HRep w v L) :
  Calls Tryz.prog 170 #[v] w fun e w' => e = .returned (.int .i64 (L.length : Int)) ∧ w = w' := by
 obtain ⟨ao, cap, rfl⟩ := h.isSlice
 clear h
 go_enter Tryz.func170, Tryz.ntmps170
 go_wp2
 go_ret
 exact ⟨rfl, rfl⟩

def fixL (L : List Ent) (i : Nat) : List Ent := if i < (downL L L.length i).2 then (downL L L.length i).1 else upL (downL L L.length i).1 i

set_option maxRecDepth 100000 in
set_option maxHeartbeats 1000000 in
theorem fix_any (w : World) (Q : Nat) (v m : Value) (t : Int) (L : List Ent) (h : HRep w v L) (hQ : QBlk w Q v m t) (x : Int) (i : Nat) (hi : i < L.length) (hx : x = (i : Int)) :
  Calls Tryz.prog 72 #[.iface 141 (.pointer (some ⟨Q, 0, none⟩)), .int .i64 x] w fun e w' => e = .returned (.tuple #[]) ∧ HPost w v L (fixL L i) w' := by
 subst hx
 have hsm := h.small
 have mN := method_Len hQ.c0
 have H0 := Lib.hid h
 have HQ := Lib.hid hQ
 have HF : Hid (fixL L i = if i < (downL L L.length i).2 then (downL L L.length i).1 else upL (downL L L.length i).1 i) := rfl
 clear h hQ
 by_cases hd : i < (downL L L.length i).2
 ·have HD := hid_true hd
  rw [if_pos hd] at HF
  clear hd
  go_enter Tryz.func72, Tryz.ntmps72
  go_wp2_with fail
  refine (len_any _ v L H0.out).mono ?_; rintro e w' ⟨rfl, rfl⟩
  go_wp2_with fail
  refine (down_any _ Q v L H0.out HQ.out.c0 (HQ.out.nfoot H0.out) i L.length (Nat.le_refl _) (by omega)).mono ?_; rintro e w' ⟨he, hP⟩; rw [HD.out] at he; subst he
  go_wp2_with fail
  go_end0
  exact ⟨rfl, by rw [HF.out]; exact hP⟩
 ·have HD := hid_false hd
  rw [if_neg hd] at HF
  clear hd
  go_enter Tryz.func72, Tryz.ntmps72
  go_wp2_with fail
  refine (len_any _ v L H0.out).mono ?_; rintro e w' ⟨rfl, rfl⟩
  go_wp2_with fail
  refine (down_any _ Q v L H0.out HQ.out.c0 (HQ.out.nfoot H0.out) i L.length (Nat.le_refl _) (by omega)).mono ?_; rintro e w' ⟨he, hP⟩; rw [HD.out] at he; subst he
  go_wp2_with fail
  refine (up_any _ Q v _ hP.rep (hP.qblk HQ.out H0.out).c0 ((hP.qblk HQ.out H0.out).nfoot hP.rep) i (by rw [hP.len]; exact hi)).mono ?_; rintro e w'' ⟨rfl, hP2⟩
  go_wp2_with fail
  go_end0
  exact ⟨rfl, by rw [HF.out]; exact hP.trans hP2⟩

/-! ### the slice's own Pop -/
structure PopPost (w : World) (Q : Nat) (v m : Value) (t : Int) (L : List Ent) (w' : World) (v' : Value) : Prop where
 rep : HRep w' v' L
 q : QBlk w' Q v' m t
 keeps : Keeps (fun b => b = Q) w w'
 own : v'.ownBlock = v.ownBlock

theorem HRep.pop {w : World} {H cap : Nat} {L : List Ent} {e : Ent} {n : Nat} (h : HRep w (.slice (some ⟨H, 0, none⟩) n cap) (L ++ [e])) : HRep w (.slice (some ⟨H, 0, none⟩) L.length cap) L := by
 refine ⟨?_, ?_, ?_⟩
 ·rcases h.row.2 with ⟨hv, _⟩ | ⟨g, cap', cur, hv, hb, hg, hn, hm, hs, ht⟩
  ·simp at hv
  ·simp only [Value.slice.injEq, Option.some.injEq, Addr.mk.injEq, and_true] at hv
   obtain ⟨rfl, _, rfl⟩ := hv
   refine ⟨by simp, .inr ⟨H, cap, cur, rfl, hb, hg, ?_, hm, hs, ?_⟩⟩
   ·simp at hn; omega
   ·have : (cur.toList.take ((L ++ [e]).length * 1)).take (L.length * 1) = ((L ++ [e]).map Ent.ptr).take (L.length * 1) := by rw [ht]
    rw [List.take_take] at this
    rw [show min (L.length * 1) ((L ++ [e]).length * 1) = L.length * 1 by simp] at this
    rw [this]; simp
 ·intro i x hi
  have hl : i < L.length := (List.getElem?_eq_some_iff.1 hi).1
  exact h.ent i x (by rw [List.getElem?_append_left hl]; exact hi)
 ·have := h.small; simp at this; omega

theorem pop_post {w : World} {Q H cap : Nat} {m : Value} {t : Int} {L : List Ent} {e : Ent} {n : Nat} (h : HRep w (.slice (some ⟨H, 0, none⟩) n cap) (L ++ [e])) (hQ : QBlk w Q (.slice (some ⟨H, 0, none⟩) n cap) m t) (d : Nat) :
  PopPost w Q (.slice (some ⟨H, 0, none⟩) n cap) m t L ((w.setCell ⟨Q, 0, none⟩ (.slice (some ⟨H, 0, none⟩) L.length cap)).drewN d) (.slice (some ⟨H, 0, none⟩) L.length cap) := by
 have nQ := hQ.nfoot h
 refine ⟨HRep.drewN (h.pop.keeps (S := fun b => b = Q) ((Keeps.refl (fun b => b = Q) w).setCell (p := ⟨Q, 0, none⟩) (.inl rfl) _) ?_) _, ?_, ((Keeps.refl (fun b => b = Q) w).setCell (p := ⟨Q, 0, none⟩) (.inl rfl) _).drewN _, rfl⟩
 ·rintro b hb rfl
  apply nQ
  rcases hb with hb | ⟨x, hx, rfl⟩
  ·exact .inl hb
  ·exact .inr ⟨x, by simp [hx], rfl⟩
 ·unfold QBlk
  rw [blk_drewN, blk_set_same hQ]; rfl

set_option maxRecDepth 100000 in
set_option maxHeartbeats 1000000 in
theorem opop_any (w : World) (Q : Nat) (v m : Value) (t : Int) (L : List Ent) (e0 : Ent) (h : HRep w v (L ++ [e0])) (hQ : QBlk w Q v m t) :
  Calls Tryz.prog 173 #[.pointer (some ⟨Q, 0, none⟩)] w fun e w' => e = .returned (.iface 136 (.pointer (some ⟨e0.blk, 0, none⟩))) ∧ ∃ v', PopPost w Q v m t L w' v' := by
 have hsm := h.small
 obtain ⟨H, cap, cur, hv, hH, hcs, hcl, -⟩ := h.form (by simp)
 have hlen : (L ++ [e0]).length = L.length + 1 := by simp
 have hlast := h.cell hv (i := L.length) (e := e0) (by simp)
 rw [hlen] at hv hsm hcl
 subst hv
 have c0 := hQ.c0
 have f0 : w.frozen? ⟨Q, 0, none⟩ = false := frozen_of_blk hQ
 have HP := Lib.hid (fun d => pop_post h hQ d)
 have e1 : ((L.length + 1 : Nat) : Int) - 1 = (L.length : Int) := by omega
 clear h hQ hH hcs hlen
 go_enter Tryz.func173, Tryz.ntmps173
 go_wp2
 go_ret
 exact ⟨rfl, _, HP.out 0⟩

/-- What heap.Pop leaves: the list behind the swap and the sinking, its last element. -/
def popL (L : List Ent) : List Ent := (downL (swp L 0 (L.length - 1)) (L.length - 1) 0).1

theorem length_downL (L : List Ent) (n i : Nat) : (downL L n i).1.length = L.length := by
 induction hm : n - i using Nat.strongRecOn generalizing L i with
 | _ m ih =>
  by_cases h : n ≤ 2 * i + 1
  ·rw [downL_stop h]
  ·rw [downL_go h rfl]
   generalize hj : (if (decide (2 * i + 2 < n) && lessAt L (2 * i + 2) (2 * i + 1)) = true then 2 * i + 2 else 2 * i + 1) = j
   have hij : i < j := by subst hj; split <;> omega
   split
   ·rw [ih (n - j) (by omega) _ _ rfl, length_swp]
   ·rfl

theorem length_popL (L : List Ent) : (popL L).length = L.length := by unfold popL; rw [length_downL, length_swp]

structure TookPost (w : World) (Q : Nat) (v m : Value) (t : Int) (L R : List Ent) (e0 : Ent) (w' : World) (v' : Value) : Prop where
 rep : HRep w' v' R
 q : QBlk w' Q v' m t
 ent0 : ∃ x, w'.heap[e0.blk]? = some (.cells #[.int .u32 e0.item, .int .i64 e0.key, .int .i64 e0.time, x] 139 (0, 0))
 keeps : Keeps (fun b => b = Q ∨ hfoot v L b) w w'
 sub : ∀ b, hfoot v' R b → hfoot v L b

theorem swap_any' (w : World) (v : Value) (L : List Ent) (h : HRep w v L) (x y : Int) (i k : Nat) (hi : i < L.length) (hk : k < L.length) (hx : x = (i : Int)) (hy : y = (k : Int)) :
  Calls Tryz.prog 172 #[v, .int .i64 x, .int .i64 y] w fun e w' => e = .returned (.tuple #[]) ∧ SwapPost w v L i k w' := by
 subst hx hy
 by_cases e : i = k
 ·subst e; exact swap_eq w v L h i _ (List.getElem?_eq_getElem hi)
 ·exact swap_ne w v L h i k _ _ (List.getElem?_eq_getElem hi) (List.getElem?_eq_getElem hk) e

theorem took_post {w w1 w2 : World} {Q : Nat} {v m : Value} {t : Int} {L R : List Ent} {e0 : Ent} {v' : Value} (hr : HRep w v L) (hQ : QBlk w Q v m t) (hP : HPost w v L (R ++ [e0]) w1) (hO : PopPost w1 Q v m t R w2 v') : TookPost w Q v m t L R e0 w2 v' := by
 have hE := hP.rep.ent R.length e0 (by simp)
 have nQ := hQ.nfoot hr
 have hin : hfoot v L e0.blk := hP.sub _ (.inr ⟨e0, by simp, rfl⟩)
 refine ⟨hO.rep, hO.q, ⟨_, hO.keeps.heap hE ?_⟩, ?_, ?_⟩
 ·rintro rfl; exact nQ hin
 ·exact (hP.keeps.mono (fun b _ hb => .inr hb)).trans (hO.keeps.mono (fun b _ hb => .inl hb))
 ·intro b hb
  apply hP.sub
  rcases hb with hb | ⟨x, hx, rfl⟩
  ·exact .inl (by rw [← hO.own]; exact hb)
  ·exact .inr ⟨x, by simp [hx], rfl⟩

set_option maxRecDepth 100000 in
set_option maxHeartbeats 1000000 in
theorem hpop_any (w : World) (Q : Nat) (v m : Value) (t : Int) (L : List Ent) (h : HRep w v L) (hQ : QBlk w Q v m t) (R : List Ent) (e0 : Ent) (hR : popL L = R ++ [e0]) :
  Calls Tryz.prog 74 #[.iface 141 (.pointer (some ⟨Q, 0, none⟩))] w fun e w' => e = .returned (.iface 136 (.pointer (some ⟨e0.blk, 0, none⟩))) ∧ ∃ v', TookPost w Q v m t L R e0 w' v' := by
 have hsm := h.small
 have hlen : L.length = R.length + 1 := by rw [← length_popL L, hR]; simp
 have mN := method_Len hQ.c0
 have mS := method_Swap hQ.c0
 have H0 := Lib.hid h
 have HQ := Lib.hid hQ
 have HR := Lib.hid hR
 have HL := Lib.hid hlen
 have hr1 : R.length + 1 ≤ 1000000 := by omega
 clear h hQ hR hlen hsm
 have mP := fun w => method_Pop_raw ⟨Q, 0, none⟩ w
 go_enter Tryz.func74, Tryz.ntmps74
 go_wp2_with fail
 refine (len_any _ v L H0.out).mono ?_; rintro e w' ⟨he, rfl⟩; rw [HL.out] at he; subst he
 go_wp2_with fail
 refine (swap_any' _ v L H0.out _ _ 0 R.length (by have := HL.out; omega) (by have := HL.out; omega) (by omega) (by omega)).mono ?_; rintro e w1 ⟨rfl, hS⟩
 have hP1 := (HPost.refl H0.out).swap hS
 go_wp2_with fail
 refine (down_any _ Q v _ hP1.rep (hP1.qblk HQ.out H0.out).c0 ((hP1.qblk HQ.out H0.out).nfoot hP1.rep) 0 R.length (by have := hP1.len; have := HL.out; omega) (by omega)).mono ?_; rintro e w2 ⟨rfl, hP2⟩
 have hP3 := hP1.trans hP2
 have e4 : (downL (swp L 0 R.length) R.length 0).1 = R ++ [e0] := by
  have := HR.out; unfold popL at this; rw [HL.out] at this; exact this
 rw [e4] at hP3
 have HP3 := Lib.hid hP3
 clear hP1 hP2 hP3 hS e4
 go_wp2_with fail
 refine (opop_any _ Q v m t R e0 HP3.out.rep (HP3.out.qblk HQ.out H0.out)).mono ?_; rintro e w3 ⟨rfl, v', hO⟩
 have hT := Lib.hid (took_post H0.out HQ.out HP3.out hO)
 clear hO
 go_wp2_with fail
 go_ret
 exact ⟨rfl, v', hT.out⟩

end Go.Proofs.YtdokakhgflljgaaGreat.U

namespace Go.Proofs.YtdokakhgflljgaaGreat.U
open Go.RowKit

theorem Tryz.infoE : (Tryz.prog.info? 136).map (fun i => (i.zero, i.size, i.bytes)) = some (some (.pointer none), 1, 8) := by kernel_rfl

theorem ta_entry (a : Addr) (w : World) : (Instr.typeAssert (.iface 136 (.pointer (some a))) 20 136 false).run Tryz.prog w = .ok (.pointer (some a)) w := by kernel_rfl

structure PushPost (w : World) (Q : Nat) (v m : Value) (t : Int) (L L' : List Ent) (e0 : Ent) (w' : World) (v' : Value) : Prop where
 rep : HRep w' v' L'
 q : QBlk w' Q v' m t
 keeps : Keeps (fun b => b = Q ∨ hfoot v L b ∨ b = e0.blk) w w'
 sub : ∀ b, hfoot v' L' b → hfoot v L b ∨ b = e0.blk ∨ w.heap.size ≤ b

theorem push_q {w w1 : World} {Q : Nat} {v m : Value} {t : Int} {L : List Ent} {e0 : Ent} (h : HRep w v L) (hQ : QBlk w Q v m t) (nQE : ¬ Q = e0.blk) {o : Obj}
  (hgrow : ((w.setCell ⟨e0.blk, 3, none⟩ (.int .i64 (L.length : Int))).alloc o).grownBy w1 v.ownBlock) : QBlk w1 Q v m t := by
 have lQ := lt_of_heap hQ
 have nQ := hQ.nfoot h
 unfold QBlk
 rw [hgrow.block Q (by simp; omega) (fun e => nQ (.inl e.symm)), Below.heap_alloc _ _ _ (by simpa using lQ), blk_set_ne nQE]
 exact hQ

theorem push_post {w w1 : World} {Q : Nat} {v m : Value} {t : Int} {L : List Ent} {e0 : Ent} {x : Value} {g cap : Nat} (h : HRep w v L) (hQ : QBlk w Q v m t)
  (he : w.heap[e0.blk]? = some (.cells #[.int .u32 e0.item, .int .i64 e0.key, .int .i64 e0.time, x] 139 (0, 0))) (hn : ¬ hfoot v L e0.blk) (hs : L.length + 1 ≤ 1000000)
  (hown : w1.ownsRow 0 136 1 (.slice (some ⟨g, 0, none⟩) (L.length + 1) cap) (L.length + 1) ((L.map Ent.ptr) ++ [e0.ptr]))
  (hgrow : ((w.setCell ⟨e0.blk, 3, none⟩ (.int .i64 (L.length : Int))).alloc (.cells #[e0.ptr] 136)).grownBy w1 v.ownBlock)
  (hat : v.ownBlock = some g ∨ g = w.heap.size + 1) :
  PushPost w Q v m t L (L ++ [e0]) e0 (w1.setCell ⟨Q, 0, none⟩ (.slice (some ⟨g, 0, none⟩) (L.length + 1) cap)) (.slice (some ⟨g, 0, none⟩) (L.length + 1) cap) := by
 have lQ := lt_of_heap hQ
 have lE := lt_of_heap he
 have nQ := hQ.nfoot h
 have nQE : Q ≠ e0.blk := by rintro rfl; unfold QBlk at hQ; rw [hQ] at he; simp at he
 have nQg : Q ≠ g := by
  rintro rfl
  rcases hat with hat | hat
  ·exact nQ (.inl hat)
  ·omega
 -- the world ahead of the append
 have k0 : Keeps (fun b => b = e0.blk) w ((w.setCell ⟨e0.blk, 3, none⟩ (.int .i64 (L.length : Int))).alloc (.cells #[e0.ptr] 136)) :=
  ((Keeps.refl (fun b => b = e0.blk) w).setCell (p := ⟨e0.blk, 3, none⟩) (.inl rfl) _).alloc _
 have k1 : Keeps (fun b => b = e0.blk ∨ v.ownBlock = some b) w w1 := (k0.mono (fun b _ hb => .inl hb)).grown hgrow (fun k hk => .inl (.inr hk))
 have k2 : Keeps (fun b => b = Q ∨ hfoot v L b ∨ b = e0.blk) w (w1.setCell ⟨Q, 0, none⟩ (.slice (some ⟨g, 0, none⟩) (L.length + 1) cap)) :=
  (k1.mono (fun b _ hb => by rcases hb with hb | hb; exact .inr (.inr hb); exact .inr (.inl (.inl hb)))).setCell (p := ⟨Q, 0, none⟩) (.inl (.inl rfl)) _
 have hE1 : w1.heap[e0.blk]? = some (.cells #[.int .u32 e0.item, .int .i64 e0.key, .int .i64 e0.time, .int .i64 (L.length : Int)] 139 (0, 0)) := by
  rw [hgrow.block e0.blk (by simp; omega) (fun e => hn (.inl e.symm)), Below.heap_alloc _ _ _ (by simpa using lE), blk_set_same he]; rfl
 refine ⟨⟨?_, ?_, ?_⟩, ?_, k2, ?_⟩
 ·have := Keeps.ownsRow (S := fun b => b = Q) ((Keeps.refl (fun b => b = Q) w1).setCell (p := ⟨Q, 0, none⟩) (.inl rfl) (.slice (some ⟨g, 0, none⟩) (L.length + 1) cap)) hown (fun k hk => by
   simp [Value.ownBlock] at hk; subst hk; exact fun e => nQg e.symm)
  simpa using this
 ·intro i e hi
  by_cases hl : i < L.length
  ·rw [List.getElem?_append_left hl] at hi
   have hb := h.ent i e hi
   have hlt := lt_of_heap hb
   have hfe : hfoot v L e.blk := .inr ⟨e, List.mem_of_getElem? hi, rfl⟩
   have : w1.heap[e.blk]? = w.heap[e.blk]? := k1.block _ hlt (by
    rintro (hx | hx)
    ·exact hn (hx ▸ hfe)
    ·exact h.ne_row hi hx rfl)
   rw [blk_set_ne (fun hx => nQ (by rw [← hx]; exact hfe)), this]
   exact hb
  ·have hlen : i < (L ++ [e0]).length := (List.getElem?_eq_some_iff.1 hi).1
   have hi' : i = L.length := by simp at hlen; omega
   subst hi'
   simp at hi
   subst hi
   rw [blk_set_ne (fun e => nQE e.symm)]
   exact hE1
 ·simpa using hs
 ·unfold QBlk
  have : w1.heap[Q]? = some (.cells #[v, m, .int .i64 t] 135 (0, 0)) := k1.heap hQ (by
   rintro (hx | hx)
   ·exact nQE hx
   ·exact nQ (.inl hx))
  rw [blk_set_same this]; rfl
 ·rintro b (hb | ⟨e, he, rfl⟩)
  ·simp [Value.ownBlock] at hb; subst hb
   rcases hat with hat | hat
   ·exact .inl (.inl hat)
   ·exact .inr (.inr (by omega))
  ·rcases List.mem_append.1 he with he | he
   ·exact .inl (.inr ⟨e, he, rfl⟩)
   ·simp at he; subst he; exact .inr (.inl rfl)

set_option maxRecDepth 100000 in
set_option maxHeartbeats 1000000 in
theorem opush_any (w : World) (Q : Nat) (v m : Value) (t : Int) (L : List Ent) (e0 : Ent) (x : Value) (h : HRep w v L) (hQ : QBlk w Q v m t)
  (he : w.heap[e0.blk]? = some (.cells #[.int .u32 e0.item, .int .i64 e0.key, .int .i64 e0.time, x] 139 (0, 0))) (hn : ¬ hfoot v L e0.blk) (hs : L.length + 1 ≤ 1000000) :
  Calls Tryz.prog 174 #[.pointer (some ⟨Q, 0, none⟩), .iface 136 (.pointer (some ⟨e0.blk, 0, none⟩))] w fun e w' => e = .returned (.tuple #[]) ∧ ∃ v', PushPost w Q v m t L (L ++ [e0]) e0 w' v' := by
 obtain ⟨i0, hi0, hz0, hz1, hz2⟩ := info_parts Tryz.infoE
 have c0 := hQ.c0
 have f0 : w.frozen? ⟨Q, 0, none⟩ = false := frozen_of_blk hQ
 have c3 : w.cell? ⟨e0.blk, 3, none⟩ = some x := by rw [cell_of_blk he]; rfl
 have f3 : w.frozen? ⟨e0.blk, 3, none⟩ = false := frozen_of_blk he
 have nQE : ¬ Q = e0.blk := by rintro rfl; unfold QBlk at hQ; rw [hQ] at he; simp at he
 have nQE' : ¬ e0.blk = Q := fun e => nQE e.symm
 have lQ := lt_of_heap hQ
 have lE := lt_of_heap he
 have hrow := Keeps.ownsRow (S := fun b => b = e0.blk) ((Keeps.refl (fun b => b = e0.blk) w).setCell (p := ⟨e0.blk, 3, none⟩) (.inl rfl) (.int .i64 (L.length : Int))) h.row (fun k hk => by rintro rfl; exact hn (.inl hk))
 have hPP := fun w1 g cap => push_post (w1 := w1) (g := g) (cap := cap) h hQ he hn hs
 obtain ⟨ao, cap, rfl⟩ := h.isSlice
 have hrow' := Lib.hid (hrow.alloc (.cells #[e0.ptr] 136))
 have HPP := Lib.hid hPP
 have H0 := Lib.hid h
 have HQ := Lib.hid hQ
 clear h hQ he hn hrow hPP
 have hta := fun w => ta_entry ⟨e0.blk, 0, none⟩ w
 go_enter Tryz.func174, Tryz.ntmps174
 go_wp2_with (at_builtin; refine wpList_append_lies _ rfl _ _ _ rfl 0 136 i0 _ 1 8 Tryz.underlying133 hi0 hz0 hz1 hz2 rfl (by omega) _ L.length _ (by rfl) hrow'.out ⟨w.heap.size, 0, none⟩ 1 1 [e0.ptr] (by rfl) (by rfl) ?hnews ?hone (by omega) (by unfold maxLen; omega) (by omega) (by omega) (w.heap.size + 1) (by simp) ?_)
 case hnews => exact World.news_of_block (cs := #[e0.ptr]) (t := 136) (fr := (0, 0)) (by rw [← World.size_setCell (w := w) (a := ⟨e0.blk, 3, none⟩) (v := .int .i64 (L.length : Int))]; exact heap_alloc_new _ _)
 case hone => simp [Ent.ptr, Value.oneCell']
 intro g cap' w1 hown hgrow hat hlt
 have hq1 := push_q H0.out HQ.out nQE hgrow
 have c0' := hq1.c0
 have f0' : w1.frozen? ⟨Q, 0, none⟩ = false := frozen_of_blk hq1
 have HP := Lib.hid (HPP.out w1 g cap' hown hgrow hat)
 clear hown hgrow hat hq1
 go_wp2_with fail
 go_end0
 exact ⟨rfl, _, HP.out⟩

end Go.Proofs.YtdokakhgflljgaaGreat.U
