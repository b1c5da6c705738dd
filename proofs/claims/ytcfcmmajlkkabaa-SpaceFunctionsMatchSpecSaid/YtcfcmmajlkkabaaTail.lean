/- A slice that is cut at its head and appended to at its end. Nothing here speaks of one program. -/
import Derived.Test.YtcfcmmajlkkabaaKitA
import Derived.Deep.AppendSrc
namespace Go.Proofs.Ytcfcmmajlkkabaa
open Go.RowKit

/-- v: a window on a row of one-cell elements, which reads as xs. -/
def Tail (w : World) (base : Nat) (e : TypeId) (v : Value) (xs : List Value) : Prop :=
  ∃ (g off cap : Nat) (cur : Array Value), v = .slice (some ⟨g, off, none⟩) xs.length cap ∧ base ≤ g ∧ w.heap[g]? = some (.cells cur e (0, 0)) ∧ xs.length ≤ cap ∧ cap ≤ maxLen ∧ off + cap ≤ cur.size ∧ (cur.toList.drop off).take xs.length = xs

section
variable {w w' : World} {base : Nat} {e : TypeId} {v : Value} {xs : List Value}
theorem Tail.keeps {S : Nat → Prop} (h : Tail w base e v xs) (hk : Keeps S w w') (hs : ∀ k, v.ownBlock = some k → ¬ S k) : Tail w' base e v xs := by
  obtain ⟨g, off, cap, cur, rfl, hb, hg, rest⟩ := h
  exact ⟨g, off, cap, cur, rfl, hb, hk.heap hg (hs g rfl), rest⟩
theorem Tail.lt (h : Tail w base e v xs) (k : Nat) (hk : v.ownBlock = some k) : base ≤ k ∧ k < w.heap.size := by
  obtain ⟨g, off, cap, cur, rfl, hb, hg, rest⟩ := h
  simp [Value.ownBlock] at hk; subst hk
  exact ⟨hb, lt_of_heap hg⟩
theorem Tail.block (h : Tail w base e v xs) (k : Nat) (hk : v.ownBlock = some k) : ∃ cur, w.heap[k]? = some (.cells cur e (0, 0)) := by
  obtain ⟨g, off, cap, cur, rfl, hb, hg, rest⟩ := h
  simp [Value.ownBlock] at hk; subst hk
  exact ⟨_, hg⟩
theorem Tail.not_deferred (h : Tail w base e v xs) (k : Nat) (hk : v.ownBlock = some k) : w.heap[k]? ≠ some (.deferred (some [])) := by
  obtain ⟨cur, hg⟩ := h.block k hk
  exact cells_not_deferred hg
theorem Tail.not_map {b : Nat} {kd : IntKind} {l : List (Int × Value)} (hm : IMap w b kd l) (h : Tail w base e v xs) : v.ownBlock ≠ some b := by
  intro e'
  obtain ⟨cur, hg⟩ := h.block b e'
  obtain ⟨es, c, hb, _⟩ := hm
  rw [hg] at hb; cases hb
theorem Tail.not_box {b : Nat} {t : TypeId} {u : Value} (h : Tail w base e v xs) (hx : w.heap[b]? = some (.cells #[u] t (0, 0))) (ht : t ≠ e) : v.ownBlock ≠ some b := by
  intro e'
  obtain ⟨cur, hg⟩ := h.block b e'
  rw [hg] at hx
  simp at hx
  exact ht hx.2.symm
theorem Tail.steady {row : Option Nat} (hg : w.grownBy w' row) (hr : ∀ r, row = some r → ∃ o : Obj, w.heap[r]? = some o ∧ o.isCells = false) (h : Tail w base e v xs) : Tail w' base e v xs := by
  obtain ⟨g, off, cap, cur, rfl, hb, hgg, rest⟩ := h
  exact ⟨g, off, cap, cur, rfl, hb, steady_heap hg hr hgg, rest⟩
theorem Tail.head {g off n cap : Nat} {x : Value} (h : Tail w base e (.slice (some ⟨g, off, none⟩) n cap) (x :: xs)) : w.cell? ⟨g, off, none⟩ = some x := by
  obtain ⟨g', off', cap', cur, hv, hb, hg, h1, h2, h3, h4⟩ := h
  simp only [Value.slice.injEq, Option.some.injEq, Addr.mk.injEq] at hv
  obtain ⟨⟨rfl, rfl, _⟩, rfl, rfl⟩ := hv
  rw [cell_of_blk hg]
  have := congrArg (fun l : List Value => l[0]?) h4
  simp only [List.getElem?_take, List.getElem?_drop] at this
  simpa using this
theorem Tail.form (h : Tail w base e v xs) : ∃ g off cap, v = .slice (some ⟨g, off, none⟩) xs.length cap ∧ xs.length ≤ cap ∧ cap ≤ maxLen ∧ base ≤ g ∧ g < w.heap.size := by
  obtain ⟨g, off, cap, cur, hv, hb, hg, h1, h2, _⟩ := h
  exact ⟨g, off, cap, hv, h1, h2, hb, lt_of_heap hg⟩

/-- The address behind the first element, as the machine tells it. -/
def cutAt (g off cap : Nat) : Addr := if cap = 1 then ⟨g, off, none⟩ else ⟨g, off + 1, none⟩
theorem cutAt_block (g off cap : Nat) : (cutAt g off cap).block = g := by unfold cutAt; split <;> rfl
theorem Tail.cut {g off n cap : Nat} {x : Value} (h : Tail w base e (.slice (some ⟨g, off, none⟩) (n + 1) cap) (x :: xs)) (hn : xs.length = n) : Tail w base e (.slice (some (cutAt g off cap)) n (cap - 1)) xs := by
  obtain ⟨g', off', cap', cur, hv, hb, hg, h1, h2, h3, h4⟩ := h
  simp only [Value.slice.injEq, Option.some.injEq, Addr.mk.injEq] at hv
  obtain ⟨⟨rfl, rfl, _⟩, _, rfl⟩ := hv
  have ht : (cur.toList.drop (off + 1)).take xs.length = xs := by
    have := congrArg (List.drop 1) h4
    rw [List.drop_take, List.drop_drop] at this
    simpa using this
  simp only [List.length_cons] at h1
  by_cases hc : cap = 1
  · have hz : xs = [] := List.length_eq_zero_iff.1 (by omega)
    subst hz
    refine ⟨g, off, cap - 1, cur, by simp [cutAt, hc, ← hn], hb, hg, by simp, by omega, by omega, by simp⟩
  · exact ⟨g, off + 1, cap - 1, cur, by simp [cutAt, hc, hn], hb, hg, by omega, by omega, by omega, ht⟩

theorem Tail.new (W : World) (base : Nat) (e : TypeId) (x : Value) (hb : base ≤ W.heap.size) : Tail (W.alloc (.cells #[x] e)) base e (.slice (some ⟨W.heap.size, 0, none⟩) 1 1) [x] :=
  ⟨W.heap.size, 0, 1, #[x], rfl, hb, heap_alloc_new W _, by simp, by unfold maxLen; omega, by simp, by simp⟩
end

section
variable {P : Program} (w : World)
theorem run_append_tail (base : Nat) (t ty e : TypeId) (i : TypeInfo) (z : Value) (bytes : Nat) (ht : P.underlying t = some (.slice e)) (hi : P.info? e = some i) (hz : i.zero = some z)
    (hsize : i.size = 1) (hby : i.bytes = bytes) (hzs : z.cells.size = 1)
    (v : Value) (xs : List Value) (hown : Tail w base e v xs) (ad : Addr) (c : Nat) (u : Value) (hnew : w.cell? ad = some u) (h1 : u.oneCell' = true)
    (h63 : xs.length + 1 ≤ maxLen) (hbytes : (xs.length + 1) * bytes ≤ 140737488355328) (hbase : base ≤ w.heap.size) :
    ∃ g off cap w', (Builtin.append_ #[t, t] ty #[v, .slice (some ad) 1 c]).run P w = .ok (.slice (some ⟨g, off, none⟩) (xs.length + 1) cap) w' ∧
      Tail w' base e (.slice (some ⟨g, off, none⟩) (xs.length + 1) cap) (xs ++ [u]) ∧ w.grownBy w' v.ownBlock ∧ (v.ownBlock = some g ∨ g = w.heap.size) ∧ g < w'.heap.size := by
  obtain ⟨g, off, cap, cur, rfl, hb, hg, hn, hcm, hcs, htake⟩ := hown
  have hnews : ∀ j u', [u][j]? = some u' → w.cell? (ad.add j) = some u' := by
    intro j u' hj
    cases j with
    | zero => simp at hj; subst hj; simpa [Addr.add] using hnew
    | succ j => simp at hj
  by_cases hroom : xs.length + 1 ≤ cap
  · have hsrc := Src.ofSlice (P := P) (size := i.size) w ht ad 1 c [u] (by rw [hsize]; rfl) hnews (by intro u' hu; simp at hu; subst hu; exact h1)
    have hr := run_append_room_src (P := P) w t t ty e i ht hi g off xs.length cap _ 1 [u] hsrc hroom
      (by
        intro j hj
        simp at hj
        subst hj
        rw [cell_of_blk hg, hsize, Nat.mul_one, Nat.add_zero]
        rw [Array.getElem?_eq_getElem (by omega)]; rfl)
      (by intro j hj; exact frozen_of_blk hg)
    rw [hsize, Nat.mul_one] at hr
    have hw' : w.setCells g (off + xs.length) [u] = w.setCell ⟨g, off + xs.length, none⟩ u := rfl
    rw [hw'] at hr
    refine ⟨g, off, cap, _, hr, ⟨g, off, cap, cur.setIfInBounds (off + xs.length) u, by simp, hb, blk_set_same hg u, by simpa using hroom, hcm, by simpa using hcs, ?_⟩, ?_, .inl rfl, ?_⟩
    · apply List.ext_getElem?
      intro j
      rw [List.length_append, List.length_singleton, List.getElem?_take]
      by_cases hj : j < xs.length + 1
      · rw [if_pos hj, List.getElem?_drop, Array.toList_setIfInBounds, List.getElem?_set]
        by_cases hj2 : j = xs.length
        · subst hj2
          simp; omega
        · have : ¬ off + xs.length = off + j := by omega
          rw [if_neg this, List.getElem?_append_left (by omega)]
          have h2 := congrArg (fun l : List Value => l[j]?) htake
          simp only [List.getElem?_take, List.getElem?_drop] at h2
          rw [if_pos (by omega)] at h2
          exact h2
      · rw [if_neg hj, List.getElem?_eq_none (by simp; omega)]
    · refine ⟨rfl, rfl, rfl, by simp, fun k hk hne => ?_⟩
      exact heap_setCell_other w ⟨g, off + xs.length, none⟩ k u (by rintro rfl; exact hne rfl)
    · have := lt_of_heap hg; simpa using this
  · have hold : ∀ j u', xs[j]? = some u' → w.cell? ((⟨g, off, none⟩ : Addr).add j) = some u' := by
      intro j u' hj
      have hadd : (⟨g, off, none⟩ : Addr).add j = ⟨g, off + j, none⟩ := by unfold Addr.add; split <;> simp_all
      rw [hadd, cell_of_blk hg]
      rw [← htake, List.getElem?_take] at hj
      split at hj
      · rw [List.getElem?_drop] at hj; simpa using hj
      · cases hj
    have hsmall : xs.length + 1 ≤ 9223372036854775807 := by simp only [maxLen] at h63; omega
    subst hby
    have hr := run_append_grow (P := P) w t ty e i z ht hi hz ⟨g, off, none⟩ xs.length cap xs (by rw [hsize, Nat.mul_one]) hold ad 1 c [u] (by rw [hsize]; rfl) hnews (by omega) (by omega) (growslice_fits (by omega) hbytes)
    have hge := grownCap_ge w (xs.length + 1) cap e
    have hcm2 : grownCap w (xs.length + 1) cap e ≤ maxLen := grownCap_le_maxLen w _ cap e h63
    refine ⟨w.heap.size, 0, _, _, hr, ⟨w.heap.size, 0, grownCap w (xs.length + 1) cap e, _, by simp, hbase, heap_alloc_new w.drew _, by simpa using hge, hcm2, ?_, ?_⟩, ⟨rfl, rfl, rfl, by simp, fun k hk _ => Below.heap_alloc w.drew _ k hk⟩, .inr rfl, by simp⟩
    · simp only [Array.size_append, List.size_toArray, size_zeroCells, hzs, List.length_singleton]
      omega
    · simp only [Array.toList_append, List.drop_zero]
      rw [List.take_left' (by simp)]

theorem wpListIn_append_tail {F : Fence} {n : Nat} {ops : Array Oper} {rest : List Oper} {o : Oper} {a : Act} {Q : Exit → Act → World → Prop}
    (hg : o.guard = none) (s x : Operand) (t : TypeId) (hop : o.op = Op.call { callee := Callee.builtin Builtin.append, args := #[s, x], argTypes := #[t, t] })
    (base : Nat) (e : TypeId) (i : TypeInfo) (z : Value) (bytes : Nat) (h1 : P.underlying t = some (.slice e)) (h2 : P.info? e = some i) (h3 : i.zero = some z) (h4 : i.size = 1) (h5 : i.bytes = bytes) (h6 : z.cells.size = 1)
    (v : Value) (xs : List Value) (hs : a.eval s = v) (hown : Tail w base e v xs) (ad : Addr) (c : Nat) (u : Value) (hx : a.eval x = .slice (some ad) 1 c)
    (hc : w.cell? ad = some u) (h1c : u.oneCell' = true) (k : Nat) (hk : xs.length = k) (b1 : k + 1 ≤ maxLen) (b2 : (k + 1) * bytes ≤ 140737488355328) (b3 : base ≤ w.heap.size) (H : Nat) (hH : w.heap.size = H)
    (hK : ∀ g off cap w', Tail w' base e (.slice (some ⟨g, off, none⟩) (k + 1) cap) (xs ++ [u]) → w.grownBy w' v.ownBlock → (v.ownBlock = some g ∨ g = H) → g < w'.heap.size → wpListIn F n P ops Q rest (a.put o.dst (.slice (some ⟨g, off, none⟩) (k + 1) cap)) w') :
    wpListIn F n P ops Q (o :: rest) a w := by
  refine wpListIn_plain hg fun K hK' => ?_
  subst hk
  obtain ⟨g, off, cap, w', hrun, r1, r2, r3, r4⟩ := run_append_tail (P := P) w base t o.type e i z bytes h1 h2 h3 h4 h5 h6 v xs hown ad c u hc h1c b1 b2 b3
  rw [hH] at r3
  unfold Oper.wpIn
  refine ⟨?_, ?_⟩
  · simp [Oper.about, hop, resolve, Target.leads, Sem.run_pure]
  · rw [Oper.semAt_plain F _ _ (by rw [hop]; intro c hc'; cases hc')]
    simp [execOp, hop, resolve, invoke, builtin, hs, hx, hrun, Result.andThen]
    exact hK' _ _ (hK g off cap w' r1 r2 r3 r4)
end

end Go.Proofs.Ytcfcmmajlkkabaa
