/- The slice's own Push, and heap.Push. -/
import Derived.Test.YtcfcmmajlkkabaaUHeapC
namespace Go.Proofs.Ytcfcmmajlkkabaa.U
open Go.RowKit

theorem Try.infoE : (Try.prog.info? 177).map (fun i => (i.zero, i.size, i.bytes)) = some (some (.pointer none), 1, 8) := by kernel_rfl

theorem ta_entry (a : Addr) (w : World) : (Instr.typeAssert (.iface 177 (.pointer (some a))) 20 177 false).run Try.prog w = .ok (.pointer (some a)) w := by kernel_rfl

structure PushPost (w : World) (Q : Nat) (v m : Value) (t : Int) (L L' : List Ent) (e0 : Ent) (w' : World) (v' : Value) : Prop where
  rep : HRep w' v' L'
  q : QBlk w' Q v' m t
  keeps : Keeps (fun b => b = Q ∨ hfoot v L b ∨ b = e0.blk) w w'
  sub : ∀ b, hfoot v' L' b → hfoot v L b ∨ b = e0.blk ∨ w.heap.size ≤ b

theorem push_q {w w1 : World} {Q : Nat} {v m : Value} {t : Int} {L : List Ent} {e0 : Ent} (h : HRep w v L) (hQ : QBlk w Q v m t) (nQE : ¬ Q = e0.blk) {o : Obj}
    (hgrow : ((w.setCell ⟨e0.blk, 3, none⟩ (.int .i64 (L.length : Int))).alloc o).grownBy w1 v.ownBlock) : QBlk w1 Q v m t := by
  have lQ := lt_of_heap hQ
  have nQ := hQ.nfoot h
  unfold QBlk
  rw [hgrow.block Q (by simp; omega) (fun e => nQ (.inl e.symm)), Below.heap_alloc _ _ _ (by simpa using lQ), blk_set_ne nQE]
  exact hQ

theorem push_post {w w1 : World} {Q : Nat} {v m : Value} {t : Int} {L : List Ent} {e0 : Ent} {x : Value} {g cap : Nat} (h : HRep w v L) (hQ : QBlk w Q v m t)
    (he : w.heap[e0.blk]? = some (.cells #[.int .u32 e0.item, .int .i64 e0.key, .int .i64 e0.time, x] 180 (0, 0))) (hn : ¬ hfoot v L e0.blk) (hs : L.length + 1 ≤ 1000000)
    (hown : w1.ownsRow 0 177 1 (.slice (some ⟨g, 0, none⟩) (L.length + 1) cap) (L.length + 1) ((L.map Ent.ptr) ++ [e0.ptr]))
    (hgrow : ((w.setCell ⟨e0.blk, 3, none⟩ (.int .i64 (L.length : Int))).alloc (.cells #[e0.ptr] 177)).grownBy w1 v.ownBlock)
    (hat : v.ownBlock = some g ∨ g = w.heap.size + 1) :
    PushPost w Q v m t L (L ++ [e0]) e0 (w1.setCell ⟨Q, 0, none⟩ (.slice (some ⟨g, 0, none⟩) (L.length + 1) cap)) (.slice (some ⟨g, 0, none⟩) (L.length + 1) cap) := by
  have lQ := lt_of_heap hQ
  have lE := lt_of_heap he
  have nQ := hQ.nfoot h
  have nQE : Q ≠ e0.blk := by rintro rfl; unfold QBlk at hQ; rw [hQ] at he; simp at he
  have nQg : Q ≠ g := by
    rintro rfl
    rcases hat with hat | hat
    · exact nQ (.inl hat)
    · omega
  -- the world ahead of the append
  have k0 : Keeps (fun b => b = e0.blk) w ((w.setCell ⟨e0.blk, 3, none⟩ (.int .i64 (L.length : Int))).alloc (.cells #[e0.ptr] 177)) :=
    ((Keeps.refl (fun b => b = e0.blk) w).setCell (p := ⟨e0.blk, 3, none⟩) (.inl rfl) _).alloc _
  have k1 : Keeps (fun b => b = e0.blk ∨ v.ownBlock = some b) w w1 := (k0.mono (fun b _ hb => .inl hb)).grown hgrow (fun k hk => .inl (.inr hk))
  have k2 : Keeps (fun b => b = Q ∨ hfoot v L b ∨ b = e0.blk) w (w1.setCell ⟨Q, 0, none⟩ (.slice (some ⟨g, 0, none⟩) (L.length + 1) cap)) :=
    (k1.mono (fun b _ hb => by rcases hb with hb | hb; exact .inr (.inr hb); exact .inr (.inl (.inl hb)))).setCell (p := ⟨Q, 0, none⟩) (.inl (.inl rfl)) _
  have hE1 : w1.heap[e0.blk]? = some (.cells #[.int .u32 e0.item, .int .i64 e0.key, .int .i64 e0.time, .int .i64 (L.length : Int)] 180 (0, 0)) := by
    rw [hgrow.block e0.blk (by simp; omega) (fun e => hn (.inl e.symm)), Below.heap_alloc _ _ _ (by simpa using lE), blk_set_same he]; rfl
  refine ⟨⟨?_, ?_, ?_⟩, ?_, k2, ?_⟩
  · have := Keeps.ownsRow (S := fun b => b = Q) ((Keeps.refl (fun b => b = Q) w1).setCell (p := ⟨Q, 0, none⟩) (.inl rfl) (.slice (some ⟨g, 0, none⟩) (L.length + 1) cap)) hown (fun k hk => by
      simp [Value.ownBlock] at hk; subst hk; exact fun e => nQg e.symm)
    simpa using this
  · intro i e hi
    by_cases hl : i < L.length
    · rw [List.getElem?_append_left hl] at hi
      have hb := h.ent i e hi
      have hlt := lt_of_heap hb
      have hfe : hfoot v L e.blk := .inr ⟨e, List.mem_of_getElem? hi, rfl⟩
      have : w1.heap[e.blk]? = w.heap[e.blk]? := k1.block _ hlt (by
        rintro (hx | hx)
        · exact hn (hx ▸ hfe)
        · exact h.ne_row hi hx rfl)
      rw [blk_set_ne (fun hx => nQ (by rw [← hx]; exact hfe)), this]
      exact hb
    · have hlen : i < (L ++ [e0]).length := (List.getElem?_eq_some_iff.1 hi).1
      have hi' : i = L.length := by simp at hlen; omega
      subst hi'
      simp at hi
      subst hi
      rw [blk_set_ne (fun e => nQE e.symm)]
      exact hE1
  · simpa using hs
  · unfold QBlk
    have : w1.heap[Q]? = some (.cells #[v, m, .int .i64 t] 176 (0, 0)) := k1.heap hQ (by
      rintro (hx | hx)
      · exact nQE hx
      · exact nQ (.inl hx))
    rw [blk_set_same this]; rfl
  · rintro b (hb | ⟨e, he, rfl⟩)
    · simp [Value.ownBlock] at hb; subst hb
      rcases hat with hat | hat
      · exact .inl (.inl hat)
      · exact .inr (.inr (by omega))
    · rcases List.mem_append.1 he with he | he
      · exact .inl (.inr ⟨e, he, rfl⟩)
      · simp at he; subst he; exact .inr (.inl rfl)

set_option maxRecDepth 100000 in
set_option maxHeartbeats 1000000 in
theorem opush_any (w : World) (Q : Nat) (v m : Value) (t : Int) (L : List Ent) (e0 : Ent) (x : Value) (h : HRep w v L) (hQ : QBlk w Q v m t)
    (he : w.heap[e0.blk]? = some (.cells #[.int .u32 e0.item, .int .i64 e0.key, .int .i64 e0.time, x] 180 (0, 0))) (hn : ¬ hfoot v L e0.blk) (hs : L.length + 1 ≤ 1000000) :
    Calls Try.prog 162 #[.pointer (some ⟨Q, 0, none⟩), .iface 177 (.pointer (some ⟨e0.blk, 0, none⟩))] w fun e w' => e = .returned (.tuple #[]) ∧ ∃ v', PushPost w Q v m t L (L ++ [e0]) e0 w' v' := by
  obtain ⟨i0, hi0, hz0, hz1, hz2⟩ := info_parts Try.infoE
  have c0 := hQ.c0
  have f0 : w.frozen? ⟨Q, 0, none⟩ = false := frozen_of_blk hQ
  have c3 : w.cell? ⟨e0.blk, 3, none⟩ = some x := by rw [cell_of_blk he]; rfl
  have f3 : w.frozen? ⟨e0.blk, 3, none⟩ = false := frozen_of_blk he
  have nQE : ¬ Q = e0.blk := by rintro rfl; unfold QBlk at hQ; rw [hQ] at he; simp at he
  have nQE' : ¬ e0.blk = Q := fun e => nQE e.symm
  have lQ := lt_of_heap hQ
  have lE := lt_of_heap he
  have hrow := Keeps.ownsRow (S := fun b => b = e0.blk) ((Keeps.refl (fun b => b = e0.blk) w).setCell (p := ⟨e0.blk, 3, none⟩) (.inl rfl) (.int .i64 (L.length : Int))) h.row (fun k hk => by rintro rfl; exact hn (.inl hk))
  have hPP := fun w1 g cap => push_post (w1 := w1) (g := g) (cap := cap) h hQ he hn hs
  obtain ⟨ao, cap, rfl⟩ := h.isSlice
  have hrow' := Lib.hid (hrow.alloc (.cells #[e0.ptr] 177))
  have HPP := Lib.hid hPP
  have H0 := Lib.hid h
  have HQ := Lib.hid hQ
  clear h hQ he hn hrow hPP
  have hta := fun w => ta_entry ⟨e0.blk, 0, none⟩ w
  go_enter Try.func162, Try.ntmps162
  go_wp2_with (at_builtin; refine wpList_append_lies _ rfl _ _ _ rfl 0 177 i0 _ 1 8 Try.underlying174 hi0 hz0 hz1 hz2 rfl (by omega) _ L.length _ (by rfl) hrow'.out ⟨w.heap.size, 0, none⟩ 1 1 [e0.ptr] (by rfl) (by rfl) ?hnews ?hone (by omega) (by unfold maxLen; omega) (by omega) (by omega) (w.heap.size + 1) (by simp) ?_)
  case hnews => exact World.news_of_block (cs := #[e0.ptr]) (t := 177) (fr := (0, 0)) (by rw [← World.size_setCell (w := w) (a := ⟨e0.blk, 3, none⟩) (v := .int .i64 (L.length : Int))]; exact heap_alloc_new _ _)
  case hone => simp [Ent.ptr, Value.oneCell']
  intro g cap' w1 hown hgrow hat hlt
  have hq1 := push_q H0.out HQ.out nQE hgrow
  have c0' := hq1.c0
  have f0' : w1.frozen? ⟨Q, 0, none⟩ = false := frozen_of_blk hq1
  have HP := Lib.hid (HPP.out w1 g cap' hown hgrow hat)
  clear hown hgrow hat hq1
  go_wp2_with fail
  go_end0
  exact ⟨rfl, _, HP.out⟩

end Go.Proofs.Ytcfcmmajlkkabaa.U
