/- The library's heap over the queue's entries: the slice's own Push, Pop, Len; heap.Fix, Remove, Push, Pop. -/
import Derived.Test.YtcfcmmajlkkabaaUHeapB
namespace Go.Proofs.Ytcfcmmajlkkabaa.U
open Go.RowKit

/-- Q is the queue's struct: the slice v, the map m, the clock t. -/
def QBlk (w : World) (Q : Nat) (v m : Value) (t : Int) : Prop := w.heap[Q]? = some (.cells #[v, m, .int .i64 t] 176 (0, 0))

theorem QBlk.c0 {w : World} {Q : Nat} {v m : Value} {t : Int} (h : QBlk w Q v m t) : w.cell? ⟨Q, 0, none⟩ = some v := by rw [cell_of_blk h]; rfl
theorem QBlk.c1 {w : World} {Q : Nat} {v m : Value} {t : Int} (h : QBlk w Q v m t) : w.cell? ⟨Q, 1, none⟩ = some m := by rw [cell_of_blk h]; rfl
theorem QBlk.c2 {w : World} {Q : Nat} {v m : Value} {t : Int} (h : QBlk w Q v m t) : w.cell? ⟨Q, 2, none⟩ = some (.int .i64 t) := by rw [cell_of_blk h]; rfl

theorem QBlk.nfoot {w : World} {Q : Nat} {v m : Value} {t : Int} (h : QBlk w Q v m t) {L : List Ent} (hr : HRep w v L) : ¬ hfoot v L Q := by
  rintro (hb | ⟨e, he, rfl⟩)
  · rcases hr.row.2 with ⟨hv, _⟩ | ⟨g, cap, cur, hv, _, hg, _⟩
    · rw [hv] at hb; simp [Value.ownBlock] at hb
    · rw [hv] at hb; simp [Value.ownBlock] at hb
      subst hb
      unfold QBlk at h; rw [hg] at h; simp at h
  · obtain ⟨j, hj⟩ := List.mem_iff_getElem?.1 he
    have := hr.ent j e hj
    unfold QBlk at h; rw [this] at h; simp at h

theorem HPost.qblk {w w' : World} {v m : Value} {L L' : List Ent} (h : HPost w v L L' w') {Q : Nat} {t : Int} (hQ : QBlk w Q v m t) (hr : HRep w v L) : QBlk w' Q v m t := h.keeps.heap hQ (hQ.nfoot hr)

theorem HRep.isSlice {w : World} {v : Value} {L : List Ent} (h : HRep w v L) : ∃ ao cap, v = .slice ao L.length cap := by
  rcases h.row.2 with ⟨hv, h0⟩ | ⟨g, cap, cur, hv, _⟩
  · exact ⟨none, 0, by rw [hv, h0]⟩
  · exact ⟨_, _, hv⟩

set_option maxRecDepth 100000 in
set_option maxHeartbeats 400000 in
theorem len_any (w : World) (v : Value) (L : List Ent) (h : HRep w v L) :
    Calls Try.prog 158 #[v] w fun e w' => e = .returned (.int .i64 (L.length : Int)) ∧ w = w' := by
  obtain ⟨ao, cap, rfl⟩ := h.isSlice
  clear h
  go_enter Try.func158, Try.ntmps158
  go_wp2
  go_ret
  exact ⟨rfl, rfl⟩

def fixL (L : List Ent) (i : Nat) : List Ent := if i < (downL L L.length i).2 then (downL L L.length i).1 else upL (downL L L.length i).1 i

theorem length_upL (L : List Ent) (j : Nat) : (upL L j).length = L.length := by
  induction j using Nat.strongRecOn generalizing L with
  | _ j ih =>
    rw [upL]
    split
    · rfl
    · split
      · rw [ih _ (by omega), length_swp]
      · rfl

set_option maxRecDepth 100000 in
set_option maxHeartbeats 1000000 in
theorem fix_any (w : World) (Q : Nat) (v m : Value) (t : Int) (L : List Ent) (h : HRep w v L) (hQ : QBlk w Q v m t) (x : Int) (i : Nat) (hi : i < L.length) (hx : x = (i : Int)) :
    Calls Try.prog 111 #[.iface 182 (.pointer (some ⟨Q, 0, none⟩)), .int .i64 x] w fun e w' => e = .returned (.tuple #[]) ∧ HPost w v L (fixL L i) w' := by
  subst hx
  have hsm := h.small
  have mN := method_Len hQ.c0
  have H0 := Lib.hid h
  have HQ := Lib.hid hQ
  have HF : Hid (fixL L i = if i < (downL L L.length i).2 then (downL L L.length i).1 else upL (downL L L.length i).1 i) := rfl
  clear h hQ
  by_cases hd : i < (downL L L.length i).2
  · have HD := hid_true hd
    rw [if_pos hd] at HF
    clear hd
    go_enter Try.func111, Try.ntmps111
    go_wp2_with fail
    refine (len_any _ v L H0.out).mono ?_; rintro e w' ⟨rfl, rfl⟩
    go_wp2_with fail
    refine (down_any _ Q v L H0.out HQ.out.c0 (HQ.out.nfoot H0.out) i L.length (Nat.le_refl _) (by omega)).mono ?_; rintro e w' ⟨he, hP⟩; rw [HD.out] at he; subst he
    go_wp2_with fail
    go_end0
    exact ⟨rfl, by rw [HF.out]; exact hP⟩
  · have HD := hid_false hd
    rw [if_neg hd] at HF
    clear hd
    go_enter Try.func111, Try.ntmps111
    go_wp2_with fail
    refine (len_any _ v L H0.out).mono ?_; rintro e w' ⟨rfl, rfl⟩
    go_wp2_with fail
    refine (down_any _ Q v L H0.out HQ.out.c0 (HQ.out.nfoot H0.out) i L.length (Nat.le_refl _) (by omega)).mono ?_; rintro e w' ⟨he, hP⟩; rw [HD.out] at he; subst he
    go_wp2_with fail
    refine (up_any _ Q v _ hP.rep (hP.qblk HQ.out H0.out).c0 ((hP.qblk HQ.out H0.out).nfoot hP.rep) i (by rw [hP.len]; exact hi)).mono ?_; rintro e w'' ⟨rfl, hP2⟩
    go_wp2_with fail
    go_end0
    exact ⟨rfl, by rw [HF.out]; exact hP.trans hP2⟩

/-! ### the slice's own Pop -/
structure PopPost (w : World) (Q : Nat) (v m : Value) (t : Int) (L : List Ent) (w' : World) (v' : Value) : Prop where
  rep : HRep w' v' L
  q : QBlk w' Q v' m t
  keeps : Keeps (fun b => b = Q) w w'
  own : v'.ownBlock = v.ownBlock

theorem HRep.pop {w : World} {H cap : Nat} {L : List Ent} {e : Ent} {n : Nat} (h : HRep w (.slice (some ⟨H, 0, none⟩) n cap) (L ++ [e])) : HRep w (.slice (some ⟨H, 0, none⟩) L.length cap) L := by
  refine ⟨?_, ?_, ?_⟩
  · rcases h.row.2 with ⟨hv, _⟩ | ⟨g, cap', cur, hv, hb, hg, hn, hm, hs, ht⟩
    · simp at hv
    · simp only [Value.slice.injEq, Option.some.injEq, Addr.mk.injEq, and_true] at hv
      obtain ⟨rfl, _, rfl⟩ := hv
      refine ⟨by simp, .inr ⟨H, cap, cur, rfl, hb, hg, ?_, hm, hs, ?_⟩⟩
      · simp at hn; omega
      · have : (cur.toList.take ((L ++ [e]).length * 1)).take (L.length * 1) = ((L ++ [e]).map Ent.ptr).take (L.length * 1) := by rw [ht]
        rw [List.take_take] at this
        rw [show min (L.length * 1) ((L ++ [e]).length * 1) = L.length * 1 by simp] at this
        rw [this]; simp
  · intro i x hi
    have hl : i < L.length := (List.getElem?_eq_some_iff.1 hi).1
    exact h.ent i x (by rw [List.getElem?_append_left hl]; exact hi)
  · have := h.small; simp at this; omega

theorem pop_post {w : World} {Q H cap : Nat} {m : Value} {t : Int} {L : List Ent} {e : Ent} {n : Nat} (h : HRep w (.slice (some ⟨H, 0, none⟩) n cap) (L ++ [e])) (hQ : QBlk w Q (.slice (some ⟨H, 0, none⟩) n cap) m t) (d : Nat) :
    PopPost w Q (.slice (some ⟨H, 0, none⟩) n cap) m t L ((w.setCell ⟨Q, 0, none⟩ (.slice (some ⟨H, 0, none⟩) L.length cap)).drewN d) (.slice (some ⟨H, 0, none⟩) L.length cap) := by
  have nQ := hQ.nfoot h
  refine ⟨HRep.drewN (h.pop.keeps (S := fun b => b = Q) ((Keeps.refl (fun b => b = Q) w).setCell (p := ⟨Q, 0, none⟩) (.inl rfl) _) ?_) _, ?_, ((Keeps.refl (fun b => b = Q) w).setCell (p := ⟨Q, 0, none⟩) (.inl rfl) _).drewN _, rfl⟩
  · rintro b hb rfl
    apply nQ
    rcases hb with hb | ⟨x, hx, rfl⟩
    · exact .inl hb
    · exact .inr ⟨x, by simp [hx], rfl⟩
  · unfold QBlk
    rw [blk_drewN, blk_set_same hQ]; rfl

set_option maxRecDepth 100000 in
set_option maxHeartbeats 1000000 in
theorem opop_any (w : World) (Q : Nat) (v m : Value) (t : Int) (L : List Ent) (e0 : Ent) (h : HRep w v (L ++ [e0])) (hQ : QBlk w Q v m t) :
    Calls Try.prog 161 #[.pointer (some ⟨Q, 0, none⟩)] w fun e w' => e = .returned (.iface 177 (.pointer (some ⟨e0.blk, 0, none⟩))) ∧ ∃ v', PopPost w Q v m t L w' v' := by
  have hsm := h.small
  obtain ⟨H, cap, cur, hv, hH, hcs, hcl, -⟩ := h.form (by simp)
  have hlen : (L ++ [e0]).length = L.length + 1 := by simp
  have hlast := h.cell hv (i := L.length) (e := e0) (by simp)
  rw [hlen] at hv hsm hcl
  subst hv
  have c0 := hQ.c0
  have f0 : w.frozen? ⟨Q, 0, none⟩ = false := frozen_of_blk hQ
  have HP := Lib.hid (fun d => pop_post h hQ d)
  have e1 : ((L.length + 1 : Nat) : Int) - 1 = (L.length : Int) := by omega
  clear h hQ hH hcs hlen
  go_enter Try.func161, Try.ntmps161
  go_wp2
  go_ret
  exact ⟨rfl, _, HP.out 0⟩

/-- What heap.Pop leaves: the list behind the swap and the sinking, its last element. -/
def popL (L : List Ent) : List Ent := (downL (swp L 0 (L.length - 1)) (L.length - 1) 0).1

theorem length_downL (L : List Ent) (n i : Nat) : (downL L n i).1.length = L.length := by
  induction hm : n - i using Nat.strongRecOn generalizing L i with
  | _ m ih =>
    by_cases h : n ≤ 2 * i + 1
    · rw [downL_stop h]
    · rw [downL_go h rfl]
      generalize hj : (if (decide (2 * i + 2 < n) && lessAt L (2 * i + 2) (2 * i + 1)) = true then 2 * i + 2 else 2 * i + 1) = j
      have hij : i < j := by subst hj; split <;> omega
      split
      · rw [ih (n - j) (by omega) _ _ rfl, length_swp]
      · rfl

theorem length_popL (L : List Ent) : (popL L).length = L.length := by unfold popL; rw [length_downL, length_swp]

structure TookPost (w : World) (Q : Nat) (v m : Value) (t : Int) (L R : List Ent) (e0 : Ent) (w' : World) (v' : Value) : Prop where
  rep : HRep w' v' R
  q : QBlk w' Q v' m t
  ent0 : ∃ x, w'.heap[e0.blk]? = some (.cells #[.int .u32 e0.item, .int .i64 e0.key, .int .i64 e0.time, x] 180 (0, 0))
  keeps : Keeps (fun b => b = Q ∨ hfoot v L b) w w'
  sub : ∀ b, hfoot v' R b → hfoot v L b

theorem swap_any' (w : World) (v : Value) (L : List Ent) (h : HRep w v L) (x y : Int) (i k : Nat) (hi : i < L.length) (hk : k < L.length) (hx : x = (i : Int)) (hy : y = (k : Int)) :
    Calls Try.prog 160 #[v, .int .i64 x, .int .i64 y] w fun e w' => e = .returned (.tuple #[]) ∧ SwapPost w v L i k w' := by
  subst hx hy
  by_cases e : i = k
  · subst e; exact swap_eq w v L h i _ (List.getElem?_eq_getElem hi)
  · exact swap_ne w v L h i k _ _ (List.getElem?_eq_getElem hi) (List.getElem?_eq_getElem hk) e

theorem took_post {w w1 w2 : World} {Q : Nat} {v m : Value} {t : Int} {L R : List Ent} {e0 : Ent} {v' : Value} (hr : HRep w v L) (hQ : QBlk w Q v m t) (hP : HPost w v L (R ++ [e0]) w1) (hO : PopPost w1 Q v m t R w2 v') : TookPost w Q v m t L R e0 w2 v' := by
  have hE := hP.rep.ent R.length e0 (by simp)
  have nQ := hQ.nfoot hr
  have hin : hfoot v L e0.blk := hP.sub _ (.inr ⟨e0, by simp, rfl⟩)
  refine ⟨hO.rep, hO.q, ⟨_, hO.keeps.heap hE ?_⟩, ?_, ?_⟩
  · rintro rfl; exact nQ hin
  · exact (hP.keeps.mono (fun b _ hb => .inr hb)).trans (hO.keeps.mono (fun b _ hb => .inl hb))
  · intro b hb
    apply hP.sub
    rcases hb with hb | ⟨x, hx, rfl⟩
    · exact .inl (by rw [← hO.own]; exact hb)
    · exact .inr ⟨x, by simp [hx], rfl⟩

set_option maxRecDepth 100000 in
set_option maxHeartbeats 1000000 in
theorem hpop_any (w : World) (Q : Nat) (v m : Value) (t : Int) (L : List Ent) (h : HRep w v L) (hQ : QBlk w Q v m t) (R : List Ent) (e0 : Ent) (hR : popL L = R ++ [e0]) :
    Calls Try.prog 113 #[.iface 182 (.pointer (some ⟨Q, 0, none⟩))] w fun e w' => e = .returned (.iface 177 (.pointer (some ⟨e0.blk, 0, none⟩))) ∧ ∃ v', TookPost w Q v m t L R e0 w' v' := by
  have hsm := h.small
  have hlen : L.length = R.length + 1 := by rw [← length_popL L, hR]; simp
  have mN := method_Len hQ.c0
  have mS := method_Swap hQ.c0
  have H0 := Lib.hid h
  have HQ := Lib.hid hQ
  have HR := Lib.hid hR
  have HL := Lib.hid hlen
  have hr1 : R.length + 1 ≤ 1000000 := by omega
  clear h hQ hR hlen hsm
  have mP := fun w => method_Pop_raw ⟨Q, 0, none⟩ w
  go_enter Try.func113, Try.ntmps113
  go_wp2_with fail
  refine (len_any _ v L H0.out).mono ?_; rintro e w' ⟨he, rfl⟩; rw [HL.out] at he; subst he
  go_wp2_with fail
  refine (swap_any' _ v L H0.out _ _ 0 R.length (by have := HL.out; omega) (by have := HL.out; omega) (by omega) (by omega)).mono ?_; rintro e w1 ⟨rfl, hS⟩
  have hP1 := (HPost.refl H0.out).swap hS
  go_wp2_with fail
  refine (down_any _ Q v _ hP1.rep (hP1.qblk HQ.out H0.out).c0 ((hP1.qblk HQ.out H0.out).nfoot hP1.rep) 0 R.length (by have := hP1.len; have := HL.out; omega) (by omega)).mono ?_; rintro e w2 ⟨rfl, hP2⟩
  have hP3 := hP1.trans hP2
  have e4 : (downL (swp L 0 R.length) R.length 0).1 = R ++ [e0] := by
    have := HR.out; unfold popL at this; rw [HL.out] at this; exact this
  rw [e4] at hP3
  have HP3 := Lib.hid hP3
  clear hP1 hP2 hP3 hS e4
  go_wp2_with fail
  refine (opop_any _ Q v m t R e0 HP3.out.rep (HP3.out.qblk HQ.out H0.out)).mono ?_; rintro e w3 ⟨rfl, v', hO⟩
  have hT := Lib.hid (took_post H0.out HQ.out HP3.out hO)
  clear hO
  go_wp2_with fail
  go_ret
  exact ⟨rfl, v', hT.out⟩

end Go.Proofs.Ytcfcmmajlkkabaa.U
