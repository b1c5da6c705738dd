/- The queue's heap: what the slice of entries reads as; Less, Swap, Len walked. -/
import Derived.Test.YtcfcmmajlkkabaaProg
import Derived.Test.YtcfcmmajlkkabaaKitA
namespace Go.Proofs.Ytcfcmmajlkkabaa.U
open Go.RowKit

structure Ent where
  blk : Nat
  item : Int
  key : Int
  time : Int

def Ent.ptr (e : Ent) : Value := .pointer (some ⟨e.blk, 0, none⟩)

def lessE (a b : Ent) : Bool := decide (a.key < b.key) || (a.key == b.key && decide (a.time < b.time))

/-- The slice v of entries reads as L in w. -/
structure HRep (w : World) (v : Value) (L : List Ent) : Prop where
  row : w.ownsRow 0 177 1 v L.length (L.map Ent.ptr)
  ent : ∀ (i : Nat) (e : Ent), L[i]? = some e → w.heap[e.blk]? = some (.cells #[.int .u32 e.item, .int .i64 e.key, .int .i64 e.time, .int .i64 (i : Int)] 180 (0, 0))
  small : L.length ≤ 1000000

theorem HRep.form {w : World} {v : Value} {L : List Ent} (h : HRep w v L) (hn : 0 < L.length) :
    ∃ H cap cur, v = .slice (some ⟨H, 0, none⟩) L.length cap ∧ w.heap[H]? = some (.cells cur 177 (0, 0)) ∧ cur.size = cap ∧ L.length ≤ cap ∧ ∀ (i : Nat) (e : Ent), L[i]? = some e → cur[i]? = some e.ptr := by
  rcases h.row.2 with ⟨_, h0⟩ | ⟨g, cap, cur, hv, _, hg, hn, hm, hs, ht⟩
  · omega
  · refine ⟨g, cap, cur, hv, hg, by omega, hn, fun i e he => ?_⟩
    have hi : i < L.length := (List.getElem?_eq_some_iff.1 he).1
    have : (cur.toList.take (L.length * 1))[i]? = some e.ptr := by rw [ht, List.getElem?_map, he]; rfl
    rw [List.getElem?_take, if_pos (by omega)] at this
    simpa using this

theorem HRep.cell {w : World} {v : Value} {L : List Ent} (h : HRep w v L) {H cap : Nat} (hv : v = .slice (some ⟨H, 0, none⟩) L.length cap) {i : Nat} {e : Ent} (hi : L[i]? = some e) :
    w.cell? ⟨H, i, none⟩ = some (.pointer (some ⟨e.blk, 0, none⟩)) := by
  have hl : i < L.length := (List.getElem?_eq_some_iff.1 hi).1
  obtain ⟨H', cap', cur, hv', hb, hs, hc, hcur⟩ := h.form (by omega)
  rw [hv] at hv'
  simp only [Value.slice.injEq, Option.some.injEq, Addr.mk.injEq] at hv'
  obtain ⟨⟨rfl, _⟩, _⟩ := hv'
  rw [cell_of_blk hb, hcur i e hi]; rfl

theorem HRep.e0 {w : World} {v : Value} {L : List Ent} (h : HRep w v L) {i : Nat} {e : Ent} (hi : L[i]? = some e) : w.cell? ⟨e.blk, 0, none⟩ = some (.int .u32 e.item) := by rw [cell_of_blk (h.ent i e hi)]; rfl
theorem HRep.e1 {w : World} {v : Value} {L : List Ent} (h : HRep w v L) {i : Nat} {e : Ent} (hi : L[i]? = some e) : w.cell? ⟨e.blk, 1, none⟩ = some (.int .i64 e.key) := by rw [cell_of_blk (h.ent i e hi)]; rfl
theorem HRep.e2 {w : World} {v : Value} {L : List Ent} (h : HRep w v L) {i : Nat} {e : Ent} (hi : L[i]? = some e) : w.cell? ⟨e.blk, 2, none⟩ = some (.int .i64 e.time) := by rw [cell_of_blk (h.ent i e hi)]; rfl
theorem HRep.e3 {w : World} {v : Value} {L : List Ent} (h : HRep w v L) {i : Nat} {e : Ent} (hi : L[i]? = some e) : w.cell? ⟨e.blk, 3, none⟩ = some (.int .i64 (i : Int)) := by rw [cell_of_blk (h.ent i e hi)]; rfl

set_option maxRecDepth 100000 in
set_option maxHeartbeats 1000000 in
theorem less_any (w : World) (v : Value) (L : List Ent) (h : HRep w v L) (i k : Nat) (ei ek : Ent) (hi : L[i]? = some ei) (hk : L[k]? = some ek) :
    Calls Try.prog 159 #[v, .int .i64 (i : Int), .int .i64 (k : Int)] w fun e w' => e = .returned (.bool (lessE ei ek)) ∧ ∃ n, w' = w.drewN n := by
  have li : i < L.length := (List.getElem?_eq_some_iff.1 hi).1
  have lk : k < L.length := (List.getElem?_eq_some_iff.1 hk).1
  have hsm := h.small
  obtain ⟨H, cap, cur, hv, -, -, -, -⟩ := h.form (by omega)
  have ci := h.cell hv hi
  have ck := h.cell hv hk
  have ci1 := h.e1 hi
  have ck1 := h.e1 hk
  have ci2 := h.e2 hi
  have ck2 := h.e2 hk
  subst hv
  clear h hi hk
  have i0 : (0 : Int) ≤ (i : Int) := by omega
  have k0 : (0 : Int) ≤ (k : Int) := by omega
  have il : (i : Int) < (L.length : Int) := by omega
  have kl : (k : Int) < (L.length : Int) := by omega
  by_cases h1 : ei.key < ek.key
  · have hr : lessE ei ek = true := by simp [lessE, h1]
    have HR := Lib.hid hr; clear hr
    have h1' : decide (ei.key < ek.key) = true := by simpa using h1
    go_enter Try.func159, Try.ntmps159
    go_wp2
    go_quiet (fail)
    go_wp2
    go_ret
    exact ⟨congrArg (fun b => Ending.returned (Value.bool b)) HR.out.symm, nq, rfl⟩
  · by_cases h2 : ei.key = ek.key
    · have hr : lessE ei ek = decide (ei.time < ek.time) := by simp [lessE, h2]
      have HR := Lib.hid hr; clear hr
      have h1' : decide (ei.key < ek.key) = false := by simpa using h1
      have h2' : (ei.key == ek.key) = true := by simpa using h2
      have H2 := Lib.hid h2; clear h2
      go_enter Try.func159, Try.ntmps159
      go_wp2
      go_quiet (fail)
      go_wp2
      go_ret
      exact ⟨congrArg (fun b => Ending.returned (Value.bool b)) HR.out.symm, nq, rfl⟩
    · have hr : lessE ei ek = false := by simp [lessE, h1, h2]
      have HR := Lib.hid hr; clear hr
      have h1' : decide (ei.key < ek.key) = false := by simpa using h1
      have h2' : (ei.key == ek.key) = false := by simpa using h2
      go_enter Try.func159, Try.ntmps159
      go_wp2
      go_quiet (fail)
      go_wp2
      go_ret
      exact ⟨congrArg (fun b => Ending.returned (Value.bool b)) HR.out.symm, nq, rfl⟩

/-! ### Swap -/
def swp (L : List Ent) (i k : Nat) : List Ent :=
  match L[i]?, L[k]? with
  | some a, some b => (L.set i b).set k a
  | _, _ => L

theorem swp_eq {L : List Ent} {i k : Nat} {a b : Ent} (hi : L[i]? = some a) (hk : L[k]? = some b) : swp L i k = (L.set i b).set k a := by simp [swp, hi, hk]

theorem length_swp (L : List Ent) (i k : Nat) : (swp L i k).length = L.length := by
  unfold swp; split <;> simp

theorem get_swp {L : List Ent} {i k : Nat} {a b : Ent} (hi : L[i]? = some a) (hk : L[k]? = some b) (j : Nat) :
    (swp L i k)[j]? = if j = k then some a else if j = i then some b else L[j]? := by
  have li : i < L.length := (List.getElem?_eq_some_iff.1 hi).1
  have lk : k < L.length := (List.getElem?_eq_some_iff.1 hk).1
  rw [swp_eq hi hk, List.getElem?_set]
  by_cases h : k = j
  · subst h; simp [lk]
  · rw [if_neg h, if_neg (fun e => h e.symm), List.getElem?_set]
    by_cases h' : i = j
    · subst h'; simp [li]
    · rw [if_neg h', if_neg (fun e => h' e.symm)]

theorem swp_self {L : List Ent} {i : Nat} {a : Ent} (hi : L[i]? = some a) : swp L i i = L := by
  apply List.ext_getElem?
  intro j
  rw [get_swp hi hi]
  by_cases h : j = i
  · subst h; simp [hi]
  · simp [h]

def hfoot (v : Value) (L : List Ent) (b : Nat) : Prop := v.ownBlock = some b ∨ ∃ e ∈ L, e.blk = b

theorem mem_swp {L : List Ent} {i k : Nat} {e : Ent} : e ∈ swp L i k → e ∈ L := by
  intro h
  cases hi : L[i]? with
  | none => simpa [swp, hi] using h
  | some a =>
    cases hk : L[k]? with
    | none => simpa [swp, hi, hk] using h
    | some b =>
      obtain ⟨j, hj⟩ := List.mem_iff_getElem?.1 h
      rw [get_swp hi hk] at hj
      split at hj
      · exact (Option.some.inj hj) ▸ List.mem_of_getElem? hi
      · split at hj
        · exact (Option.some.inj hj) ▸ List.mem_of_getElem? hk
        · exact List.mem_of_getElem? hj

theorem HRep.inj {w : World} {v : Value} {L : List Ent} (h : HRep w v L) {i k : Nat} {a b : Ent} (hi : L[i]? = some a) (hk : L[k]? = some b) (e : a.blk = b.blk) : i = k := by
  have x := h.ent i a hi
  rw [e, h.ent k b hk] at x
  simp at x
  omega

theorem HRep.ne_row {w : World} {v : Value} {L : List Ent} (h : HRep w v L) {i : Nat} {a : Ent} (hi : L[i]? = some a) {g : Nat} (hg : v.ownBlock = some g) : a.blk ≠ g := by
  have hl : i < L.length := (List.getElem?_eq_some_iff.1 hi).1
  obtain ⟨H, cap, cur, hv, hb, _⟩ := h.form (by omega)
  rw [hv] at hg
  obtain rfl : H = g := by simpa [Value.ownBlock] using hg
  rintro rfl
  rw [h.ent i a hi] at hb
  simp at hb

theorem HRep.lt {w : World} {v : Value} {L : List Ent} (h : HRep w v L) {b : Nat} (hb : hfoot v L b) : b < w.heap.size := by
  rcases hb with hb | ⟨e, he, rfl⟩
  · exact (h.row.lt b hb).2
  · obtain ⟨j, hj⟩ := List.mem_iff_getElem?.1 he
    exact lt_of_heap (h.ent j e hj)

theorem HRep.keeps {S : Nat → Prop} {w w' : World} {v : Value} {L : List Ent} (h : HRep w v L) (hk : Keeps S w w') (hs : ∀ b, hfoot v L b → ¬ S b) : HRep w' v L :=
  ⟨hk.ownsRow h.row (fun b hb => hs b (.inl hb)), fun i e hi => hk.heap (h.ent i e hi) (hs _ (.inr ⟨e, List.mem_of_getElem? hi, rfl⟩)), h.small⟩

theorem HRep.drewN {w : World} {v : Value} {L : List Ent} (h : HRep w v L) (n : Nat) : HRep (w.drewN n) v L := ⟨h.row, h.ent, h.small⟩

structure SwapPost (w : World) (v : Value) (L : List Ent) (i k : Nat) (w' : World) : Prop where
  rep : HRep w' v (swp L i k)
  keeps : Keeps (hfoot v L) w w'

theorem swap_post {w : World} {H n cap : Nat} {L : List Ent} (h : HRep w (.slice (some ⟨H, 0, none⟩) n cap) L) {i k : Nat} {ei ek : Ent} (hi : L[i]? = some ei) (hk : L[k]? = some ek) (hne : i ≠ k) :
    SwapPost w (.slice (some ⟨H, 0, none⟩) n cap) L i k
      ((((w.setCell ⟨H, i, none⟩ (.pointer (some ⟨ek.blk, 0, none⟩))).setCell ⟨H, k, none⟩ (.pointer (some ⟨ei.blk, 0, none⟩))).setCell ⟨ek.blk, 3, none⟩ (.int .i64 (i : Int))).setCell ⟨ei.blk, 3, none⟩ (.int .i64 (k : Int))).drew.drew := by
  have li : i < L.length := (List.getElem?_eq_some_iff.1 hi).1
  have lk : k < L.length := (List.getElem?_eq_some_iff.1 hk).1
  have nH : ∀ (j : Nat) (e : Ent), L[j]? = some e → e.blk ≠ H := fun j e hj => h.ne_row hj rfl
  have hn : n = L.length := by
    have := h.row.2
    rcases this with ⟨hv, _⟩ | ⟨_, _, _, hv, _⟩ <;> simp at hv
    omega
  subst hn
  refine ⟨⟨?_, ?_, ?_⟩, ?_⟩
  · have r1 := h.row.stored i (.pointer (some ⟨ek.blk, 0, none⟩))
    have r2 := r1.1.stored k (.pointer (some ⟨ei.blk, 0, none⟩))
    have r3 : ((((w.setCell ⟨H, i, none⟩ (.pointer (some ⟨ek.blk, 0, none⟩))).setCell ⟨H, k, none⟩ (.pointer (some ⟨ei.blk, 0, none⟩))).setCell ⟨ek.blk, 3, none⟩ (.int .i64 (i : Int))).setCell ⟨ei.blk, 3, none⟩ (.int .i64 (k : Int))).ownsRow
        0 177 1 (.slice (some ⟨H, 0, none⟩) L.length cap) L.length (((L.map Ent.ptr).set i (.pointer (some ⟨ek.blk, 0, none⟩))).set k (.pointer (some ⟨ei.blk, 0, none⟩))) := by
      refine Keeps.ownsRow (S := fun b => b ≠ H) ?_ r2.1 ?_
      · exact ((Keeps.refl _ _).setCell (.inl (nH k ek hk)) _).setCell (.inl (nH i ei hi)) _
      · intro g hg; simp [Value.ownBlock] at hg; simp [hg]
    have e1 : (swp L i k).map Ent.ptr = ((L.map Ent.ptr).set i (.pointer (some ⟨ek.blk, 0, none⟩))).set k (.pointer (some ⟨ei.blk, 0, none⟩)) := by
      rw [swp_eq hi hk, List.map_set, List.map_set]; rfl
    rw [e1, length_swp]
    exact r3
  · intro j e hj
    rw [get_swp hi hk] at hj
    simp only [heap_drew]
    by_cases hjk : j = k
    · subst hjk
      rw [if_pos rfl] at hj
      obtain rfl := Option.some.inj hj
      have hx : (((w.setCell ⟨H, i, none⟩ (.pointer (some ⟨ek.blk, 0, none⟩))).setCell ⟨H, j, none⟩ (.pointer (some ⟨ei.blk, 0, none⟩))).setCell ⟨ek.blk, 3, none⟩ (.int .i64 (i : Int))).heap[ei.blk]? = some (.cells #[.int .u32 ei.item, .int .i64 ei.key, .int .i64 ei.time, .int .i64 (i : Int)] 180 (0, 0)) := by
        rw [blk_set_ne (fun e => hne (h.inj hi hk e)), blk_set_ne (nH i ei hi), blk_set_ne (nH i ei hi)]
        exact h.ent i ei hi
      rw [blk_set_same hx]; rfl
    · rw [if_neg hjk] at hj
      by_cases hji : j = i
      · subst hji
        rw [if_pos rfl] at hj
        obtain rfl := Option.some.inj hj
        have hx : ((w.setCell ⟨H, j, none⟩ (.pointer (some ⟨ek.blk, 0, none⟩))).setCell ⟨H, k, none⟩ (.pointer (some ⟨ei.blk, 0, none⟩))).heap[ek.blk]? = some (.cells #[.int .u32 ek.item, .int .i64 ek.key, .int .i64 ek.time, .int .i64 (k : Int)] 180 (0, 0)) := by
          rw [blk_set_ne (nH k ek hk), blk_set_ne (nH k ek hk)]
          exact h.ent k ek hk
        rw [blk_set_ne (fun e => hne (h.inj hi hk e.symm)), blk_set_same hx]; rfl
      · rw [if_neg hji] at hj
        rw [blk_set_ne (fun e => hji (h.inj hj hi e)), blk_set_ne (fun e => hjk (h.inj hj hk e)), blk_set_ne (nH j e hj), blk_set_ne (nH j e hj)]
        exact h.ent j e hj
  · rw [length_swp]; exact h.small
  · refine (((((Keeps.refl _ _).setCell (.inl ?_) _).setCell (.inl ?_) _).setCell (.inl ?_) _).setCell (.inl ?_) _).drew.drew
    · exact .inl rfl
    · exact .inl rfl
    · exact .inr ⟨ek, List.mem_of_getElem? hk, rfl⟩
    · exact .inr ⟨ei, List.mem_of_getElem? hi, rfl⟩

set_option maxRecDepth 100000 in
set_option maxHeartbeats 1000000 in
theorem swap_ne (w : World) (v : Value) (L : List Ent) (h : HRep w v L) (i k : Nat) (ei ek : Ent) (hi : L[i]? = some ei) (hk : L[k]? = some ek) (hne : i ≠ k) :
    Calls Try.prog 160 #[v, .int .i64 (i : Int), .int .i64 (k : Int)] w fun e w' => e = .returned (.tuple #[]) ∧ SwapPost w v L i k w' := by
  have li : i < L.length := (List.getElem?_eq_some_iff.1 hi).1
  have lk : k < L.length := (List.getElem?_eq_some_iff.1 hk).1
  have hsm := h.small
  obtain ⟨H, cap, cur, hv, hH, -, -, -⟩ := h.form (by omega)
  have ci := h.cell hv hi
  have ck := h.cell hv hk
  have ci3 := h.e3 hi
  have ck3 := h.e3 hk
  have fi : w.frozen? ⟨H, i, none⟩ = false := frozen_of_blk hH
  have fk : w.frozen? ⟨H, k, none⟩ = false := frozen_of_blk hH
  have fi3 : w.frozen? ⟨ei.blk, 3, none⟩ = false := frozen_of_blk (h.ent i ei hi)
  have fk3 : w.frozen? ⟨ek.blk, 3, none⟩ = false := frozen_of_blk (h.ent k ek hk)
  have n1 : ¬ H = ei.blk := by rintro rfl; rw [h.ent i ei hi] at hH; simp at hH
  have n2 : ¬ H = ek.blk := by rintro rfl; rw [h.ent k ek hk] at hH; simp at hH
  have n3 : ¬ ei.blk = ek.blk := fun e => hne (h.inj hi hk e)
  subst hv
  have HP := Lib.hid (swap_post h hi hk hne)
  clear h hi hk hH
  have i0 : (0 : Int) ≤ (i : Int) := by omega
  have k0 : (0 : Int) ≤ (k : Int) := by omega
  have il : (i : Int) < (L.length : Int) := by omega
  have kl : (k : Int) < (L.length : Int) := by omega
  have hne' : ¬ k = i := fun e => hne e.symm
  have n1' : ¬ ei.blk = H := fun e => n1 e.symm
  have n2' : ¬ ek.blk = H := fun e => n2 e.symm
  have n3' : ¬ ek.blk = ei.blk := fun e => n3 e.symm
  go_enter Try.func160, Try.ntmps160
  go_wp2
  go_region
  go_wp2
  go_region
  go_end0
  exact ⟨rfl, HP.out⟩

set_option maxRecDepth 100000 in
set_option maxHeartbeats 1000000 in
theorem swap_eq (w : World) (v : Value) (L : List Ent) (h : HRep w v L) (i : Nat) (ei : Ent) (hi : L[i]? = some ei) :
    Calls Try.prog 160 #[v, .int .i64 (i : Int), .int .i64 (i : Int)] w fun e w' => e = .returned (.tuple #[]) ∧ SwapPost w v L i i w' := by
  have li : i < L.length := (List.getElem?_eq_some_iff.1 hi).1
  have hsm := h.small
  obtain ⟨H, cap, cur, hv, hH, -, -, -⟩ := h.form (by omega)
  have ci := h.cell hv hi
  have ci3 := h.e3 hi
  have fi : w.frozen? ⟨H, i, none⟩ = false := frozen_of_blk hH
  have fi3 : w.frozen? ⟨ei.blk, 3, none⟩ = false := frozen_of_blk (h.ent i ei hi)
  have n1 : ¬ H = ei.blk := by rintro rfl; rw [h.ent i ei hi] at hH; simp at hH
  subst hv
  have HP : Hid (SwapPost w (.slice (some ⟨H, 0, none⟩) L.length cap) L i i ((((w.setCell ⟨H, i, none⟩ (.pointer (some ⟨ei.blk, 0, none⟩))).setCell ⟨H, i, none⟩ (.pointer (some ⟨ei.blk, 0, none⟩))).setCell ⟨ei.blk, 3, none⟩ (.int .i64 (i : Int))).setCell ⟨ei.blk, 3, none⟩ (.int .i64 (i : Int))).drew.drew) := by
    rw [setCell_id ci, setCell_id ci, setCell_id ci3, setCell_id ci3]
    exact ⟨by rw [swp_self hi]; exact h.drewN 2, (Keeps.refl _ _).drewN 2⟩
  have n1' : ¬ ei.blk = H := fun e => n1 e.symm
  have i0 : (0 : Int) ≤ (i : Int) := by omega
  have il : (i : Int) < (L.length : Int) := by omega
  clear h hi hH
  go_enter Try.func160, Try.ntmps160
  go_wp2
  go_region
  go_wp2
  go_region
  go_end0
  exact ⟨rfl, HP.out⟩

end Go.Proofs.Ytcfcmmajlkkabaa.U
