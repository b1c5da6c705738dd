/- The queue: what it holds as a list of items and keys in the order in which the keys were set; New, Len, Key walked. -/
import Derived.Test.YtcfcmmajlkkabaaUHeapD
import Derived.Test.YtcfcmmajlkkabaaUHeapLaw
import Derived.Test.YtcfcmmajlkkabaaKitA
namespace Go.Proofs.Ytcfcmmajlkkabaa.U
open Go.RowKit

structure QR (w : World) (Q : Nat) (v : Value) (Mb : Nat) (l : List (Int × Value)) (L E : List Ent) (A : List (Int × Int)) (t : Int) (F : Nat → Prop) : Prop where
  rep : HRep w v L
  q : QBlk w Q v (.map (some Mb)) t
  mp : IMap w Mb .u32 l
  nd : (l.map Prod.fst).Nodup
  mem : ∀ p, p ∈ l ↔ ∃ e ∈ L, p = (e.item, e.ptr)
  heap : Heap L L.length
  perm : L.Perm E
  view : E.map (fun e => (e.item, e.key)) = A
  ord : E.Pairwise (fun a b => a.time < b.time)
  bound : ∀ e ∈ E, e.time ≤ t
  ndA : (A.map Prod.fst).Nodup
  fQ : F Q
  fM : F Mb
  fH : ∀ b, hfoot v L b → F b

/-- The queue at block Q holds the items and keys of A, in the order in which the keys were set; its blocks lie in F. -/
def QRep (w : World) (Q : Nat) (A : List (Int × Int)) (t : Int) (F : Nat → Prop) : Prop := ∃ v Mb l L E, QR w Q v Mb l L E A t F

theorem QR.len {w : World} {Q : Nat} {v : Value} {Mb : Nat} {l : List (Int × Value)} {L E : List Ent} {A : List (Int × Int)} {t : Int} {F : Nat → Prop} (h : QR w Q v Mb l L E A t F) : L.length = A.length := by
  rw [h.perm.length_eq, ← h.view]; simp

theorem QR.lt {w : World} {Q : Nat} {v : Value} {Mb : Nat} {l : List (Int × Value)} {L E : List Ent} {A : List (Int × Int)} {t : Int} {F : Nat → Prop} (h : QR w Q v Mb l L E A t F) : Q < w.heap.size ∧ Mb < w.heap.size ∧ ∀ b, hfoot v L b → b < w.heap.size :=
  ⟨lt_of_heap h.q, h.mp.lt, fun _ hb => h.rep.lt hb⟩

theorem QRep.keeps {S : Nat → Prop} {w w' : World} {Q : Nat} {A : List (Int × Int)} {t : Int} {F : Nat → Prop} (h : QRep w Q A t F) (hk : Keeps S w w') (hs : ∀ b, F b → ¬ S b) : QRep w' Q A t F := by
  obtain ⟨v, Mb, l, L, E, h⟩ := h
  exact ⟨v, Mb, l, L, E, { h with rep := h.rep.keeps hk (fun b hb => hs b (h.fH b hb)), q := hk.heap h.q (hs _ h.fQ), mp := h.mp.keeps hk (hs _ h.fM) }⟩

theorem QRep.mono {w : World} {Q : Nat} {A : List (Int × Int)} {t : Int} {F F' : Nat → Prop} (h : QRep w Q A t F) (hf : ∀ b, b < w.heap.size → F b → F' b) : QRep w Q A t F' := by
  obtain ⟨v, Mb, l, L, E, h⟩ := h
  exact ⟨v, Mb, l, L, E, { h with fQ := hf _ h.lt.1 h.fQ, fM := hf _ h.lt.2.1 h.fM, fH := fun b hb => hf b (h.lt.2.2 b hb) (h.fH b hb) }⟩

/-- A key's entry. -/
theorem QR.find {w : World} {Q : Nat} {v : Value} {Mb : Nat} {l : List (Int × Value)} {L E : List Ent} {A : List (Int × Int)} {t : Int} {F : Nat → Prop} (h : QR w Q v Mb l L E A t F) {x k : Int} (hx : (x, k) ∈ A) :
    ∃ e, e ∈ L ∧ e.item = x ∧ e.key = k ∧ (x, e.ptr) ∈ l := by
  rw [← h.view] at hx
  obtain ⟨e, he, hp⟩ := List.mem_map.1 hx
  simp at hp
  have hL := h.perm.mem_iff.2 he
  exact ⟨e, hL, hp.1, hp.2, (h.mem _).2 ⟨e, hL, by rw [hp.1]⟩⟩

theorem QR.miss {w : World} {Q : Nat} {v : Value} {Mb : Nat} {l : List (Int × Value)} {L E : List Ent} {A : List (Int × Int)} {t : Int} {F : Nat → Prop} (h : QR w Q v Mb l L E A t F) {x : Int} (hx : ∀ p ∈ A, p.1 ≠ x) : ∀ p ∈ l, p.1 ≠ x := by
  intro p hp
  obtain ⟨e, he, rfl⟩ := (h.mem p).1 hp
  have : (e.item, e.key) ∈ A := by rw [← h.view]; exact List.mem_map.2 ⟨e, h.perm.mem_iff.1 he, rfl⟩
  exact hx _ this

set_option maxRecDepth 100000 in
set_option maxHeartbeats 400000 in
theorem new_any (w : World) : Calls Try.prog 94 #[] w fun e w' => e = .returned (.pointer (some ⟨w.heap.size + 1, 0, none⟩)) ∧ QRep w' (w.heap.size + 1) [] 0 (fun b => w.heap.size ≤ b) ∧ Keeps (fun _ => False) w w' := by
  have hmm := @run_makeMap Try.prog
  go_enter Try.func94, Try.ntmps94
  go_wp2
  go_ret
  refine ⟨rfl, ⟨.slice none 0 0, w.heap.size, [], [], [], ?_⟩, ((Keeps.refl _ _).alloc _).alloc _⟩
  refine ⟨⟨World.ownsRow_nil _ _ _ _, by simp, by simp⟩, ?_, (IMap.made w .u32).alloc _, by simp, by simp, fun c _ h => by simp at h, List.Perm.refl _, rfl, List.Pairwise.nil, by simp, by simp, ?_, Nat.le_refl _, ?_⟩
  · unfold QBlk
    have := heap_alloc_new (w.alloc (.map #[] 0)) (.cells #[.slice none 0 0, .map (some w.heap.size), .int .i64 0] 176 (0, 0))
    simpa using this
  · show w.heap.size ≤ w.heap.size + 1; omega
  · rintro b (hb | ⟨e, he, _⟩)
    · simp [Value.ownBlock] at hb
    · simp at he

set_option maxRecDepth 100000 in
set_option maxHeartbeats 400000 in
theorem qlen_any (w : World) (Q : Nat) (A : List (Int × Int)) (t : Int) (F : Nat → Prop) (h : QRep w Q A t F) :
    Calls Try.prog 96 #[.pointer (some ⟨Q, 0, none⟩)] w fun e w' => e = .returned (.int .i64 (A.length : Int)) ∧ w = w' := by
  obtain ⟨v, Mb, l, L, E, h⟩ := h
  obtain ⟨ao, cap, rfl⟩ := h.rep.isSlice
  have c0 := h.q.c0
  have HL := Lib.hid h.len
  clear h
  go_enter Try.func96, Try.ntmps96
  go_wp2
  go_ret
  exact ⟨by rw [← HL.out]; rfl, rfl⟩

theorem zero_entry (w : World) : (zeroValue 177).run Try.prog w = .ok (.pointer none) w := by kernel_rfl

end Go.Proofs.Ytcfcmmajlkkabaa.U
