/- OpenlistPlayMatchesSpec: the walk. -/
import Derived.Test.YtlghadoejmnllaaRefJ
import Derived.Test.YtlghadoejmnllaaEx
namespace Go.Proofs.Ytlghadoejmnllaa
open Go.RowKit

set_option maxHeartbeats 1000000 in
theorem playMatches_err (w : World) (v : Value) (ops : List QOp) (h : Sl w v ops.length (opCells ops)) (c n : Int) (hq : playQ ops = .error (c, n)) :
    Calls Try.prog 3 #[v] w fun e w' => e = .returned (.bool true) ∧ Keeps (fun _ => False) w w' := by
  have HI := Lib.hid h
  have h1 : takenQ ops = .error (c, n) := by unfold takenQ; rw [hq]; rfl
  have h2 : restQ ops = .error (c, n) := by unfold restQ; rw [hq]; rfl
  have t1 : (([] : List Int) == []) = true := rfl
  have t2 : (([] : List Int) == []) = true := rfl
  have H1 := Lib.hid h1; have H2 := Lib.hid h2; have HQ := Lib.hid hq; have T1 := Lib.hid t1; have T2 := Lib.hid t2
  clear h h1 h2 hq t1 t2
  go_enter Try.func3, Try.ntmps3
  go_wp2_with fail
  refine (Play_any _ _ ops HI.out).mono ?_; rintro e w1 ⟨hk, hr⟩
  rw [H1.out] at hr; subst hr
  have K1 := Lib.hid hk; clear hk
  go_wp2_with fail
  refine (Rest_any _ _ ops (HI.out.keeps0 (K1.out.alloc _))).mono ?_; rintro e w2 ⟨hk, hr⟩
  rw [H2.out] at hr; subst hr
  have K2 := Lib.hid (((Keeps.refl _ w1).alloc _).trans hk)
  have b1 : w2.cell? ⟨w1.heap.size, 0, none⟩ = some (.int .i64 c) := hk.cell ((cell_of_blk (heap_alloc_new w1 _)).trans rfl) (fun h => h)
  have b2 : w2.cell? ⟨w1.heap.size, 1, none⟩ = some (.int .i64 n) := hk.cell ((cell_of_blk (heap_alloc_new w1 _)).trans rfl) (fun h => h)
  have l1 : w1.heap.size < w2.heap.size := by have := hk.size; simp at this; omega
  clear hk
  go_wp2_with fail
  refine (QueuePlay_any _ _ ops (HI.out.keeps0 ((K1.out.trans K2.out).alloc _))).mono ?_; rintro e w3 ⟨hk, hr⟩
  rw [HQ.out] at hr; subst hr
  have K3 := Lib.hid (((Keeps.refl _ w2).alloc _).trans hk)
  have c1 : w3.cell? ⟨w1.heap.size, 0, none⟩ = some (.int .i64 c) := K3.out.cell b1 (fun h => h)
  have c2 : w3.cell? ⟨w1.heap.size, 1, none⟩ = some (.int .i64 n) := K3.out.cell b2 (fun h => h)
  have c3 : w3.cell? ⟨w2.heap.size, 0, none⟩ = some (.int .i64 c) := hk.cell ((cell_of_blk (heap_alloc_new w2 _)).trans rfl) (fun h => h)
  have c4 : w3.cell? ⟨w2.heap.size, 1, none⟩ = some (.int .i64 n) := hk.cell ((cell_of_blk (heap_alloc_new w2 _)).trans rfl) (fun h => h)
  have l2 : w2.heap.size < w3.heap.size := by have := hk.size; simp at this; omega
  have l3 : w1.heap.size < w3.heap.size := by omega
  clear b1 b2 hk
  go_wp2_with fail
  refine (example_any _).mono ?_; rintro e w4 ⟨rfl, hk⟩
  have K4 := Lib.hid (((Keeps.refl _ w3).alloc _).trans hk)
  have d1 := K4.out.cell c1 (fun h => h)
  have d2 := K4.out.cell c2 (fun h => h)
  have d3 := K4.out.cell c3 (fun h => h)
  have d4 := K4.out.cell c4 (fun h => h)
  have d5 : w4.cell? ⟨w3.heap.size, 0, none⟩ = some (.int .i64 c) := hk.cell ((cell_of_blk (heap_alloc_new w3 _)).trans rfl) (fun h => h)
  have d6 : w4.cell? ⟨w3.heap.size, 1, none⟩ = some (.int .i64 n) := hk.cell ((cell_of_blk (heap_alloc_new w3 _)).trans rfl) (fun h => h)
  clear c1 c2 c3 c4 hk
  go_wp2_with fail
  refine (ints_any _ _ _ [] [] (OwnI.nil 0 _).ints (OwnI.nil 0 _).ints).mono ?_; rintro e w5 ⟨rfl, hk⟩
  rw [T1.out]
  have K5 := Lib.hid hk; clear hk
  go_wp2_with fail
  refine (ints_any _ _ _ [] [] (OwnI.nil 0 _).ints (OwnI.nil 0 _).ints).mono ?_; rintro e w6 ⟨rfl, hk⟩
  rw [T2.out]
  have K6 := Lib.hid (K1.out.trans (K2.out.trans (K3.out.trans (K4.out.trans (K5.out.trans hk))))); clear hk
  go_wp2_with fail
  go_ret
  exact ⟨rfl, K6.out⟩

set_option maxHeartbeats 1000000 in
theorem playMatches_ok (w : World) (v : Value) (ops : List QOp) (h : Sl w v ops.length (opCells ops)) (tk : List Int) (A : List (Int × Int)) (hq : playQ ops = .ok (tk, A)) :
    Calls Try.prog 3 #[v] w fun e w' => e = .returned (.bool true) ∧ Keeps (fun _ => False) w w' := by
  have HI := Lib.hid h
  have h1 : takenQ ops = .ok tk := by unfold takenQ; rw [hq]; rfl
  have h2 : restQ ops = .ok (drainA A.length A) := by unfold restQ; rw [hq]; rfl
  have t1 : (tk == tk) = true := by simp
  have t2 : (drainA A.length A == drainA A.length A) = true := by simp
  have H1 := Lib.hid h1; have H2 := Lib.hid h2; have HQ := Lib.hid hq; have T1 := Lib.hid t1; have T2 := Lib.hid t2
  clear h h1 h2 hq t1 t2
  go_enter Try.func3, Try.ntmps3
  go_wp2_with fail
  refine (Play_any _ _ ops HI.out).mono ?_; rintro e w1 ⟨hk, hr⟩
  rw [H1.out] at hr; obtain ⟨va, rfl, ho⟩ := hr
  have OA := Lib.hid (Ints.of_own ho); clear ho
  have K1 := Lib.hid hk; clear hk
  go_wp2_with fail
  refine (Rest_any _ _ ops (HI.out.keeps0 (K1.out.alloc _))).mono ?_; rintro e w2 ⟨hk, hr⟩
  rw [H2.out] at hr; obtain ⟨vb, rfl, ho⟩ := hr
  have OB := Lib.hid (Ints.of_own ho); clear ho
  have K2 := Lib.hid (((Keeps.refl _ w1).alloc _).trans hk)
  have b1 : w2.cell? ⟨w1.heap.size, 0, none⟩ = some (.int .i64 0) := hk.cell ((cell_of_blk (heap_alloc_new w1 _)).trans rfl) (fun h => h)
  have b2 : w2.cell? ⟨w1.heap.size, 1, none⟩ = some (.int .i64 0) := hk.cell ((cell_of_blk (heap_alloc_new w1 _)).trans rfl) (fun h => h)
  have l1 : w1.heap.size < w2.heap.size := by have := hk.size; simp at this; omega
  clear hk
  go_wp2_with fail
  refine (QueuePlay_any _ _ ops (HI.out.keeps0 ((K1.out.trans K2.out).alloc _))).mono ?_; rintro e w3 ⟨hk, hr⟩
  rw [HQ.out] at hr; obtain ⟨vt, vr, rfl, ho, ho2⟩ := hr
  have OT := Lib.hid ho.ints; have OR := Lib.hid ho2.ints; clear ho ho2
  have K3 := Lib.hid (((Keeps.refl _ w2).alloc _).trans hk)
  have c1 : w3.cell? ⟨w1.heap.size, 0, none⟩ = some (.int .i64 0) := K3.out.cell b1 (fun h => h)
  have c2 : w3.cell? ⟨w1.heap.size, 1, none⟩ = some (.int .i64 0) := K3.out.cell b2 (fun h => h)
  have c3 : w3.cell? ⟨w2.heap.size, 0, none⟩ = some (.int .i64 0) := hk.cell ((cell_of_blk (heap_alloc_new w2 _)).trans rfl) (fun h => h)
  have c4 : w3.cell? ⟨w2.heap.size, 1, none⟩ = some (.int .i64 0) := hk.cell ((cell_of_blk (heap_alloc_new w2 _)).trans rfl) (fun h => h)
  have l2 : w2.heap.size < w3.heap.size := by have := hk.size; simp at this; omega
  have l3 : w1.heap.size < w3.heap.size := by omega
  clear b1 b2 hk
  go_wp2_with fail
  refine (example_any _).mono ?_; rintro e w4 ⟨rfl, hk⟩
  have K4 := Lib.hid (((Keeps.refl _ w3).alloc _).trans hk)
  have d1 := K4.out.cell c1 (fun h => h)
  have d2 := K4.out.cell c2 (fun h => h)
  have d3 := K4.out.cell c3 (fun h => h)
  have d4 := K4.out.cell c4 (fun h => h)
  have d5 : w4.cell? ⟨w3.heap.size, 0, none⟩ = some (.int .i64 0) := hk.cell ((cell_of_blk (heap_alloc_new w3 _)).trans rfl) (fun h => h)
  have d6 : w4.cell? ⟨w3.heap.size, 1, none⟩ = some (.int .i64 0) := hk.cell ((cell_of_blk (heap_alloc_new w3 _)).trans rfl) (fun h => h)
  clear c1 c2 c3 c4 hk
  go_wp2_with fail
  refine (ints_any _ _ _ _ _ (OA.out.keeps0 (K2.out.trans (K3.out.trans K4.out))) (OT.out.keeps0 K4.out)).mono ?_; rintro e w5 ⟨rfl, hk⟩
  rw [T1.out]
  have K5 := Lib.hid hk; clear hk
  go_wp2_with fail
  refine (ints_any _ _ _ _ _ (OB.out.keeps0 (K3.out.trans (K4.out.trans K5.out))) (OR.out.keeps0 (K4.out.trans K5.out))).mono ?_; rintro e w6 ⟨rfl, hk⟩
  rw [T2.out]
  have K6 := Lib.hid (K1.out.trans (K2.out.trans (K3.out.trans (K4.out.trans (K5.out.trans hk))))); clear hk
  go_wp2_with fail
  go_ret
  exact ⟨rfl, K6.out⟩

theorem playMatches_any (w : World) (v : Value) (ops : List QOp) (h : Sl w v ops.length (opCells ops)) :
    Calls Try.prog 3 #[v] w fun e w' => e = .returned (.bool true) ∧ Keeps (fun _ => False) w w' := by
  cases hq : playQ ops with
  | error p => obtain ⟨c, n⟩ := p; exact playMatches_err w v ops h c n hq
  | ok p => obtain ⟨tk, A⟩ := p; exact playMatches_ok w v ops h tk A hq

end Go.Proofs.Ytlghadoejmnllaa
