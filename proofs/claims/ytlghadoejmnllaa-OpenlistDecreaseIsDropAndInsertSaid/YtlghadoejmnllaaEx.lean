/- The example of the open list's laws. -/
import Derived.Test.YtlghadoejmnllaaPlayD
import Derived.Test.YtlghadoejmnllaaRefA
namespace Go.Proofs.Ytlghadoejmnllaa
open Go.RowKit

def exOps : List QOp := [⟨1, 4, 9⟩, ⟨1, 7, 9⟩, ⟨2, 4, 8⟩, ⟨3, 0, 0⟩]
theorem exTaken : takenQ exOps = .ok [4] := by rfl
theorem exRest : restQ exOps = .ok [7] := by rfl
theorem exSort : sortQ [5, 2, 5] = .ok [1, 0, 2] := by rfl

theorem Sl.of_blk {w : World} {b : Nat} {xs : Array Value} {T : TypeId} (h : w.heap[b]? = some (.cells xs T (0, 0))) (n cap : Nat) (hn : n ≤ maxLen) : Sl w (.slice (some ⟨b, 0, none⟩) n cap) n xs.toList :=
  ⟨_, _, rfl, hn, fun _ => ⟨b, 0, rfl, fun j x hj => by rw [Nat.zero_add, cell_of_blk h]; simpa using hj⟩⟩

set_option maxHeartbeats 1000000 in
theorem example_any (w : World) : Calls Try.prog 11 #[] w fun e w' => e = .returned (.bool true) ∧ Keeps (fun _ => False) w w' := by
  go_enter Try.func11, Try.ntmps11
  go_wp2_with fail
  refine (Play_any _ _ exOps (Sl.of_blk (heap_alloc_new w _) 4 4 (by decide))).mono ?_
  rintro e w1 ⟨hk, hr⟩
  rw [exTaken] at hr
  obtain ⟨va, rfl, ho⟩ := hr
  have HK := Lib.hid hk; have HO := Lib.hid ho
  clear hk ho
  go_wp2_with fail
  refine (Rest_any _ _ exOps ((Sl.of_blk (heap_alloc_new w _) 4 4 (by decide)).keeps0 (HK.out.trans ((Keeps.refl _ _).alloc _)))).mono ?_
  rintro e w2 ⟨hk, hr⟩
  rw [exRest] at hr
  obtain ⟨vb, rfl, ho⟩ := hr
  have HK2 := Lib.hid hk; have HO2 := Lib.hid ho
  have l1 : w1.heap.size < w2.heap.size := by have := hk.size; simp at this; omega
  clear hk ho
  go_wp2_with fail
  refine (Sort_any _ _ [5, 2, 5] (Sl.of_blk (by have := heap_alloc_new (w2.alloc (.cells #[.int .i64 0, .int .i64 0] 25)) (.cells #[.int .i64 5, .int .i64 2, .int .i64 5] 3); rw [World.size_alloc] at this; exact this) 3 3 (by decide))).mono ?_
  rintro e w3 ⟨hk, hr⟩
  rw [exSort] at hr
  obtain ⟨vc, rfl, ho⟩ := hr
  have l2 : w2.heap.size < w3.heap.size := by have := hk.size; simp at this; omega
  have KA : Keeps (fun _ => False) w1 w3 := (((((Keeps.refl _ w1).alloc _).trans HK2.out).alloc _).alloc _).trans hk
  have KB : Keeps (fun _ => False) w2 w3 := (((Keeps.refl _ w2).alloc _).alloc _).trans hk
  have HA := Lib.hid ((Ints.of_own HO.out).keeps0 KA)
  have HB := Lib.hid ((Ints.of_own HO2.out).keeps0 KB)
  have HC := Lib.hid (Ints.of_own ho)
  have c1 : w3.cell? ⟨w1.heap.size, 0, none⟩ = some (.int .i64 0) := ((((HK2.out.trans ((Keeps.refl _ _).alloc _))).alloc _).trans hk).cell ((cell_of_blk (heap_alloc_new w1 _)).trans rfl) (fun h => h)
  have c2 : w3.cell? ⟨w2.heap.size, 0, none⟩ = some (.int .i64 0) := (((Keeps.refl _ _).alloc _).trans hk).cell ((cell_of_blk (heap_alloc_new w2 _)).trans rfl) (fun h => h)
  have KW := Lib.hid ((((Keeps.refl _ w).alloc _).trans HK.out).trans KA)
  have l3 : w1.heap.size < w3.heap.size := by omega
  have HK3 := Lib.hid hk; have HO3 := Lib.hid ho
  clear hk ho
  go_wp2_with fail
  have n3 : ∀ a c, ((w3.alloc (.cells #[.int .i64 0, .int .i64 0] 25)).alloc (.cells a c)).heap[w3.heap.size + 1]? = some (.cells a c (0, 0)) := fun a c => by have := heap_alloc_new (w3.alloc (.cells #[.int .i64 0, .int .i64 0] 25)) (.cells a c); rw [World.size_alloc] at this; exact this
  have t1 : (([4] : List Int) == [4]) = true := rfl
  have t2 : (([7] : List Int) == [7]) = true := rfl
  have t3 : (([1, 0, 2] : List Int) == [1, 0, 2]) = true := rfl
  have T1 := Lib.hid t1; have T2 := Lib.hid t2; have T3 := Lib.hid t3
  refine (ints_any _ _ _ [4] [4] (HA.out.keeps0 (((Keeps.refl _ _).alloc _).alloc _)) (Sl.of_blk (n3 _ _) 1 1 (by decide))).mono ?_
  rintro e w4 ⟨rfl, hk⟩
  rw [T1.out]
  have K4 := Lib.hid ((((Keeps.refl _ _).alloc _).alloc _).trans hk)
  clear c1 c2 n3 hk KA KB t1 t2 t3
  go_wp2_with fail
  refine (ints_any _ _ _ [7] [7] (HB.out.keeps0 (K4.out.alloc _)) (Sl.of_blk (heap_alloc_new w4 _) 1 1 (by decide))).mono ?_
  rintro e w5 ⟨rfl, hk⟩
  rw [T2.out]
  have K5 := Lib.hid ((K4.out.alloc _).trans hk)
  clear hk
  go_wp2_with fail
  refine (ints_any _ _ _ [1, 0, 2] [1, 0, 2] (HC.out.keeps0 (K5.out.alloc _)) (Sl.of_blk (heap_alloc_new w5 _) 3 3 (by decide))).mono ?_
  rintro e w6 ⟨rfl, hk⟩
  rw [T3.out]
  have K6 := Lib.hid (KW.out.trans ((K5.out.alloc _).trans hk))
  clear hk
  go_wp2_with fail
  go_ret
  exact ⟨rfl, K6.out⟩

end Go.Proofs.Ytlghadoejmnllaa
