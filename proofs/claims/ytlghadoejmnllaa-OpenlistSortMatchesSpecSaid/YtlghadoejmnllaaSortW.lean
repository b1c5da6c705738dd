/- OpenlistSortMatchesSpec: the walk. -/
import Derived.Test.YtlghadoejmnllaaLawSort
import Derived.Test.YtlghadoejmnllaaEx
namespace Go.Proofs.Ytlghadoejmnllaa
open Go.RowKit

theorem keysQ_none_len {keys : List Int} (h : keysQ keys = none) : keys.length ≤ 60 := by
  unfold keysQ at h; split at h
  · cases h
  · omega
theorem keysFrom_ne {keys : List Int} : ∀ {n : Int} {c i : Int}, keysFrom keys n = some (c, i) → c ≠ 0 := by
  induction keys with
  | nil => intro n c i h; cases h
  | cons k r ih =>
    intro n c i h
    rw [keysFrom] at h
    split at h
    · cases h; decide
    · exact ih h
theorem keysQ_ne {keys : List Int} {c i : Int} (h : keysQ keys = some (c, i)) : c ≠ 0 := by
  unfold keysQ at h
  split at h
  · cases h; decide
  · exact keysFrom_ne h

theorem sortMatches_err (w : World) (v : Value) (keys : List Int) (h : Ints w v keys) (c n : Int) (hq : keysQ keys = some (c, n)) :
    Calls Try.prog 4 #[v] w fun e w' => e = .returned (.bool true) ∧ Keeps (fun _ => False) w w' := by
  have HI := Lib.hid h
  have hv : keysV keys = (c, n) := by unfold keysV; rw [hq]; rfl
  have hs : sortQ keys = .error (c, n) := by unfold sortQ; rw [hq]
  have hc := keysQ_ne hq
  have HV := Lib.hid hv; have HS := Lib.hid hs
  have hc2 : (c == 0) = false := by simpa using hc
  clear h hv hs hq
  go_enter Try.func4, Try.ntmps4
  go_wp2_with fail
  refine (Sort_any _ _ keys HI.out).mono ?_
  rintro e w1 ⟨hk, hr⟩
  rw [HS.out] at hr
  subst hr
  have HK := Lib.hid hk
  clear hk
  go_wp2_with fail
  refine (example_any _).mono ?_
  rintro e w2 ⟨rfl, hk⟩
  have b1 : w2.cell? ⟨w1.heap.size, 0, none⟩ = some (.int .i64 c) := hk.cell ((cell_of_blk (heap_alloc_new w1 _)).trans rfl) (fun h => h)
  have b2 : w2.cell? ⟨w1.heap.size, 1, none⟩ = some (.int .i64 n) := hk.cell ((cell_of_blk (heap_alloc_new w1 _)).trans rfl) (fun h => h)
  have K2 := Lib.hid ((HK.out.alloc _).trans hk)
  have l1 : w1.heap.size < w2.heap.size := by have := hk.size; simp at this; omega
  clear hk
  go_wp2_with fail
  refine (KeysFault_any _ _ keys (HI.out.keeps0 K2.out)).mono ?_
  rintro e w3 ⟨rfl, hk⟩
  rw [HV.out]
  have K3 := Lib.hid (K2.out.trans hk)
  have c1 : w3.cell? ⟨w1.heap.size, 0, none⟩ = some (.int .i64 c) := hk.cell b1 (fun h => h)
  have c2 : w3.cell? ⟨w1.heap.size, 1, none⟩ = some (.int .i64 n) := hk.cell b2 (fun h => h)
  have l2 : w2.heap.size ≤ w3.heap.size := hk.size
  have l3 : w1.heap.size < w3.heap.size := by omega
  clear b1 b2 hk
  go_wp2_with fail
  go_ret
  exact ⟨rfl, K3.out.alloc _⟩

theorem sortMatches_ok (w : World) (v : Value) (keys : List Int) (h : Ints w v keys) (hq : keysQ keys = none) :
    Calls Try.prog 4 #[v] w fun e w' => e = .returned (.bool true) ∧ Keeps (fun _ => False) w w' := by
  have HI := Lib.hid h
  have hv : keysV keys = (0, 0) := by unfold keysV; rw [hq]; rfl
  have hs : sortQ keys = .ok (drainA (keysA keys 0).length (keysA keys 0)) := by unfold sortQ; rw [hq]
  rw [length_keysA, ← fill_drain] at hs
  have hl := keysQ_none_len hq
  have HV := Lib.hid hv; have HS := Lib.hid hs
  have hb : (fillR keys keys.length == fillR keys keys.length) = true := by simp
  have HB := Lib.hid hb
  clear h hv hs hq hb
  go_enter Try.func4, Try.ntmps4
  go_wp2_with fail
  refine (Sort_any _ _ keys HI.out).mono ?_
  rintro e w1 ⟨hk, hr⟩
  rw [HS.out] at hr
  obtain ⟨u, rfl, ho⟩ := hr
  have HK := Lib.hid hk
  have HO := Lib.hid ho
  clear hk ho
  go_wp2_with fail
  refine (example_any _).mono ?_
  rintro e w2 ⟨rfl, hk⟩
  have b1 : w2.cell? ⟨w1.heap.size, 0, none⟩ = some (.int .i64 0) := hk.cell ((cell_of_blk (heap_alloc_new w1 _)).trans rfl) (fun h => h)
  have K2 := Lib.hid (((Keeps.refl _ w1).alloc _).trans hk)
  have l1 : w1.heap.size < w2.heap.size := by have := hk.size; simp at this; omega
  clear hk
  go_wp2_with fail
  refine (KeysFault_any _ _ keys (HI.out.keeps0 (HK.out.trans K2.out))).mono ?_
  rintro e w3 ⟨rfl, hk⟩
  rw [HV.out]
  have K3 := Lib.hid (K2.out.trans hk)
  have c1 : w3.cell? ⟨w1.heap.size, 0, none⟩ = some (.int .i64 0) := hk.cell b1 (fun h => h)
  have l2 : w2.heap.size ≤ w3.heap.size := hk.size
  have l3 : w1.heap.size < w3.heap.size := by omega
  clear b1 hk
  go_wp2_with fail
  refine (Positions_any _ _ keys (HI.out.keeps0 ((HK.out.trans K3.out).alloc _)) hl).mono ?_
  rintro e w4 ⟨v4, rfl, ho4, hk⟩
  have K4 := Lib.hid ((K3.out.alloc _).trans hk)
  have HA := Lib.hid ((Ints.of_own (l := fillR keys keys.length) HO.out).keeps0 K4.out)
  have HB4 := Lib.hid (Ints.of_own (l := fillR keys keys.length) (by rw [length_fillR]; exact ho4))
  clear hk ho4
  go_wp2_with fail
  refine (ints_any _ _ _ _ _ HA.out HB4.out).mono ?_
  rintro e w5 ⟨rfl, hk⟩
  rw [HB.out]
  have K5 := Lib.hid (HK.out.trans (K4.out.trans hk))
  clear hk
  go_wp2_with fail
  go_ret
  exact ⟨rfl, K5.out⟩

theorem sortMatches_any (w : World) (v : Value) (keys : List Int) (h : Ints w v keys) :
    Calls Try.prog 4 #[v] w fun e w' => e = .returned (.bool true) ∧ Keeps (fun _ => False) w w' := by
  cases hq : keysQ keys with
  | none => exact sortMatches_ok w v keys h hq
  | some p => obtain ⟨c, n⟩ := p; exact sortMatches_err w v keys h c n hq

end Go.Proofs.Ytlghadoejmnllaa
