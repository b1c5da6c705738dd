/- The reference: KeysFault, Positions. -/
import Derived.Test.YtlghadoejmnllaaPlayD
import Derived.Test.YtlghadoejmnllaaRefA
namespace Go.Proofs.Ytlghadoejmnllaa
open Go.RowKit

def keysV (keys : List Int) : Int × Int := (keysQ keys).getD (0, 0)

theorem keysFrom_stop {keys : List Int} {n : Nat} {k : Int} (h : keys[n]? = some k) (hb : k < 0 ∨ 1000000 < k) (hq : keysFrom keys 0 = keysFrom (keys.drop n) n) : keysFrom keys 0 = some (3, (n : Int)) := by
  rw [hq, dropI_get h, keysFrom, if_pos hb]

theorem inB_false {k : Int} (h : ¬ (0 ≤ k ∧ k ≤ 1000000)) : inB k 0 1000000 = false := by
  unfold inB
  rw [Bool.and_eq_false_iff]
  by_cases h1 : 0 ≤ k
  · exact .inr (decide_eq_false (fun h2 => h ⟨h1, h2⟩))
  · exact .inl (decide_eq_false h1)
theorem inB_true {k lo hi : Int} (h1 : lo ≤ k) (h2 : k ≤ hi) : inB k lo hi = true := by
  unfold inB; rw [decide_eq_true h1, decide_eq_true h2]; rfl

theorem KeysFault_any (w : World) (v : Value) (keys : List Int) (h : Ints w v keys) :
    Calls Try.prog 14 #[v] w fun e w' => e = .returned (.agg #[.int .i64 (keysV keys).1, .int .i64 (keysV keys).2]) ∧ Keeps (fun _ => False) w w' := by
  obtain ⟨ao, cap, hv, hm⟩ := h.form
  have HC := Lib.hid (h.cell hv)
  subst hv
  clear h
  have HB : Hid (∀ w1 c n, Keeps (fun _ => False) (w.alloc (.cells #[.int .i64 0, .int .i64 0] 25)) w1 → ((w1.setCell ⟨w.heap.size, 0, none⟩ c).setCell ⟨w.heap.size, 1, none⟩ n).heap[w.heap.size]? = some (.cells #[c, n] 25 (0, 0)) ∧ Keeps (fun _ => False) w ((w1.setCell ⟨w.heap.size, 0, none⟩ c).setCell ⟨w.heap.size, 1, none⟩ n)) := fun w1 c n hk =>
    ⟨pair_set (hk.heap (heap_alloc_new w _) (fun h => h)) c n, (((Keeps.refl (fun _ => False) w).alloc _).trans hk).trans' (keeps_pair w.heap.size c n) (fun i hi => .inr (by omega))⟩
  have HW : Hid (∀ w1, Keeps (fun _ => False) (w.alloc (.cells #[.int .i64 0, .int .i64 0] 25)) w1 → w1.heap[w.heap.size]? = some (.cells #[.int .i64 0, .int .i64 0] 25 (0, 0))) := fun w1 hk => hk.heap (heap_alloc_new w _) (fun h => h)
  have HA : Hid (∀ o, Keeps (fun _ => False) w (w.alloc o)) := fun o => (Keeps.refl _ _).alloc o
  go_enter Try.func14, Try.ntmps14
  by_cases h60 : 60 < keys.length
  · have HP : Hid (keysV keys = (2, -1)) := by unfold Hid keysV keysQ; rw [if_pos h60]; rfl
    go_wp2_with fail
    refine (at_any _ 2 (-1)).mono ?_; rintro e w1 ⟨rfl, hk⟩
    have HK := Lib.hid hk
    have b1 := HW.out _ hk
    have c0 : w1.cell? ⟨w.heap.size, 0, none⟩ = some (.int .i64 0) := by rw [cell_of_blk b1]; rfl
    have c1 : w1.cell? ⟨w.heap.size, 1, none⟩ = some (.int .i64 0) := by rw [cell_of_blk b1]; rfl
    have f0 : w1.frozen? ⟨w.heap.size, 0, none⟩ = false := frozen_of_blk b1
    have f1 : w1.frozen? ⟨w.heap.size, 1, none⟩ = false := frozen_of_blk b1
    have l1 := lt_of_heap b1
    clear hk b1
    go_wp2_with fail
    refine bodyPost_ret (results_cell_row rfl _ _ w.heap.size 25 _ (0, 0) _ rfl (HB.out w1 _ _ HK.out).1 Try.underlying25 rfl (by kernel_rfl)) rfl ?_
    exact ⟨by rw [HP.out], (HB.out w1 _ _ HK.out).2⟩
  · have HQ : Hid (keysQ keys = keysFrom keys 0) := by unfold Hid keysQ; rw [if_neg h60]
    go_wp2_with fail
    go_loop [3] (fun i => ∃ k : Nat, k ≤ keys.length ∧ i = .int .i64 (k : Int) ∧ keysFrom keys 0 = keysFrom (keys.drop k) (k : Int)) (fun i => keys.length - (intOf i).toNat)
    case atStart => exact ⟨0, Nat.zero_le _, rfl, rfl⟩
    case round =>
      obtain ⟨n, hn, rfl, ht⟩ := hrel
      have HT := Lib.hid ht; clear ht
      by_cases hlt : n < keys.length
      · obtain ⟨b, off, rfl, hcell⟩ := HC.out (by omega)
        obtain ⟨k, ho⟩ : ∃ k, keys[n]? = some k := ⟨_, List.getElem?_eq_getElem hlt⟩
        have p1 := (HA.out (.cells #[.int .i64 0, .int .i64 0] 25)).cell (hcell n k ho) (fun h => h)
        have HO := Lib.hid ho
        clear ho hcell
        go_wp2_with fail
        refine (in_any _ _ _ _).mono ?_; rintro e w1 ⟨rfl, rfl⟩
        by_cases hb : 0 ≤ k ∧ k ≤ 1000000
        · have hin := inB_true hb.1 hb.2
          have HN : Hid (keysFrom keys 0 = keysFrom (keys.drop (n + 1)) ((n + 1 : Nat) : Int)) := by
            unfold Hid; rw [HT.out, dropI_get HO.out, keysFrom, if_neg (by omega)]; rfl
          rw [hin]
          clear hb hin
          go_wp2_with fail
          go_round
          case rel => exact ⟨n + 1, by omega, by go_num, HN.out⟩
          case measure => simp [intOf]; omega
        · have hin := inB_false hb
          have HP : Hid (keysV keys = (3, (n : Int))) := by unfold Hid keysV; rw [HQ.out, keysFrom_stop HO.out (by omega) HT.out]; rfl
          rw [hin]
          clear hb hin
          go_wp2_with fail
          refine (at_any _ 3 (n : Int)).mono ?_; rintro e w1 ⟨rfl, hk⟩
          have HK := Lib.hid hk
          have b1 := HW.out _ hk
          have c0 : w1.cell? ⟨w.heap.size, 0, none⟩ = some (.int .i64 0) := by rw [cell_of_blk b1]; rfl
          have c1 : w1.cell? ⟨w.heap.size, 1, none⟩ = some (.int .i64 0) := by rw [cell_of_blk b1]; rfl
          have f0 : w1.frozen? ⟨w.heap.size, 0, none⟩ = false := frozen_of_blk b1
          have f1 : w1.frozen? ⟨w.heap.size, 1, none⟩ = false := frozen_of_blk b1
          have l1 := lt_of_heap b1
          clear hk b1
          go_wp2_with fail
          refine bodyPost_ret (results_cell_row rfl _ _ w.heap.size 25 _ (0, 0) _ rfl (HB.out w1 _ _ HK.out).1 Try.underlying25 rfl (by kernel_rfl)) rfl ?_
          exact ⟨by rw [HP.out], (HB.out w1 _ _ HK.out).2⟩
      · have HP : Hid (keysV keys = (0, 0)) := by
          unfold Hid keysV; rw [HQ.out, HT.out, List.drop_of_length_le (by omega)]; rfl
        go_wp2_with fail
        refine bodyPost_ret (results_cell_row rfl _ _ w.heap.size 25 _ (0, 0) _ rfl (heap_alloc_new w _) Try.underlying25 rfl (by kernel_rfl)) rfl ?_
        exact ⟨by rw [HP.out], HA.out _⟩

end Go.Proofs.Ytlghadoejmnllaa
