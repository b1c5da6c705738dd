/- novelty's example. -/
import Derived.Test.YtcfcmmajlkkabaaNWidth
import Derived.Test.YtcfcmmajlkkabaaNewW
import Derived.Test.YtcfcmmajlkkabaaSmall2
import Derived.Test.YtcfcmmajlkkabaaExB
namespace Go.Proofs.Ytcfcmmajlkkabaa
open Go.RowKit

theorem stepT_nov : NovRes (accW (wd stepT.goal)) (covW 0) (wordsOf stepT.ops) (wd stepT.init) (some [0]) 1 :=
  NovRes.found (ops := wordsOf stepT.ops) 0 ⟨0, 0, 0, []⟩ ⟨1, 0, 0, [0]⟩ (by decide) (fun j e hj => absurd hj (Nat.not_lt_zero _)) rfl (by rfl)

theorem stepT_new : newB stepT [[]] [0] 1 = true ∧ newF stepT [[]] [0] 1 = (0, 0) := by decide

theorem Lists.nil1 {w : World} {b : Nat} {T : TypeId} (h : w.heap[b]? = some (.cells #[.slice none 0 0] T (0, 0))) : Lists w (.slice (some ⟨b, 0, none⟩) 1 1) [[]] := by
  refine ⟨_, 1, rfl, by unfold maxLen; simp, fun _ => ⟨b, 0, rfl, fun i l hl => ?_⟩⟩
  cases i with
  | zero =>
    simp at hl; subst hl
    refine ⟨.slice none 0 0, ?_, Ints.nil _⟩
    rw [cell_of_blk h]; rfl
  | succ i => simp at hl

theorem nplanStep_any (w : World) (vi vg vo : Value) (h : TaskAt w vi vg vo stepT) :
    Calls Try.prog 34 #[.agg #[.int .i64 1, vi, vg, vo], .int .i64 0] w fun e w' => ∃ v, e = .returned (.tuple #[resV true v 3 1, fltV 0 0]) ∧ Ints w' v [0] ∧ Keeps (fun _ => False) w w' := by
  refine (nplan_any w vi vg vo stepT 0 h).mono ?_
  rintro e w' ⟨hk, fnd, vp, lp, c, n, fc, fi, rfl, hi, hr⟩
  have hf : nplanF stepT 0 = (0, 0) := by
    unfold nplanF
    rw [stepT_ok, stepT_reached]; decide
  rcases hr with ⟨h1, h2, _⟩ | ⟨_, _, _, _, l, o, m, h1, h2⟩
  · rw [hf] at h1; cases h1; exact absurd rfl h2
  · obtain ⟨rfl, rfl⟩ := h2.res.unique stepT_nov
    have h3 := h2.fault
    have h4 : ((0 : Int), (0 : Int)) = (fc, fi) := by rw [← h3]; decide
    cases h4
    obtain ⟨rfl, rfl, rfl, rfl⟩ := h2.good rfl
    exact ⟨vp, rfl, hi, hk⟩

theorem widthStep_any (w : World) (vi vg vo : Value) (h : TaskAt w vi vg vo stepT) :
    Calls Try.prog 38 #[.agg #[.int .i64 1, vi, vg, vo]] w fun e w' => e = .returned (.tuple #[.int .i64 0, .bool true, fltV 0 0]) ∧ Keeps (fun _ => False) w w' := by
  refine (width_any w vi vg vo stepT h).mono ?_
  rintro e w' ⟨hk, n, ok, c, i, rfl, hr⟩
  have hf : expF stepT = (0, 0) := by
    unfold expF
    rw [stepT_ok, stepT_reached]; decide
  have nomiss : ¬ widthMiss stepT 0 := by
    rintro ⟨m, hm⟩
    have := (hm.unique stepT_nov).1
    cases this
  rcases hr with ⟨h1, h2, _⟩ | ⟨_, rfl, rfl, _, l, _, ⟨k, hk4, rfl, rfl, _, hj⟩ | ⟨_, _, hj⟩⟩
  · rw [hf] at h1; cases h1; exact absurd rfl h2
  · have : k = 0 := by
      rcases Nat.eq_zero_or_pos k with h | h
      · exact h
      · exact absurd (hj 0 h) nomiss
    subst this
    exact ⟨rfl, hk⟩
  · exact absurd (hj 0 (by omega)) nomiss

set_option maxRecDepth 100000 in
set_option maxHeartbeats 2000000 in
theorem noveltyExample_any (w : World) : Calls Try.prog 33 #[] w fun e w' => e = .returned (.bool true) ∧ Keeps (fun _ => False) w w' := by
  go_enter Try.func33, Try.ntmps33
  go_wp2_with fail
  refine (step_any _).mono ?_; rintro e w1 ⟨vi, vg, vo, rfl, ht, hk⟩
  have HT := Lib.hid ht; have K1 := Lib.hid hk
  clear ht hk
  go_wp2_with fail
  refine (nplanStep_any _ _ _ _ HT.out).mono ?_; rintro e w2 ⟨vp, rfl, hp, hk⟩
  obtain ⟨ap, cp, hvp, _⟩ := hp.form
  subst hvp
  have HP := Lib.hid hp; have K2 := Lib.hid (K1.out.trans hk)
  clear hp hk HT
  simp only [resV, fltV]
  have HRB := heap_alloc_new w2 (.cells #[.bool true, .slice ap [(0 : Int)].length cp, .int .i64 3, .int .i64 1] 52)
  have HFB := heap_alloc_new (w2.alloc (.cells #[.bool true, .slice ap [(0 : Int)].length cp, .int .i64 3, .int .i64 1] 52)) (.cells #[.int .i64 0, .int .i64 0] 29)
  have KA := ((Keeps.refl (fun _ => False) w2).alloc (.cells #[.bool true, .slice ap [(0 : Int)].length cp, .int .i64 3, .int .i64 1] 52)).alloc (.cells #[.int .i64 0, .int .i64 0] 29)
  rw [World.size_alloc] at HFB
  have HR3 := Lib.hid (((Keeps.refl (fun _ => False) _).alloc (.cells #[.int .i64 0, .int .i64 0] 29)).heap HRB (fun h => h))
  have HF3 := Lib.hid HFB
  have K3 := Lib.hid (K2.out.trans KA); have HP3 := Lib.hid (HP.out.keeps0 KA)
  clear KA HRB HFB
  go_upto_region 2 with fail
  generalize (w2.alloc (.cells #[.bool true, .slice ap [(0 : Int)].length cp, .int .i64 3, .int .i64 1] 52)).alloc (.cells #[.int .i64 0, .int .i64 0] 29) = w3 at HR3 HF3 K3 HP3 ⊢
  go_wp2_with fail
  refine (step_any _).mono ?_; rintro e w4 ⟨vi2, vg2, vo2, rfl, ht, hk⟩
  have HT4 := Lib.hid ht; have K4 := Lib.hid (K3.out.trans hk); have HR4 := Lib.hid (hk.heap HR3.out (fun h => h)); have HF4 := Lib.hid (hk.heap HF3.out (fun h => h)); have HP4 := Lib.hid (HP3.out.keeps0 hk)
  clear ht hk HR3 HF3 K3 HP3
  go_wp2_with fail
  refine (widthStep_any _ _ _ _ HT4.out).mono ?_; rintro e w5 ⟨rfl, hk⟩
  have KA := hk.alloc (.cells #[.int .i64 0, .int .i64 0] 29)
  have HF6 := Lib.hid (heap_alloc_new w5 (.cells #[.int .i64 0, .int .i64 0] 29))
  have K6 := Lib.hid (K4.out.trans KA); have HR6 := Lib.hid (KA.heap HR4.out (fun h => h)); have HF26 := Lib.hid (KA.heap HF4.out (fun h => h)); have HP6 := Lib.hid (HP4.out.keeps0 KA)
  clear hk KA HT4 K4 HR4 HF4 HP4
  simp only [fltV]
  go_upto_region 3 with fail
  generalize w5.alloc (.cells #[.int .i64 0, .int .i64 0] 29) = w6 at HF6 K6 HR6 HF26 HP6 ⊢
  generalize w5.heap.size = b5 at HF6 ⊢
  go_wp2_with fail
  refine (step_any _).mono ?_; rintro e w7 ⟨vi3, vg3, vo3, rfl, ht, hk⟩
  have KA := ((Keeps.refl (fun _ => False) w7).alloc (.cells #[.slice none 0 0] 22)).alloc (.cells #[.int .i64 0] 3)
  have KB := (Keeps.refl (fun _ => False) (w7.alloc (.cells #[.slice none 0 0] 22))).alloc (.cells #[.int .i64 0] 3)
  have HL := Lib.hid (Lists.nil1 (KB.heap (heap_alloc_new w7 (.cells #[.slice none 0 0] 22)) (fun h => h)))
  have h8 := Ints.one (x := 0) (heap_alloc_new (w7.alloc (.cells #[.slice none 0 0] 22)) (.cells #[.int .i64 0] 3))
  rw [World.size_alloc] at h8
  have HS := Lib.hid h8
  have HT8 := Lib.hid (ht.keeps0 KA); have K8 := Lib.hid (K6.out.trans (hk.trans KA)); have HR8 := Lib.hid ((hk.trans KA).heap HR6.out (fun h => h)); have HF28 := Lib.hid ((hk.trans KA).heap HF26.out (fun h => h)); have HF8 := Lib.hid ((hk.trans KA).heap HF6.out (fun h => h)); have HP8 := Lib.hid (HP6.out.keeps0 (hk.trans KA))
  clear ht hk KA KB h8 HF6 K6 HR6 HF26 HP6
  go_wp2_with fail
  refine (new_any' _ _ _ _ _ _ stepT [[]] [0] 1 HT8.out HL.out HS.out).mono ?_; rintro e w9 ⟨rfl, hk⟩
  rw [stepT_new.1, stepT_new.2]
  simp only [fltV]
  have KA := hk.alloc (.cells #[.int .i64 0, .int .i64 0] 29)
  have HF10 := Lib.hid (heap_alloc_new w9 (.cells #[.int .i64 0, .int .i64 0] 29))
  have K10 := Lib.hid (K8.out.trans KA); have HR10 := Lib.hid (KA.heap HR8.out (fun h => h)); have HF210 := Lib.hid (KA.heap HF28.out (fun h => h)); have HF510 := Lib.hid (KA.heap HF8.out (fun h => h)); have HP10 := Lib.hid (HP8.out.keeps0 KA)
  clear hk KA HT8 K8 HR8 HF28 HF8 HP8 HL HS
  go_upto_region 4 with fail
  generalize w9.alloc (.cells #[.int .i64 0, .int .i64 0] 29) = wa at HF10 K10 HR10 HF210 HF510 HP10 ⊢
  generalize w9.heap.size = b9 at HF10 ⊢
  generalize w2.heap.size = b2 at HR10 HF210 ⊢
  have s0 : wa.cell? ⟨b2, 0, none⟩ = some (.bool true) := by rw [cell_of_blk HR10.out]; rfl
  have s1 : wa.cell? ⟨b2, 1, none⟩ = some (.slice ap [(0 : Int)].length cp) := by rw [cell_of_blk HR10.out]; rfl
  have s2 : wa.cell? ⟨b2, 2, none⟩ = some (.int .i64 3) := by rw [cell_of_blk HR10.out]; rfl
  have s3 : wa.cell? ⟨b2, 3, none⟩ = some (.int .i64 1) := by rw [cell_of_blk HR10.out]; rfl
  have hl2 := lt_of_heap HR10.out
  obtain ⟨p0, p1, z0, z1, hl3⟩ := pair_cells HF210.out
  clear z0 z1
  go_wp2_with fail
  refine (isOne_any _ _ _ HP10.out).mono ?_; rintro e wb ⟨rfl, hk⟩
  have K11 := Lib.hid (K10.out.trans hk)
  have HRb := Lib.hid (hk.heap HR10.out (fun h => h)); have HF5b := Lib.hid (hk.heap HF510.out (fun h => h)); have HF7b := Lib.hid (hk.heap HF10.out (fun h => h))
  clear s0 s1 s2 s3 hl2 p0 p1 hl3 hk
  have s3 : wb.cell? ⟨b2, 3, none⟩ = some (.int .i64 1) := by rw [cell_of_blk HRb.out]; rfl
  have hl2 := lt_of_heap HRb.out
  obtain ⟨p0, p1, z0, z1, hl3⟩ := pair_cells HF5b.out
  obtain ⟨q0, q1, y0, y1, hl4⟩ := pair_cells HF7b.out
  clear z0 z1 y0 y1
  go_wp2_with fail
  go_ret
  exact ⟨rfl, K11.out⟩

end Go.Proofs.Ytcfcmmajlkkabaa
