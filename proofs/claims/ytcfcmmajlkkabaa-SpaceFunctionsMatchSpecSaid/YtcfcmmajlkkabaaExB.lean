/- The example task of the laws; breadth's example. -/
import Derived.Test.YtcfcmmajlkkabaaSmall
import Derived.Test.YtcfcmmajlkkabaaReachW
namespace Go.Proofs.Ytcfcmmajlkkabaa
open Go.RowKit

def stepT : Tsk := ⟨1, [], [0], [⟨[], [0], [], 3⟩]⟩

theorem Ints.nil (w : World) : Ints w (.slice none 0 0) [] := ⟨none, 0, rfl, by simp, fun h => by simp at h⟩
theorem Ints.one {w : World} {b : Nat} {x : Int} {T : TypeId} (h : w.heap[b]? = some (.cells #[.int .i64 x] T (0, 0))) : Ints w (.slice (some ⟨b, 0, none⟩) 1 1) [x] := by
  refine ⟨_, _, rfl, by simp [maxLen], fun _ => ⟨b, 0, rfl, fun j y hj => ?_⟩⟩
  rw [Nat.zero_add, cell_of_blk h]
  cases j with
  | zero => simpa using hj
  | succ j => simp at hj

set_option maxRecDepth 100000 in
theorem step_any (w : World) : Calls Try.prog 56 #[] w fun e w' => ∃ vi vg vo, e = .returned (.agg #[.int .i64 1, vi, vg, vo]) ∧ TaskAt w' vi vg vo stepT ∧ Keeps (fun _ => False) w w' := by
  go_enter Try.func56, Try.ntmps56
  go_wp2_with fail
  generalize hw1 : w.alloc (Obj.cells #[.int .i64 1, .slice none 0 0, .slice (some ⟨w.heap.size + 1, 0, none⟩) 1 1, .slice (some ⟨w.heap.size + 1 + 1 + 1, 0, none⟩) 1 1] 25) = w1
  have s1 : w1.heap.size = w.heap.size + 1 := by rw [← hw1]; simp
  have k1 : Keeps (fun _ => False) w w1 := by rw [← hw1]; exact (Keeps.refl _ _).alloc _
  have b1 : w1.heap[w.heap.size]? = some (.cells #[.int .i64 1, .slice none 0 0, .slice (some ⟨w.heap.size + 1, 0, none⟩) 1 1, .slice (some ⟨w.heap.size + 1 + 1 + 1, 0, none⟩) 1 1] 25 (0, 0)) := by rw [← hw1]; exact heap_alloc_new _ _
  clear hw1
  have b2 := heap_alloc_new w1 (.cells #[.int .i64 0] 3)
  have k2 := (Keeps.refl (fun _ => False) w1).alloc (.cells #[.int .i64 0] 3)
  have s2 : (w1.alloc (.cells #[.int .i64 0] 3)).heap.size = w1.heap.size + 1 := by simp
  generalize w1.alloc (.cells #[.int .i64 0] 3) = w2 at b2 k2 s2 ⊢
  have b3 := heap_alloc_new w2 (.cells #[.int .i64 0] 3)
  have k3 := (Keeps.refl (fun _ => False) w2).alloc (.cells #[.int .i64 0] 3)
  have s3 : (w2.alloc (.cells #[.int .i64 0] 3)).heap.size = w2.heap.size + 1 := by simp
  generalize w2.alloc (.cells #[.int .i64 0] 3) = w3 at b3 k3 s3 ⊢
  have b4 := heap_alloc_new w3 (.cells #[.slice none 0 0, .slice (some ⟨w.heap.size + 1 + 1, 0, none⟩) 1 1, .slice none 0 0, .int .i64 3] 78)
  have k4 := (Keeps.refl (fun _ => False) w3).alloc (.cells #[.slice none 0 0, .slice (some ⟨w.heap.size + 1 + 1, 0, none⟩) 1 1, .slice none 0 0, .int .i64 3] 78)
  generalize w3.alloc (.cells #[.slice none 0 0, .slice (some ⟨w.heap.size + 1 + 1, 0, none⟩) 1 1, .slice none 0 0, .int .i64 3] 78) = w4 at b4 k4 ⊢
  have k14 := k2.trans (k3.trans k4)
  refine bodyPost_ret (results_cell_row rfl _ _ w.heap.size 25 _ (0, 0) _ rfl (k14.heap b1 (fun h => h)) Try.underlying25 rfl (by kernel_rfl)) rfl ?_
  have e1 : w1.heap.size = w.heap.size + 1 := s1
  have e2 : w2.heap.size = w.heap.size + 1 + 1 := by omega
  have e3 : w3.heap.size = w.heap.size + 1 + 1 + 1 := by omega
  rw [e1] at b2; rw [e2] at b3; rw [e3] at b4
  refine ⟨_, _, _, rfl, ⟨Ints.nil _, Ints.one ((k3.trans k4).heap b2 (fun h => h)), ⟨_, _, rfl, by simp [maxLen, stepT], fun _ => ⟨_, 0, rfl, fun i o ho => ?_⟩⟩⟩, k1.trans k14⟩
  cases i with
  | zero =>
    simp [stepT] at ho; subst ho
    refine ⟨.slice none 0 0, .slice (some ⟨w.heap.size + 1 + 1, 0, none⟩) 1 1, .slice none 0 0, ?_, ?_, ?_, ?_, Ints.nil _, Ints.one (k4.heap b3 (fun h => h)), Ints.nil _⟩
    all_goals (rw [cell_of_blk b4]; rfl)
  | succ i => simp [stepT] at ho

theorem stepT_ok : taskFault stepT = (0, 0) := by decide
theorem stepT_reached : explored stepT = some [0, 1] := reached_of_end (i := 2) (by decide) rfl
theorem stepT_best : Best (wordsOf stepT.ops) (wd stepT.init) (goalB (wd stepT.goal)) (some [0]) := by
  refine ⟨⟨1, by decide, by decide⟩, fun q y hq hy => ?_⟩
  cases q with
  | nil =>
    simp [runOps] at hq; subst hq
    exact absurd hy (by decide)
  | cons a q =>
    cases q with
    | nil =>
      refine .inr ⟨rfl, ?_⟩
      rcases Nat.eq_zero_or_pos a with h | h
      · exact .inr ⟨h.symm, trivial⟩
      · exact .inl h
    | cons b q => exact .inl (by simp)
theorem stepT_best2 : Best (wordsOf stepT.ops) (wd stepT.init) (fun x => x == wd [0]) (some [0]) := by
  refine ⟨⟨1, by decide, by decide⟩, fun q y hq hy => ?_⟩
  cases q with
  | nil =>
    simp [runOps] at hq; subst hq
    exact absurd hy (by decide)
  | cons a q =>
    cases q with
    | nil =>
      refine .inr ⟨rfl, ?_⟩
      rcases Nat.eq_zero_or_pos a with h | h
      · exact .inr ⟨h.symm, trivial⟩
      · exact .inl h
    | cons b q => exact .inl (by simp)

theorem planStep_any (w : World) (vi vg vo : Value) (h : TaskAt w vi vg vo stepT) :
    Calls Try.prog 17 #[.agg #[.int .i64 1, vi, vg, vo]] w fun e w' => ∃ v, e = .returned (.tuple #[v, .bool true, fltV 0 0]) ∧ Ints w' v [0] ∧ Keeps (fun _ => False) w w' := by
  refine (plan_any w vi vg vo stepT h).mono ?_
  rintro e w' ⟨hk, hr⟩
  rcases hr with ⟨h1, _⟩ | ⟨_, h1, _⟩ | ⟨_, l, h1, hw⟩
  · rw [stepT_ok] at h1; exact absurd rfl h1
  · rw [stepT_reached] at h1; cases h1
  · rcases hw with ⟨hb, _⟩ | ⟨p, hb, hp⟩
    · cases hb.unique stepT_best
    · cases hb.unique stepT_best
      rcases hp with ⟨h60, _⟩ | ⟨_, v, he, ho⟩
      · simp at h60
      · exact ⟨v, he, Ints.of_own (l := [0]) ho, hk⟩

theorem reachStep_any (w : World) (vi vg vo vs : Value) (h : TaskAt w vi vg vo stepT) (hs : Ints w vs [0]) :
    Calls Try.prog 25 #[.agg #[.int .i64 1, vi, vg, vo], vs] w fun e w' => ∃ v, e = .returned (.tuple #[v, .bool true, fltV 0 0]) ∧ Ints w' v [0] ∧ Keeps (fun _ => False) w w' := by
  refine (reach_any w vi vg vo vs stepT [0] h hs).mono ?_
  rintro e w' ⟨hk, hr⟩
  rcases hr with ⟨h1, _⟩ | ⟨_, _, h1, _⟩ | ⟨_, _, l, h1, hw⟩
  · exact absurd (by decide) h1
  · rw [stepT_reached] at h1; cases h1
  · rcases hw with ⟨hb, _⟩ | ⟨p, hb, hp⟩
    · cases hb.unique stepT_best2
    · cases hb.unique stepT_best2
      rcases hp with ⟨h60, _⟩ | ⟨_, v, he, ho⟩
      · simp at h60
      · exact ⟨v, he, Ints.of_own (l := [0]) ho, hk⟩

set_option maxRecDepth 100000 in
set_option maxHeartbeats 2000000 in
theorem breadthExample_any (w : World) : Calls Try.prog 15 #[] w fun e w' => e = .returned (.bool true) ∧ Keeps (fun _ => False) w w' := by
  go_enter Try.func15, Try.ntmps15
  go_wp2_with fail
  refine (step_any _).mono ?_; rintro e w1 ⟨vi, vg, vo, rfl, ht, hk⟩
  have HT := Lib.hid ht; have K1 := Lib.hid hk
  clear ht hk
  go_wp2_with fail
  refine (planStep_any _ _ _ _ HT.out).mono ?_; rintro e w2 ⟨vp, rfl, hp, hk⟩
  obtain ⟨ap, cp, hvp, _⟩ := hp.form
  subst hvp
  have HP := Lib.hid hp; have K2 := Lib.hid (K1.out.trans hk)
  clear hp hk HT
  simp only [fltV]
  go_upto_region 2 with fail
  have H3 := Lib.hid (heap_alloc_new w2 (.cells #[.int .i64 0, .int .i64 0] 29))
  have KA := (Keeps.refl (fun _ => False) w2).alloc (.cells #[.int .i64 0, .int .i64 0] 29)
  have K3 := Lib.hid (K2.out.trans KA); have HP3 := Lib.hid (HP.out.keeps0 KA)
  clear KA
  generalize w2.alloc (.cells #[.int .i64 0, .int .i64 0] 29) = w3 at H3 K3 HP3 ⊢
  generalize w2.heap.size = b3 at H3 ⊢
  go_wp2_with fail
  refine (step_any _).mono ?_; rintro e w4 ⟨vi2, vg2, vo2, rfl, ht, hk⟩
  have KA := (Keeps.refl (fun _ => False) w4).alloc (.cells #[.int .i64 0] 3)
  have HT := Lib.hid (ht.keeps0 KA); have K5 := Lib.hid (K3.out.trans (hk.trans KA))
  have HP5 := Lib.hid (HP3.out.keeps0 (hk.trans KA))
  have H5 := Lib.hid ((hk.trans KA).heap H3.out (fun h => h))
  have HS5 := Lib.hid (Ints.one (x := 0) (heap_alloc_new w4 (.cells #[.int .i64 0] 3)))
  clear ht hk KA
  go_wp2_with fail
  refine (reachStep_any _ _ _ _ _ HT.out HS5.out).mono ?_; rintro e w6 ⟨vq, rfl, hq, hk⟩
  obtain ⟨aq, cq, hvq, _⟩ := hq.form
  subst hvq
  have HQ := Lib.hid hq; have K6 := Lib.hid (K5.out.trans hk)
  have HP6 := Lib.hid (HP5.out.keeps0 hk)
  have H6 := Lib.hid (hk.heap H5.out (fun h => h))
  clear hq hk HT HS5
  simp only [fltV]
  go_upto_region 3 with fail
  have H7 := Lib.hid (heap_alloc_new w6 (.cells #[.int .i64 0, .int .i64 0] 29))
  have KA := (Keeps.refl (fun _ => False) w6).alloc (.cells #[.int .i64 0, .int .i64 0] 29)
  have K7 := Lib.hid (K6.out.trans KA); have HP7 := Lib.hid (HP6.out.keeps0 KA); have HQ7 := Lib.hid (HQ.out.keeps0 KA)
  have H37 := Lib.hid (KA.heap H6.out (fun h => h))
  clear KA
  generalize w6.alloc (.cells #[.int .i64 0, .int .i64 0] 29) = w7 at H7 K7 HP7 HQ7 H37 ⊢
  generalize w6.heap.size = b7 at H7 ⊢
  obtain ⟨p0, p1, z0, z1, hl3⟩ := pair_cells H7.out
  obtain ⟨q0, q1, y0, y1, hl4⟩ := pair_cells H37.out
  have KA := (Keeps.refl (fun _ => False) w7).alloc (.cells #[.int .i64 0] 3)
  have HP8 := Lib.hid (HP7.out.keeps0 KA); have HQ8 := Lib.hid (HQ7.out.keeps0 KA); have K8 := Lib.hid (K7.out.trans KA)
  have HS8 := Lib.hid (Ints.one (x := 0) (heap_alloc_new w7 (.cells #[.int .i64 0] 3)))
  clear KA
  go_wp2_with fail
  refine (ints_any _ _ _ _ _ HP8.out HS8.out).mono ?_; rintro e w9 ⟨rfl, hk⟩
  have KA := (Keeps.refl (fun _ => False) w9).alloc (.cells #[.int .i64 0] 3)
  have HQ9 := Lib.hid ((HQ8.out.keeps0 hk).keeps0 KA); have K9 := Lib.hid (K8.out.trans (hk.trans KA))
  have HS9 := Lib.hid (Ints.one (x := 0) (heap_alloc_new w9 (.cells #[.int .i64 0] 3)))
  clear hk KA p0 p1 z0 z1 hl3 q0 q1 y0 y1 hl4
  rw [show (([0] : List Int) == [0]) = true from rfl]
  go_wp2_with fail
  refine (ints_any _ _ _ _ _ HQ9.out HS9.out).mono ?_; rintro e w10 ⟨rfl, hk⟩
  have K10 := Lib.hid (K9.out.trans hk)
  clear hk
  rw [show (([0] : List Int) == [0]) = true from rfl]
  go_wp2_with fail
  go_ret
  exact ⟨rfl, K10.out⟩

end Go.Proofs.Ytcfcmmajlkkabaa
