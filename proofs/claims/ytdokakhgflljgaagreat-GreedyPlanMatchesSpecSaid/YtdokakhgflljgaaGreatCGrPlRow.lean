/- GreedyPlanMatchesSpec: THE ROW, for every input. -/
import Derived.Test.YtdokakhgflljgaaGreatM2
import Derived.Test.YtdokakhgflljgaaGreatM15

namespace Go.Proofs.YtdokakhgflljgaaGreat
open Go.ChangeShapes Go.WideShapes Go.ChangeAt Go.RowKit

set_option maxHeartbeats 800000 in
set_option maxRecDepth 100000 in
theorem greedyPlanMatchesSpec_lifted (os : Os) (started : os.Started) (H : Type) (enc : TypeId × Value → H) :
    ReturnsInHanded {} Tryz.checked os 3 .any (Rows.greedyPlanMatchesSpecSpec.pre6 enc Tryz.prog Tryz.f3 Rows.greedyPlanMatchesSpecRow.domain false) (Rows.greedyPlanMatchesSpecSpec.post enc Tryz.prog Tryz.f3 false true false false) := by
  refine returnsInHanded_of_change (C := Tryz.checked) godebug_own started (by kernel_rfl) Tryz.func3
    (ChangeSpec.witness6 (enc := enc) (C := Tryz.checked) false ⟨#[], #[.agg #[.int .i64 0, .slice none 0 0, .slice none 0 0, .slice none 0 0], .int .i64 0], []⟩ 8 (by kernel_rfl) (by kernel_rfl) (by kernel_rfl) (by kernel_rfl)) ?_
  intro W base args ds gs before hval0 hW _ _
  have hval : ∀ (j : Nat) t v, Tryz.f3.params[j]? = some t → args[j]? = some v → Value.okWide Tryz.prog W .any base t v := hval0
  have hW' := hW
  obtain ⟨p, q, hA0, hV, rfl, _, _⟩ := hW
  have hA : DataW.TrodAll enc Tryz.prog W 0 (fun _ => true) true Tryz.f3.params.toList args.toList ds p := hA0
  rw [Tryz.params3] at hA hval
  obtain ⟨v0, v1, d0, d1, p0, p1, rfl, rfl, rfl, h0, h1⟩ := trodAll_two hA
  obtain ⟨rfl, rfl⟩ := trodVars_none hV
  have hok0 := hval 0 25 v0 rfl rfl
  have hok1 := hval 1 3 v1 rfl rfl
  clear hA0 hval0
  simp only [List.append_nil] at hW'
  obtain ⟨t0, vi0, vg0, vo0, rfl, hT0⟩ := opened_task h0 hok0
  obtain ⟨x1, rfl⟩ := okWide_int Tryz.underlying3 hok1
  have hlt0 : ∀ x ∈ p0, x.block < W.heap.size := fun x hx => by exact hW'.lt x (by simp [hx])
  have hlt1 : ∀ x ∈ p1, x.block < W.heap.size := fun x hx => by exact hW'.lt x (by simp [hx])
  refine (gplanLaw_any W vi0 vg0 vo0 t0 x1 hT0).mono fun e W' ⟨he, hk⟩ => ?_
  subst he
  have hB := hk.below
  have harg0 : DataW.Trod enc Tryz.prog W' 0 (fun b => decide (b < W.heap.size)) true 25 (.agg #[.int .i64 t0.n, vi0, vg0, vo0]) d0 p0 :=
    Below.trod laidOut (by kernel_rfl) (of_decide_eq_true (by kernel_rfl)) h0 hB hlt0
  have harg1 : DataW.Trod enc Tryz.prog W' 0 (fun b => decide (b < W.heap.size)) true 3 (.int .i64 x1) d1 p1 :=
    Below.trod laidOut (by kernel_rfl) (of_decide_eq_true (by kernel_rfl)) h1 hB hlt1
  exact ⟨_, rfl, _, _, _, [], _, [], hW', trodAll_mk1 (shut_bool Tryz.underlying4 true), trodAll_mk2 harg0 harg1, rfl, hB.frame _, fun h => by cases h⟩

theorem and_both {a b : Bool} (h1 : a = true) (h2 : b = true) : (a && b) = true := by rw [h1, h2]; rfl
set_option maxHeartbeats 40000000 in
set_option maxRecDepth 100000 in
theorem greedyPlanMatchesSpec_closed : joinedFacts Tryz.pinned.checked.prog 3 Tryz.f3 Rows.greedyPlanMatchesSpecSpec Rows.greedyPlanMatchesSpecRow = true := by
  unfold joinedFacts
  repeat' (with_reducible refine and_both ?_ ?_)
  all_goals (as_aux_lemma => kernel_rfl)

theorem greedyPlanMatchesSpec_holds : Rows.GreedyPlanMatchesSpecSaid :=
  OpenClaim.holds_of_wide 3 Tryz.f3 rfl rfl rfl rfl rfl rfl rfl ⟨rfl, rfl, rfl, rfl, rfl⟩ rfl rfl rfl rfl rfl (by as_aux_lemma => kernel_rfl) Tryz.func3 greedyPlanMatchesSpec_closed
    (of_decide_eq_true (by as_aux_lemma => kernel_rfl)) (by unfold Func.isWrapper; first | (rw [if_pos (by decide +kernel)]; kernel_rfl) | (rw [if_neg (by decide +kernel)]; exact ⟨rfl, rfl⟩))
    (fun os started H enc _ => greedyPlanMatchesSpec_lifted os started H enc)

#print axioms greedyPlanMatchesSpec_holds
end Go.Proofs.YtdokakhgflljgaaGreat
