/- NoveltyGrowsWithWidth: THE ROW, for every input. -/
import Derived.Test.YtcfcmmajlkkabaaRowN
import Derived.Test.YtcfcmmajlkkabaaNGrowL
namespace Go.Proofs.Ytcfcmmajlkkabaa
open Go.ChangeShapes Go.WideShapes Go.ChangeAt Go.RowKit

set_option maxHeartbeats 800000 in
set_option maxRecDepth 100000 in
theorem noveltyGrowsWithWidth_lifted (os : Os) (started : os.Started) (H : Type) (enc : TypeId × Value → H) :
    ReturnsInHanded {} Try.checked os 9 .any (Rows.noveltyGrowsWithWidthSpec.pre6 enc Try.prog Try.f9 Rows.noveltyGrowsWithWidthRow.domain false) (Rows.noveltyGrowsWithWidthSpec.post enc Try.prog Try.f9 false true false false) := by
  refine returnsInHanded_of_change (C := Try.checked) godebug_own started (by kernel_rfl) Try.func9
    (ChangeSpec.witness6 (enc := enc) (C := Try.checked) false ⟨#[], #[.agg #[.int .i64 0, .slice none 0 0, .slice none 0 0, .slice none 0 0], .slice none 0 0, .slice none 0 0, .int .i64 0, .int .i64 0, .int .i64 0], []⟩ 8 (by kernel_rfl) (by kernel_rfl) (by kernel_rfl) (by kernel_rfl)) ?_
  intro W base args ds gs before hval0 hW _ _
  have hval : ∀ (j : Nat) t v, Try.f9.params[j]? = some t → args[j]? = some v → Value.okWide Try.prog W .any base t v := hval0
  have hW' := hW
  obtain ⟨p, q, hA0, hV, rfl, _, _⟩ := hW
  have hA : DataW.TrodAll enc Try.prog W 0 (fun _ => true) true Try.f9.params.toList args.toList ds p := hA0
  rw [Try.params9] at hA hval
  obtain ⟨v0, v1, v2, v3, v4, v5, d0, d1, d2, d3, d4, d5, p0, p1, p2, p3, p4, p5, rfl, rfl, rfl, h0, h1, h2, h3, h4, h5⟩ := trodAll_sixR hA
  obtain ⟨rfl, rfl⟩ := trodVars_none hV
  have hok0 := hval 0 25 v0 rfl rfl
  have hok1 := hval 1 33 v1 rfl rfl
  have hok2 := hval 2 22 v2 rfl rfl
  have hok3 := hval 3 3 v3 rfl rfl
  have hok4 := hval 4 3 v4 rfl rfl
  have hok5 := hval 5 3 v5 rfl rfl
  clear hA0 hval0
  simp only [List.append_nil] at hW'
  obtain ⟨t0, vi0, vg0, vo0, rfl, hT0⟩ := opened_task h0 hok0
  obtain ⟨l1, hL1, hR1⟩ := opened_lists h1 (okWide_slice Try.underlying33 hok1)
  obtain ⟨l2, hI2⟩ := opened_ints h2 (okWide_slice Try.underlying22 hok2)
  obtain ⟨x3, rfl⟩ := okWide_int Try.underlying3 hok3
  obtain ⟨x4, rfl⟩ := okWide_int Try.underlying3 hok4
  obtain ⟨x5, rfl⟩ := okWide_int Try.underlying3 hok5
  have hlt0 : ∀ x ∈ p0, x.block < W.heap.size := fun x hx => by exact hW'.lt x (by simp [hx])
  have hlt1 : ∀ x ∈ p1, x.block < W.heap.size := fun x hx => by exact hW'.lt x (by simp [hx])
  have hlt2 : ∀ x ∈ p2, x.block < W.heap.size := fun x hx => by exact hW'.lt x (by simp [hx])
  have hlt3 : ∀ x ∈ p3, x.block < W.heap.size := fun x hx => by exact hW'.lt x (by simp [hx])
  have hlt4 : ∀ x ∈ p4, x.block < W.heap.size := fun x hx => by exact hW'.lt x (by simp [hx])
  have hlt5 : ∀ x ∈ p5, x.block < W.heap.size := fun x hx => by exact hW'.lt x (by simp [hx])
  refine (ngrowLaw_any W vi0 vg0 vo0 v1 v2 t0 l1 l2 x3 x4 x5 hT0 hL1 hR1 hI2).mono fun e W' ⟨he, hk⟩ => ?_
  subst he
  have hB := hk.below
  have harg0 : DataW.Trod enc Try.prog W' 0 (fun b => decide (b < W.heap.size)) true 25 (.agg #[.int .i64 t0.n, vi0, vg0, vo0]) d0 p0 :=
    Below.trod laidOut (by kernel_rfl) (of_decide_eq_true (by kernel_rfl)) h0 hB hlt0
  have harg1 : DataW.Trod enc Try.prog W' 0 (fun b => decide (b < W.heap.size)) true 33 v1 d1 p1 :=
    Below.trod laidOut (by kernel_rfl) (of_decide_eq_true (by kernel_rfl)) h1 hB hlt1
  have harg2 : DataW.Trod enc Try.prog W' 0 (fun b => decide (b < W.heap.size)) true 22 v2 d2 p2 :=
    Below.trod laidOut (by kernel_rfl) (of_decide_eq_true (by kernel_rfl)) h2 hB hlt2
  have harg3 : DataW.Trod enc Try.prog W' 0 (fun b => decide (b < W.heap.size)) true 3 (.int .i64 x3) d3 p3 :=
    Below.trod laidOut (by kernel_rfl) (of_decide_eq_true (by kernel_rfl)) h3 hB hlt3
  have harg4 : DataW.Trod enc Try.prog W' 0 (fun b => decide (b < W.heap.size)) true 3 (.int .i64 x4) d4 p4 :=
    Below.trod laidOut (by kernel_rfl) (of_decide_eq_true (by kernel_rfl)) h4 hB hlt4
  have harg5 : DataW.Trod enc Try.prog W' 0 (fun b => decide (b < W.heap.size)) true 3 (.int .i64 x5) d5 p5 :=
    Below.trod laidOut (by kernel_rfl) (of_decide_eq_true (by kernel_rfl)) h5 hB hlt5
  exact ⟨_, rfl, _, _, _, [], _, [], hW', trodAll_mk1 (shut_bool Try.underlying4 true), trodAll_mk6 harg0 harg1 harg2 harg3 harg4 harg5, rfl, hB.frame _, fun h => by cases h⟩

theorem noveltyGrowsWithWidth_holds : Rows.NoveltyGrowsWithWidthSaid :=
  OpenClaim.holds_of_wide 9 Try.f9 rfl rfl rfl rfl rfl rfl rfl ⟨rfl, rfl, rfl, rfl, rfl⟩ rfl rfl rfl rfl rfl (by kernel_rfl) Try.func9 (by kernel_rfl)
    (of_decide_eq_true (by kernel_rfl)) (by unfold Func.isWrapper; first | (rw [if_pos (by decide +kernel)]; kernel_rfl) | (rw [if_neg (by decide +kernel)]; exact ⟨rfl, rfl⟩))
    (fun os started H enc _ => noveltyGrowsWithWidth_lifted os started H enc)

#print axioms noveltyGrowsWithWidth_holds
end Go.Proofs.Ytcfcmmajlkkabaa
