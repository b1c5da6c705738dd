/-
  No cell of these rows narrows 'for every input' (looked for: loops, veiled, ifaces, maps, wideKeys, modest, calm, conditions, laid).
  DERIVED. THE GIVEN ROWS OF THIS SEAT. 9 by the template 'for every input the law returns true; each argument reads behind the call as it read before'; 0 by the template 'total and deterministic' (their statements: YtkjmgafnaddhkaaGreatTotals.lean).
  GIVEN WITH THE SEED: the statements are not yours to turn. If you find one false, say at which input.
  Laid BY PROGRAM, IN A SANDBOX (cutbox-rows.mjs): the forced cells as the released guide's own fill.sh prints them over the translation acdf5be244f2c964… (all of the seat's roots in one cut). By AI agents, Wed Nov 11 2026. No macro, syntax, notation, axiom, sorry.
-/
import Derived.Test.YtkjmgafnaddhkaaGreatChecked
import GoSem.Claim
import GoSem.ClaimJoined
import GoSem.ClaimMapViews
import Derived.JoinedTies
import Derived.KernelRfl
namespace Go.Proofs.YtkjmgafnaddhkaaGreat
/- THE CELL 'sum', in the pinned program and in every row, IS THE sha256 OF THE DUMP (.gsa) THAT YtkjmgafnaddhkaaGreatProg.lean LOADS. Nothing in Lean hashes anything: it is a label: what it is worth is what the hold of that sum in a sandbox is worth. -/
noncomputable def Tryz.pinned : Pinned := { name := "ytkjmgafnaddhkaagreat", sum := "acdf5be244f2c964726e6dda5b8af88de095a632a54c8b337f87513675fe5f17", checked := Tryz.checked }
namespace Rows
def none {H : Type} : Left H := { results := [], args := [] }

/-- 'helmsmanlaw5.DeepeningPlanMatchesSpec': WHATEVER THE INPUT: true; the input reads as it did. -/
def deepeningPlanMatchesSpecSpec : ChangeSpec := { name := "deepeningPlanMatchesSpec", fn := fun _ => fun
  | [d1, d2] => { results := [.lit (.bool true)], args := [d1, d2] }
  | _ => none }
def deepeningPlanMatchesSpecRow : OpenClaim := { program := "ytkjmgafnaddhkaagreat", sum := "acdf5be244f2c964726e6dda5b8af88de095a632a54c8b337f87513675fe5f17", func := "helmsman/helmsmanlaw5.DeepeningPlanMatchesSpec", spec := "deepeningPlanMatchesSpec", unfollowed := true, recurses := true, apart := false }
def DeepeningPlanMatchesSpecSaid : Prop := deepeningPlanMatchesSpecRow.holds Tryz.pinned (OpenSpec.ofChange deepeningPlanMatchesSpecSpec)

/-- ITS FALSE NEIGHBOUR: 'it returns false'. Refute it at one input. -/
def deepeningPlanMatchesSpecWrong : ChangeSpec := { name := "deepeningPlanMatchesSpec", fn := fun _ => fun
  | [d1, d2] => { results := [.lit (.bool false)], args := [d1, d2] }
  | _ => none }
def DeepeningPlanMatchesSpecWrongFalsely : Prop := deepeningPlanMatchesSpecRow.holds Tryz.pinned (OpenSpec.ofChange deepeningPlanMatchesSpecWrong)

/-- 'helmsmanlaw5.DeepeningBoundsMatchSpec': WHATEVER THE INPUT: true; the input reads as it did. -/
def deepeningBoundsMatchSpecSpec : ChangeSpec := { name := "deepeningBoundsMatchSpec", fn := fun _ => fun
  | [d1, d2] => { results := [.lit (.bool true)], args := [d1, d2] }
  | _ => none }
def deepeningBoundsMatchSpecRow : OpenClaim := { program := "ytkjmgafnaddhkaagreat", sum := "acdf5be244f2c964726e6dda5b8af88de095a632a54c8b337f87513675fe5f17", func := "helmsman/helmsmanlaw5.DeepeningBoundsMatchSpec", spec := "deepeningBoundsMatchSpec", unfollowed := true, recurses := true, apart := false }
def DeepeningBoundsMatchSpecSaid : Prop := deepeningBoundsMatchSpecRow.holds Tryz.pinned (OpenSpec.ofChange deepeningBoundsMatchSpecSpec)

/-- ITS FALSE NEIGHBOUR: 'it returns false'. Refute it at one input. -/
def deepeningBoundsMatchSpecWrong : ChangeSpec := { name := "deepeningBoundsMatchSpec", fn := fun _ => fun
  | [d1, d2] => { results := [.lit (.bool false)], args := [d1, d2] }
  | _ => none }
def DeepeningBoundsMatchSpecWrongFalsely : Prop := deepeningBoundsMatchSpecRow.holds Tryz.pinned (OpenSpec.ofChange deepeningBoundsMatchSpecWrong)

/-- 'helmsmanlaw5.DeepeningStartsAtValue': WHATEVER THE INPUT: true; the input reads as it did. -/
def deepeningStartsAtValueSpec : ChangeSpec := { name := "deepeningStartsAtValue", fn := fun _ => fun
  | [d1, d2] => { results := [.lit (.bool true)], args := [d1, d2] }
  | _ => none }
def deepeningStartsAtValueRow : OpenClaim := { program := "ytkjmgafnaddhkaagreat", sum := "acdf5be244f2c964726e6dda5b8af88de095a632a54c8b337f87513675fe5f17", func := "helmsman/helmsmanlaw5.DeepeningStartsAtValue", spec := "deepeningStartsAtValue", unfollowed := true, recurses := true, apart := false }
def DeepeningStartsAtValueSaid : Prop := deepeningStartsAtValueRow.holds Tryz.pinned (OpenSpec.ofChange deepeningStartsAtValueSpec)

/-- ITS FALSE NEIGHBOUR: 'it returns false'. Refute it at one input. -/
def deepeningStartsAtValueWrong : ChangeSpec := { name := "deepeningStartsAtValue", fn := fun _ => fun
  | [d1, d2] => { results := [.lit (.bool false)], args := [d1, d2] }
  | _ => none }
def DeepeningStartsAtValueWrongFalsely : Prop := deepeningStartsAtValueRow.holds Tryz.pinned (OpenSpec.ofChange deepeningStartsAtValueWrong)

/-- 'helmsmanlaw5.DeepeningBoundsRise': WHATEVER THE INPUT: true; the input reads as it did. -/
def deepeningBoundsRiseSpec : ChangeSpec := { name := "deepeningBoundsRise", fn := fun _ => fun
  | [d1, d2] => { results := [.lit (.bool true)], args := [d1, d2] }
  | _ => none }
def deepeningBoundsRiseRow : OpenClaim := { program := "ytkjmgafnaddhkaagreat", sum := "acdf5be244f2c964726e6dda5b8af88de095a632a54c8b337f87513675fe5f17", func := "helmsman/helmsmanlaw5.DeepeningBoundsRise", spec := "deepeningBoundsRise", unfollowed := true, recurses := true, apart := false }
def DeepeningBoundsRiseSaid : Prop := deepeningBoundsRiseRow.holds Tryz.pinned (OpenSpec.ofChange deepeningBoundsRiseSpec)

/-- ITS FALSE NEIGHBOUR: 'it returns false'. Refute it at one input. -/
def deepeningBoundsRiseWrong : ChangeSpec := { name := "deepeningBoundsRise", fn := fun _ => fun
  | [d1, d2] => { results := [.lit (.bool false)], args := [d1, d2] }
  | _ => none }
def DeepeningBoundsRiseWrongFalsely : Prop := deepeningBoundsRiseRow.holds Tryz.pinned (OpenSpec.ofChange deepeningBoundsRiseWrong)

/-- 'helmsmanlaw5.DeepeningAgreesWithAstar': WHATEVER THE INPUT: true; the input reads as it did. -/
def deepeningAgreesWithAstarSpec : ChangeSpec := { name := "deepeningAgreesWithAstar", fn := fun _ => fun
  | [d1, d2] => { results := [.lit (.bool true)], args := [d1, d2] }
  | _ => none }
def deepeningAgreesWithAstarRow : OpenClaim := { program := "ytkjmgafnaddhkaagreat", sum := "acdf5be244f2c964726e6dda5b8af88de095a632a54c8b337f87513675fe5f17", func := "helmsman/helmsmanlaw5.DeepeningAgreesWithAstar", spec := "deepeningAgreesWithAstar", unfollowed := true, recurses := true, apart := false }
def DeepeningAgreesWithAstarSaid : Prop := deepeningAgreesWithAstarRow.holds Tryz.pinned (OpenSpec.ofChange deepeningAgreesWithAstarSpec)

/-- ITS FALSE NEIGHBOUR: 'it returns false'. Refute it at one input. -/
def deepeningAgreesWithAstarWrong : ChangeSpec := { name := "deepeningAgreesWithAstar", fn := fun _ => fun
  | [d1, d2] => { results := [.lit (.bool false)], args := [d1, d2] }
  | _ => none }
def DeepeningAgreesWithAstarWrongFalsely : Prop := deepeningAgreesWithAstarRow.holds Tryz.pinned (OpenSpec.ofChange deepeningAgreesWithAstarWrong)

/-- 'helmsmanlaw5.GreedyPlanMatchesSpec': WHATEVER THE INPUT: true; the input reads as it did. -/
def greedyPlanMatchesSpecSpec : ChangeSpec := { name := "greedyPlanMatchesSpec", fn := fun _ => fun
  | [d1, d2] => { results := [.lit (.bool true)], args := [d1, d2] }
  | _ => none }
def greedyPlanMatchesSpecRow : OpenClaim := { program := "ytkjmgafnaddhkaagreat", sum := "acdf5be244f2c964726e6dda5b8af88de095a632a54c8b337f87513675fe5f17", func := "helmsman/helmsmanlaw5.GreedyPlanMatchesSpec", spec := "greedyPlanMatchesSpec", unfollowed := true, recurses := true, apart := false }
def GreedyPlanMatchesSpecSaid : Prop := greedyPlanMatchesSpecRow.holds Tryz.pinned (OpenSpec.ofChange greedyPlanMatchesSpecSpec)

/-- ITS FALSE NEIGHBOUR: 'it returns false'. Refute it at one input. -/
def greedyPlanMatchesSpecWrong : ChangeSpec := { name := "greedyPlanMatchesSpec", fn := fun _ => fun
  | [d1, d2] => { results := [.lit (.bool false)], args := [d1, d2] }
  | _ => none }
def GreedyPlanMatchesSpecWrongFalsely : Prop := greedyPlanMatchesSpecRow.holds Tryz.pinned (OpenSpec.ofChange greedyPlanMatchesSpecWrong)

/-- 'helmsmanlaw5.GreedyWeightedMatchesSpec': WHATEVER THE INPUT: true; the input reads as it did. -/
def greedyWeightedMatchesSpecSpec : ChangeSpec := { name := "greedyWeightedMatchesSpec", fn := fun _ => fun
  | [d1, d2, d3] => { results := [.lit (.bool true)], args := [d1, d2, d3] }
  | _ => none }
def greedyWeightedMatchesSpecRow : OpenClaim := { program := "ytkjmgafnaddhkaagreat", sum := "acdf5be244f2c964726e6dda5b8af88de095a632a54c8b337f87513675fe5f17", func := "helmsman/helmsmanlaw5.GreedyWeightedMatchesSpec", spec := "greedyWeightedMatchesSpec", unfollowed := true, recurses := true, apart := false }
def GreedyWeightedMatchesSpecSaid : Prop := greedyWeightedMatchesSpecRow.holds Tryz.pinned (OpenSpec.ofChange greedyWeightedMatchesSpecSpec)

/-- ITS FALSE NEIGHBOUR: 'it returns false'. Refute it at one input. -/
def greedyWeightedMatchesSpecWrong : ChangeSpec := { name := "greedyWeightedMatchesSpec", fn := fun _ => fun
  | [d1, d2, d3] => { results := [.lit (.bool false)], args := [d1, d2, d3] }
  | _ => none }
def GreedyWeightedMatchesSpecWrongFalsely : Prop := greedyWeightedMatchesSpecRow.holds Tryz.pinned (OpenSpec.ofChange greedyWeightedMatchesSpecWrong)

/-- 'helmsmanlaw5.GreedyFactorOneIsCheapest': WHATEVER THE INPUT: true; the input reads as it did. -/
def greedyFactorOneIsCheapestSpec : ChangeSpec := { name := "greedyFactorOneIsCheapest", fn := fun _ => fun
  | [d1, d2] => { results := [.lit (.bool true)], args := [d1, d2] }
  | _ => none }
def greedyFactorOneIsCheapestRow : OpenClaim := { program := "ytkjmgafnaddhkaagreat", sum := "acdf5be244f2c964726e6dda5b8af88de095a632a54c8b337f87513675fe5f17", func := "helmsman/helmsmanlaw5.GreedyFactorOneIsCheapest", spec := "greedyFactorOneIsCheapest", unfollowed := true, recurses := true, apart := false }
def GreedyFactorOneIsCheapestSaid : Prop := greedyFactorOneIsCheapestRow.holds Tryz.pinned (OpenSpec.ofChange greedyFactorOneIsCheapestSpec)

/-- ITS FALSE NEIGHBOUR: 'it returns false'. Refute it at one input. -/
def greedyFactorOneIsCheapestWrong : ChangeSpec := { name := "greedyFactorOneIsCheapest", fn := fun _ => fun
  | [d1, d2] => { results := [.lit (.bool false)], args := [d1, d2] }
  | _ => none }
def GreedyFactorOneIsCheapestWrongFalsely : Prop := greedyFactorOneIsCheapestRow.holds Tryz.pinned (OpenSpec.ofChange greedyFactorOneIsCheapestWrong)

/-- 'helmsmanlaw5.GreedyKindsAgree': WHATEVER THE INPUT: true; the input reads as it did. -/
def greedyKindsAgreeSpec : ChangeSpec := { name := "greedyKindsAgree", fn := fun _ => fun
  | [d1, d2, d3] => { results := [.lit (.bool true)], args := [d1, d2, d3] }
  | _ => none }
def greedyKindsAgreeRow : OpenClaim := { program := "ytkjmgafnaddhkaagreat", sum := "acdf5be244f2c964726e6dda5b8af88de095a632a54c8b337f87513675fe5f17", func := "helmsman/helmsmanlaw5.GreedyKindsAgree", spec := "greedyKindsAgree", unfollowed := true, recurses := true, apart := false }
def GreedyKindsAgreeSaid : Prop := greedyKindsAgreeRow.holds Tryz.pinned (OpenSpec.ofChange greedyKindsAgreeSpec)

/-- ITS FALSE NEIGHBOUR: 'it returns false'. Refute it at one input. -/
def greedyKindsAgreeWrong : ChangeSpec := { name := "greedyKindsAgree", fn := fun _ => fun
  | [d1, d2, d3] => { results := [.lit (.bool false)], args := [d1, d2, d3] }
  | _ => none }
def GreedyKindsAgreeWrongFalsely : Prop := greedyKindsAgreeRow.holds Tryz.pinned (OpenSpec.ofChange greedyKindsAgreeWrong)

/- THE SECOND FORM. 'bulk': how many values and letters a reading holds, each counted each time it is reached (what is shared counts as often as it is met; a slice's spare places count too). A statement '..UptoSaid' is the law's where the arguments, and the package variables that the reading takes, are together of bulk at most 1048576: NARROWER than '..Said'. Prove '..Said' where nothing that the law and all that it calls make is longer than what came in: it says more and counts as full. Else prove '..UptoSaid'. A law counts once. -/
mutual
def uptoBulk {H : Type} : DataW H → Nat
  | .lit (.string bytes) => bytes.length + 1
  | .lit _ => 1
  | .nil => 1
  | .ptr d => uptoBulk d + 1
  | .slice elems spare => uptoBulkAll elems + uptoBulkAll spare + 1
  | .agg parts => uptoBulkAll parts + 1
  | .iface _ d => uptoBulk d + 1
  | .map entries => uptoBulkEntries entries + 1
  | .held _ => 1
def uptoBulkAll {H : Type} : List (DataW H) → Nat
  | [] => 0
  | d :: r => uptoBulk d + uptoBulkAll r
def uptoBulkEntries {H : Type} : List (Lit × DataW H) → Nat
  | [] => 0
  | x :: r => uptoBulkEntry x + uptoBulkEntries r
def uptoBulkEntry {H : Type} : Lit × DataW H → Nat
  | (.string bytes, d) => bytes.length + uptoBulk d + 1
  | (_, d) => uptoBulk d + 1
 end
def uptoSmall : (H : Type) → List (DataW H) → Bool := fun _ ds => decide (uptoBulkAll ds ≤ 1048576)
def OpenSpec.upto (s : _root_.Go.ChangeSpec) : _root_.Go.OpenSpec := { _root_.Go.OpenSpec.ofChange s with cond := some uptoSmall }

/-- 'helmsmanlaw5.DeepeningPlanMatchesSpec', WHERE WHAT IT READS IS OF BULK AT MOST 1048576: true; the input reads as it did. -/
def deepeningPlanMatchesSpecUptoRow : OpenClaim := { program := "ytkjmgafnaddhkaagreat", sum := "acdf5be244f2c964726e6dda5b8af88de095a632a54c8b337f87513675fe5f17", func := "helmsman/helmsmanlaw5.DeepeningPlanMatchesSpec", spec := "deepeningPlanMatchesSpec", unfollowed := true, recurses := true, apart := false, narrowed := true }
def DeepeningPlanMatchesSpecUptoSaid : Prop := deepeningPlanMatchesSpecUptoRow.holds Tryz.pinned (OpenSpec.upto deepeningPlanMatchesSpecSpec)

/-- 'helmsmanlaw5.DeepeningBoundsMatchSpec', WHERE WHAT IT READS IS OF BULK AT MOST 1048576: true; the input reads as it did. -/
def deepeningBoundsMatchSpecUptoRow : OpenClaim := { program := "ytkjmgafnaddhkaagreat", sum := "acdf5be244f2c964726e6dda5b8af88de095a632a54c8b337f87513675fe5f17", func := "helmsman/helmsmanlaw5.DeepeningBoundsMatchSpec", spec := "deepeningBoundsMatchSpec", unfollowed := true, recurses := true, apart := false, narrowed := true }
def DeepeningBoundsMatchSpecUptoSaid : Prop := deepeningBoundsMatchSpecUptoRow.holds Tryz.pinned (OpenSpec.upto deepeningBoundsMatchSpecSpec)

/-- 'helmsmanlaw5.DeepeningStartsAtValue', WHERE WHAT IT READS IS OF BULK AT MOST 1048576: true; the input reads as it did. -/
def deepeningStartsAtValueUptoRow : OpenClaim := { program := "ytkjmgafnaddhkaagreat", sum := "acdf5be244f2c964726e6dda5b8af88de095a632a54c8b337f87513675fe5f17", func := "helmsman/helmsmanlaw5.DeepeningStartsAtValue", spec := "deepeningStartsAtValue", unfollowed := true, recurses := true, apart := false, narrowed := true }
def DeepeningStartsAtValueUptoSaid : Prop := deepeningStartsAtValueUptoRow.holds Tryz.pinned (OpenSpec.upto deepeningStartsAtValueSpec)

/-- 'helmsmanlaw5.DeepeningBoundsRise', WHERE WHAT IT READS IS OF BULK AT MOST 1048576: true; the input reads as it did. -/
def deepeningBoundsRiseUptoRow : OpenClaim := { program := "ytkjmgafnaddhkaagreat", sum := "acdf5be244f2c964726e6dda5b8af88de095a632a54c8b337f87513675fe5f17", func := "helmsman/helmsmanlaw5.DeepeningBoundsRise", spec := "deepeningBoundsRise", unfollowed := true, recurses := true, apart := false, narrowed := true }
def DeepeningBoundsRiseUptoSaid : Prop := deepeningBoundsRiseUptoRow.holds Tryz.pinned (OpenSpec.upto deepeningBoundsRiseSpec)

/-- 'helmsmanlaw5.DeepeningAgreesWithAstar', WHERE WHAT IT READS IS OF BULK AT MOST 1048576: true; the input reads as it did. -/
def deepeningAgreesWithAstarUptoRow : OpenClaim := { program := "ytkjmgafnaddhkaagreat", sum := "acdf5be244f2c964726e6dda5b8af88de095a632a54c8b337f87513675fe5f17", func := "helmsman/helmsmanlaw5.DeepeningAgreesWithAstar", spec := "deepeningAgreesWithAstar", unfollowed := true, recurses := true, apart := false, narrowed := true }
def DeepeningAgreesWithAstarUptoSaid : Prop := deepeningAgreesWithAstarUptoRow.holds Tryz.pinned (OpenSpec.upto deepeningAgreesWithAstarSpec)

/-- 'helmsmanlaw5.GreedyPlanMatchesSpec', WHERE WHAT IT READS IS OF BULK AT MOST 1048576: true; the input reads as it did. -/
def greedyPlanMatchesSpecUptoRow : OpenClaim := { program := "ytkjmgafnaddhkaagreat", sum := "acdf5be244f2c964726e6dda5b8af88de095a632a54c8b337f87513675fe5f17", func := "helmsman/helmsmanlaw5.GreedyPlanMatchesSpec", spec := "greedyPlanMatchesSpec", unfollowed := true, recurses := true, apart := false, narrowed := true }
def GreedyPlanMatchesSpecUptoSaid : Prop := greedyPlanMatchesSpecUptoRow.holds Tryz.pinned (OpenSpec.upto greedyPlanMatchesSpecSpec)

/-- 'helmsmanlaw5.GreedyWeightedMatchesSpec', WHERE WHAT IT READS IS OF BULK AT MOST 1048576: true; the input reads as it did. -/
def greedyWeightedMatchesSpecUptoRow : OpenClaim := { program := "ytkjmgafnaddhkaagreat", sum := "acdf5be244f2c964726e6dda5b8af88de095a632a54c8b337f87513675fe5f17", func := "helmsman/helmsmanlaw5.GreedyWeightedMatchesSpec", spec := "greedyWeightedMatchesSpec", unfollowed := true, recurses := true, apart := false, narrowed := true }
def GreedyWeightedMatchesSpecUptoSaid : Prop := greedyWeightedMatchesSpecUptoRow.holds Tryz.pinned (OpenSpec.upto greedyWeightedMatchesSpecSpec)

/-- 'helmsmanlaw5.GreedyFactorOneIsCheapest', WHERE WHAT IT READS IS OF BULK AT MOST 1048576: true; the input reads as it did. -/
def greedyFactorOneIsCheapestUptoRow : OpenClaim := { program := "ytkjmgafnaddhkaagreat", sum := "acdf5be244f2c964726e6dda5b8af88de095a632a54c8b337f87513675fe5f17", func := "helmsman/helmsmanlaw5.GreedyFactorOneIsCheapest", spec := "greedyFactorOneIsCheapest", unfollowed := true, recurses := true, apart := false, narrowed := true }
def GreedyFactorOneIsCheapestUptoSaid : Prop := greedyFactorOneIsCheapestUptoRow.holds Tryz.pinned (OpenSpec.upto greedyFactorOneIsCheapestSpec)

/-- 'helmsmanlaw5.GreedyKindsAgree', WHERE WHAT IT READS IS OF BULK AT MOST 1048576: true; the input reads as it did. -/
def greedyKindsAgreeUptoRow : OpenClaim := { program := "ytkjmgafnaddhkaagreat", sum := "acdf5be244f2c964726e6dda5b8af88de095a632a54c8b337f87513675fe5f17", func := "helmsman/helmsmanlaw5.GreedyKindsAgree", spec := "greedyKindsAgree", unfollowed := true, recurses := true, apart := false, narrowed := true }
def GreedyKindsAgreeUptoSaid : Prop := greedyKindsAgreeUptoRow.holds Tryz.pinned (OpenSpec.upto greedyKindsAgreeSpec)

end Rows
end Go.Proofs.YtkjmgafnaddhkaaGreat
