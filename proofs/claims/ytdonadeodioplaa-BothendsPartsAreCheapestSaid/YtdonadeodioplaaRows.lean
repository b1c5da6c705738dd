/-
  No cell of these rows narrows 'for every input' (looked for: loops, veiled, ifaces, maps, wideKeys, modest, calm, conditions, laid).
  DERIVED. THE GIVEN ROWS OF THIS SEAT. 9 by the template 'for every input the law returns true; each argument reads behind the call as it read before'; 0 by the template 'total and deterministic' (their statements: YtdonadeodioplaaTotals.lean).
  GIVEN WITH THE SEED: the statements are not yours to turn. If you find one false, say at which input.
  Laid BY PROGRAM, IN A SANDBOX (cutbox-rows.mjs): the forced cells as the released guide's own fill.sh prints them over the translation 11aa151de19b9246… (all of the seat's roots in one cut). By AI agents, Wed Nov 11 2026. No macro, syntax, notation, axiom, sorry.
-/
import Derived.Test.YtdonadeodioplaaChecked
import GoSem.Claim
import GoSem.ClaimJoined
import GoSem.ClaimMapViews
import Derived.JoinedTies
import Derived.KernelRfl
namespace Go.Proofs.Ytdonadeodioplaa
/- THE CELL 'sum', in the pinned program and in every row, IS THE sha256 OF THE DUMP (.gsa) THAT YtdonadeodioplaaProg.lean LOADS. Nothing in Lean hashes anything: it is a label: what it is worth is what the hold of that sum in a sandbox is worth. -/
noncomputable def Try.pinned : Pinned := { name := "ytdonadeodioplaa", sum := "11aa151de19b924633ec5ed9406a1d8edbb2a4c8209a32f2b63901f5a5c12d78", checked := Try.checked }
namespace Rows
def none {H : Type} : Left H := { results := [], args := [] }

/-- 'helmsmanlaw5.SpaceDistancesAreConsistent': WHATEVER THE INPUT: true; the input reads as it did. -/
def spaceDistancesAreConsistentSpec : ChangeSpec := { name := "spaceDistancesAreConsistent", fn := fun _ => fun
  | [d] => { results := [.lit (.bool true)], args := [d] }
  | _ => none }
def spaceDistancesAreConsistentRow : OpenClaim := { program := "ytdonadeodioplaa", sum := "11aa151de19b924633ec5ed9406a1d8edbb2a4c8209a32f2b63901f5a5c12d78", func := "helmsman/helmsmanlaw5.SpaceDistancesAreConsistent", spec := "spaceDistancesAreConsistent", unfollowed := true, recurses := true, apart := false }
def SpaceDistancesAreConsistentSaid : Prop := spaceDistancesAreConsistentRow.holds Try.pinned (OpenSpec.ofChange spaceDistancesAreConsistentSpec)

/-- ITS FALSE NEIGHBOUR: 'it returns false'. Refute it at one input. -/
def spaceDistancesAreConsistentWrong : ChangeSpec := { name := "spaceDistancesAreConsistent", fn := fun _ => fun
  | [d] => { results := [.lit (.bool false)], args := [d] }
  | _ => none }
def SpaceDistancesAreConsistentWrongFalsely : Prop := spaceDistancesAreConsistentRow.holds Try.pinned (OpenSpec.ofChange spaceDistancesAreConsistentWrong)

/-- 'helmsmanlaw5.SpaceScalesWithCosts': WHATEVER THE INPUT: true; the input reads as it did. -/
def spaceScalesWithCostsSpec : ChangeSpec := { name := "spaceScalesWithCosts", fn := fun _ => fun
  | [d1, d2] => { results := [.lit (.bool true)], args := [d1, d2] }
  | _ => none }
def spaceScalesWithCostsRow : OpenClaim := { program := "ytdonadeodioplaa", sum := "11aa151de19b924633ec5ed9406a1d8edbb2a4c8209a32f2b63901f5a5c12d78", func := "helmsman/helmsmanlaw5.SpaceScalesWithCosts", spec := "spaceScalesWithCosts", unfollowed := true, recurses := true, apart := false }
def SpaceScalesWithCostsSaid : Prop := spaceScalesWithCostsRow.holds Try.pinned (OpenSpec.ofChange spaceScalesWithCostsSpec)

/-- ITS FALSE NEIGHBOUR: 'it returns false'. Refute it at one input. -/
def spaceScalesWithCostsWrong : ChangeSpec := { name := "spaceScalesWithCosts", fn := fun _ => fun
  | [d1, d2] => { results := [.lit (.bool false)], args := [d1, d2] }
  | _ => none }
def SpaceScalesWithCostsWrongFalsely : Prop := spaceScalesWithCostsRow.holds Try.pinned (OpenSpec.ofChange spaceScalesWithCostsWrong)

/-- 'helmsmanlaw5.BothendsPlanMatchesSpec': WHATEVER THE INPUT: true; the input reads as it did. -/
def bothendsPlanMatchesSpecSpec : ChangeSpec := { name := "bothendsPlanMatchesSpec", fn := fun _ => fun
  | [d] => { results := [.lit (.bool true)], args := [d] }
  | _ => none }
def bothendsPlanMatchesSpecRow : OpenClaim := { program := "ytdonadeodioplaa", sum := "11aa151de19b924633ec5ed9406a1d8edbb2a4c8209a32f2b63901f5a5c12d78", func := "helmsman/helmsmanlaw5.BothendsPlanMatchesSpec", spec := "bothendsPlanMatchesSpec", unfollowed := true, recurses := true, apart := false }
def BothendsPlanMatchesSpecSaid : Prop := bothendsPlanMatchesSpecRow.holds Try.pinned (OpenSpec.ofChange bothendsPlanMatchesSpecSpec)

/-- ITS FALSE NEIGHBOUR: 'it returns false'. Refute it at one input. -/
def bothendsPlanMatchesSpecWrong : ChangeSpec := { name := "bothendsPlanMatchesSpec", fn := fun _ => fun
  | [d] => { results := [.lit (.bool false)], args := [d] }
  | _ => none }
def BothendsPlanMatchesSpecWrongFalsely : Prop := bothendsPlanMatchesSpecRow.holds Try.pinned (OpenSpec.ofChange bothendsPlanMatchesSpecWrong)

/-- 'helmsmanlaw5.BothendsMiddleMatchesSpec': WHATEVER THE INPUT: true; the input reads as it did. -/
def bothendsMiddleMatchesSpecSpec : ChangeSpec := { name := "bothendsMiddleMatchesSpec", fn := fun _ => fun
  | [d] => { results := [.lit (.bool true)], args := [d] }
  | _ => none }
def bothendsMiddleMatchesSpecRow : OpenClaim := { program := "ytdonadeodioplaa", sum := "11aa151de19b924633ec5ed9406a1d8edbb2a4c8209a32f2b63901f5a5c12d78", func := "helmsman/helmsmanlaw5.BothendsMiddleMatchesSpec", spec := "bothendsMiddleMatchesSpec", unfollowed := true, recurses := true, apart := false }
def BothendsMiddleMatchesSpecSaid : Prop := bothendsMiddleMatchesSpecRow.holds Try.pinned (OpenSpec.ofChange bothendsMiddleMatchesSpecSpec)

/-- ITS FALSE NEIGHBOUR: 'it returns false'. Refute it at one input. -/
def bothendsMiddleMatchesSpecWrong : ChangeSpec := { name := "bothendsMiddleMatchesSpec", fn := fun _ => fun
  | [d] => { results := [.lit (.bool false)], args := [d] }
  | _ => none }
def BothendsMiddleMatchesSpecWrongFalsely : Prop := bothendsMiddleMatchesSpecRow.holds Try.pinned (OpenSpec.ofChange bothendsMiddleMatchesSpecWrong)

/-- 'helmsmanlaw5.BothendsPartsAreCheapest': WHATEVER THE INPUT: true; the input reads as it did. -/
def bothendsPartsAreCheapestSpec : ChangeSpec := { name := "bothendsPartsAreCheapest", fn := fun _ => fun
  | [d] => { results := [.lit (.bool true)], args := [d] }
  | _ => none }
def bothendsPartsAreCheapestRow : OpenClaim := { program := "ytdonadeodioplaa", sum := "11aa151de19b924633ec5ed9406a1d8edbb2a4c8209a32f2b63901f5a5c12d78", func := "helmsman/helmsmanlaw5.BothendsPartsAreCheapest", spec := "bothendsPartsAreCheapest", unfollowed := true, recurses := true, apart := false }
def BothendsPartsAreCheapestSaid : Prop := bothendsPartsAreCheapestRow.holds Try.pinned (OpenSpec.ofChange bothendsPartsAreCheapestSpec)

/-- ITS FALSE NEIGHBOUR: 'it returns false'. Refute it at one input. -/
def bothendsPartsAreCheapestWrong : ChangeSpec := { name := "bothendsPartsAreCheapest", fn := fun _ => fun
  | [d] => { results := [.lit (.bool false)], args := [d] }
  | _ => none }
def BothendsPartsAreCheapestWrongFalsely : Prop := bothendsPartsAreCheapestRow.holds Try.pinned (OpenSpec.ofChange bothendsPartsAreCheapestWrong)

/-- 'helmsmanlaw5.NoveltyWideSearchIsComplete': WHATEVER THE INPUT: true; the input reads as it did. -/
def noveltyWideSearchIsCompleteSpec : ChangeSpec := { name := "noveltyWideSearchIsComplete", fn := fun _ => fun
  | [d1, d2] => { results := [.lit (.bool true)], args := [d1, d2] }
  | _ => none }
def noveltyWideSearchIsCompleteRow : OpenClaim := { program := "ytdonadeodioplaa", sum := "11aa151de19b924633ec5ed9406a1d8edbb2a4c8209a32f2b63901f5a5c12d78", func := "helmsman/helmsmanlaw5.NoveltyWideSearchIsComplete", spec := "noveltyWideSearchIsComplete", unfollowed := true, recurses := true, apart := false }
def NoveltyWideSearchIsCompleteSaid : Prop := noveltyWideSearchIsCompleteRow.holds Try.pinned (OpenSpec.ofChange noveltyWideSearchIsCompleteSpec)

/-- ITS FALSE NEIGHBOUR: 'it returns false'. Refute it at one input. -/
def noveltyWideSearchIsCompleteWrong : ChangeSpec := { name := "noveltyWideSearchIsComplete", fn := fun _ => fun
  | [d1, d2] => { results := [.lit (.bool false)], args := [d1, d2] }
  | _ => none }
def NoveltyWideSearchIsCompleteWrongFalsely : Prop := noveltyWideSearchIsCompleteRow.holds Try.pinned (OpenSpec.ofChange noveltyWideSearchIsCompleteWrong)

/-- 'helmsmanlaw5.BreadthAgreesWithSteps': WHATEVER THE INPUT: true; the input reads as it did. -/
def breadthAgreesWithStepsSpec : ChangeSpec := { name := "breadthAgreesWithSteps", fn := fun _ => fun
  | [d] => { results := [.lit (.bool true)], args := [d] }
  | _ => none }
def breadthAgreesWithStepsRow : OpenClaim := { program := "ytdonadeodioplaa", sum := "11aa151de19b924633ec5ed9406a1d8edbb2a4c8209a32f2b63901f5a5c12d78", func := "helmsman/helmsmanlaw5.BreadthAgreesWithSteps", spec := "breadthAgreesWithSteps", unfollowed := true, recurses := true, apart := false }
def BreadthAgreesWithStepsSaid : Prop := breadthAgreesWithStepsRow.holds Try.pinned (OpenSpec.ofChange breadthAgreesWithStepsSpec)

/-- ITS FALSE NEIGHBOUR: 'it returns false'. Refute it at one input. -/
def breadthAgreesWithStepsWrong : ChangeSpec := { name := "breadthAgreesWithSteps", fn := fun _ => fun
  | [d] => { results := [.lit (.bool false)], args := [d] }
  | _ => none }
def BreadthAgreesWithStepsWrongFalsely : Prop := breadthAgreesWithStepsRow.holds Try.pinned (OpenSpec.ofChange breadthAgreesWithStepsWrong)

/-- 'helmsmanlaw5.SpaceOptimalIsLeast': WHATEVER THE INPUT: true; the input reads as it did. -/
def spaceOptimalIsLeastSpec : ChangeSpec := { name := "spaceOptimalIsLeast", fn := fun _ => fun
  | [d1, d2] => { results := [.lit (.bool true)], args := [d1, d2] }
  | _ => none }
def spaceOptimalIsLeastRow : OpenClaim := { program := "ytdonadeodioplaa", sum := "11aa151de19b924633ec5ed9406a1d8edbb2a4c8209a32f2b63901f5a5c12d78", func := "helmsman/helmsmanlaw5.SpaceOptimalIsLeast", spec := "spaceOptimalIsLeast", unfollowed := true, recurses := true, apart := false }
def SpaceOptimalIsLeastSaid : Prop := spaceOptimalIsLeastRow.holds Try.pinned (OpenSpec.ofChange spaceOptimalIsLeastSpec)

/-- ITS FALSE NEIGHBOUR: 'it returns false'. Refute it at one input. -/
def spaceOptimalIsLeastWrong : ChangeSpec := { name := "spaceOptimalIsLeast", fn := fun _ => fun
  | [d1, d2] => { results := [.lit (.bool false)], args := [d1, d2] }
  | _ => none }
def SpaceOptimalIsLeastWrongFalsely : Prop := spaceOptimalIsLeastRow.holds Try.pinned (OpenSpec.ofChange spaceOptimalIsLeastWrong)

/-- 'helmsmanlaw5.BreadthPlansAreShortest': WHATEVER THE INPUT: true; the input reads as it did. -/
def breadthPlansAreShortestSpec : ChangeSpec := { name := "breadthPlansAreShortest", fn := fun _ => fun
  | [d1, d2] => { results := [.lit (.bool true)], args := [d1, d2] }
  | _ => none }
def breadthPlansAreShortestRow : OpenClaim := { program := "ytdonadeodioplaa", sum := "11aa151de19b924633ec5ed9406a1d8edbb2a4c8209a32f2b63901f5a5c12d78", func := "helmsman/helmsmanlaw5.BreadthPlansAreShortest", spec := "breadthPlansAreShortest", unfollowed := true, recurses := true, apart := false }
def BreadthPlansAreShortestSaid : Prop := breadthPlansAreShortestRow.holds Try.pinned (OpenSpec.ofChange breadthPlansAreShortestSpec)

/-- ITS FALSE NEIGHBOUR: 'it returns false'. Refute it at one input. -/
def breadthPlansAreShortestWrong : ChangeSpec := { name := "breadthPlansAreShortest", fn := fun _ => fun
  | [d1, d2] => { results := [.lit (.bool false)], args := [d1, d2] }
  | _ => none }
def BreadthPlansAreShortestWrongFalsely : Prop := breadthPlansAreShortestRow.holds Try.pinned (OpenSpec.ofChange breadthPlansAreShortestWrong)

/- THE SECOND FORM. 'bulk': how many values and letters a reading holds, each counted each time it is reached (what is shared counts as often as it is met; a slice's spare places count too). A statement '..UptoSaid' is the law's where the arguments, and the package variables that the reading takes, are together of bulk at most 1048576: NARROWER than '..Said'. Prove '..Said' where nothing that the law and all that it calls make is longer than what came in: it says more and counts as full. Else prove '..UptoSaid'. A law counts once. -/
mutual
def uptoBulk {H : Type} : DataW H → Nat
  | .lit (.string bytes) => bytes.length + 1
  | .lit _ => 1
  | .nil => 1
  | .ptr d => uptoBulk d + 1
  | .slice elems spare => uptoBulkAll elems + uptoBulkAll spare + 1
  | .agg parts => uptoBulkAll parts + 1
  | .iface _ d => uptoBulk d + 1
  | .map entries => uptoBulkEntries entries + 1
  | .held _ => 1
def uptoBulkAll {H : Type} : List (DataW H) → Nat
  | [] => 0
  | d :: r => uptoBulk d + uptoBulkAll r
def uptoBulkEntries {H : Type} : List (Lit × DataW H) → Nat
  | [] => 0
  | x :: r => uptoBulkEntry x + uptoBulkEntries r
def uptoBulkEntry {H : Type} : Lit × DataW H → Nat
  | (.string bytes, d) => bytes.length + uptoBulk d + 1
  | (_, d) => uptoBulk d + 1
 end
def uptoSmall : (H : Type) → List (DataW H) → Bool := fun _ ds => decide (uptoBulkAll ds ≤ 1048576)
def OpenSpec.upto (s : _root_.Go.ChangeSpec) : _root_.Go.OpenSpec := { _root_.Go.OpenSpec.ofChange s with cond := some uptoSmall }

/-- 'helmsmanlaw5.SpaceDistancesAreConsistent', WHERE WHAT IT READS IS OF BULK AT MOST 1048576: true; the input reads as it did. -/
def spaceDistancesAreConsistentUptoRow : OpenClaim := { program := "ytdonadeodioplaa", sum := "11aa151de19b924633ec5ed9406a1d8edbb2a4c8209a32f2b63901f5a5c12d78", func := "helmsman/helmsmanlaw5.SpaceDistancesAreConsistent", spec := "spaceDistancesAreConsistent", unfollowed := true, recurses := true, apart := false, narrowed := true }
def SpaceDistancesAreConsistentUptoSaid : Prop := spaceDistancesAreConsistentUptoRow.holds Try.pinned (OpenSpec.upto spaceDistancesAreConsistentSpec)

/-- 'helmsmanlaw5.SpaceScalesWithCosts', WHERE WHAT IT READS IS OF BULK AT MOST 1048576: true; the input reads as it did. -/
def spaceScalesWithCostsUptoRow : OpenClaim := { program := "ytdonadeodioplaa", sum := "11aa151de19b924633ec5ed9406a1d8edbb2a4c8209a32f2b63901f5a5c12d78", func := "helmsman/helmsmanlaw5.SpaceScalesWithCosts", spec := "spaceScalesWithCosts", unfollowed := true, recurses := true, apart := false, narrowed := true }
def SpaceScalesWithCostsUptoSaid : Prop := spaceScalesWithCostsUptoRow.holds Try.pinned (OpenSpec.upto spaceScalesWithCostsSpec)

/-- 'helmsmanlaw5.BothendsPlanMatchesSpec', WHERE WHAT IT READS IS OF BULK AT MOST 1048576: true; the input reads as it did. -/
def bothendsPlanMatchesSpecUptoRow : OpenClaim := { program := "ytdonadeodioplaa", sum := "11aa151de19b924633ec5ed9406a1d8edbb2a4c8209a32f2b63901f5a5c12d78", func := "helmsman/helmsmanlaw5.BothendsPlanMatchesSpec", spec := "bothendsPlanMatchesSpec", unfollowed := true, recurses := true, apart := false, narrowed := true }
def BothendsPlanMatchesSpecUptoSaid : Prop := bothendsPlanMatchesSpecUptoRow.holds Try.pinned (OpenSpec.upto bothendsPlanMatchesSpecSpec)

/-- 'helmsmanlaw5.BothendsMiddleMatchesSpec', WHERE WHAT IT READS IS OF BULK AT MOST 1048576: true; the input reads as it did. -/
def bothendsMiddleMatchesSpecUptoRow : OpenClaim := { program := "ytdonadeodioplaa", sum := "11aa151de19b924633ec5ed9406a1d8edbb2a4c8209a32f2b63901f5a5c12d78", func := "helmsman/helmsmanlaw5.BothendsMiddleMatchesSpec", spec := "bothendsMiddleMatchesSpec", unfollowed := true, recurses := true, apart := false, narrowed := true }
def BothendsMiddleMatchesSpecUptoSaid : Prop := bothendsMiddleMatchesSpecUptoRow.holds Try.pinned (OpenSpec.upto bothendsMiddleMatchesSpecSpec)

/-- 'helmsmanlaw5.BothendsPartsAreCheapest', WHERE WHAT IT READS IS OF BULK AT MOST 1048576: true; the input reads as it did. -/
def bothendsPartsAreCheapestUptoRow : OpenClaim := { program := "ytdonadeodioplaa", sum := "11aa151de19b924633ec5ed9406a1d8edbb2a4c8209a32f2b63901f5a5c12d78", func := "helmsman/helmsmanlaw5.BothendsPartsAreCheapest", spec := "bothendsPartsAreCheapest", unfollowed := true, recurses := true, apart := false, narrowed := true }
def BothendsPartsAreCheapestUptoSaid : Prop := bothendsPartsAreCheapestUptoRow.holds Try.pinned (OpenSpec.upto bothendsPartsAreCheapestSpec)

/-- 'helmsmanlaw5.NoveltyWideSearchIsComplete', WHERE WHAT IT READS IS OF BULK AT MOST 1048576: true; the input reads as it did. -/
def noveltyWideSearchIsCompleteUptoRow : OpenClaim := { program := "ytdonadeodioplaa", sum := "11aa151de19b924633ec5ed9406a1d8edbb2a4c8209a32f2b63901f5a5c12d78", func := "helmsman/helmsmanlaw5.NoveltyWideSearchIsComplete", spec := "noveltyWideSearchIsComplete", unfollowed := true, recurses := true, apart := false, narrowed := true }
def NoveltyWideSearchIsCompleteUptoSaid : Prop := noveltyWideSearchIsCompleteUptoRow.holds Try.pinned (OpenSpec.upto noveltyWideSearchIsCompleteSpec)

/-- 'helmsmanlaw5.BreadthAgreesWithSteps', WHERE WHAT IT READS IS OF BULK AT MOST 1048576: true; the input reads as it did. -/
def breadthAgreesWithStepsUptoRow : OpenClaim := { program := "ytdonadeodioplaa", sum := "11aa151de19b924633ec5ed9406a1d8edbb2a4c8209a32f2b63901f5a5c12d78", func := "helmsman/helmsmanlaw5.BreadthAgreesWithSteps", spec := "breadthAgreesWithSteps", unfollowed := true, recurses := true, apart := false, narrowed := true }
def BreadthAgreesWithStepsUptoSaid : Prop := breadthAgreesWithStepsUptoRow.holds Try.pinned (OpenSpec.upto breadthAgreesWithStepsSpec)

/-- 'helmsmanlaw5.SpaceOptimalIsLeast', WHERE WHAT IT READS IS OF BULK AT MOST 1048576: true; the input reads as it did. -/
def spaceOptimalIsLeastUptoRow : OpenClaim := { program := "ytdonadeodioplaa", sum := "11aa151de19b924633ec5ed9406a1d8edbb2a4c8209a32f2b63901f5a5c12d78", func := "helmsman/helmsmanlaw5.SpaceOptimalIsLeast", spec := "spaceOptimalIsLeast", unfollowed := true, recurses := true, apart := false, narrowed := true }
def SpaceOptimalIsLeastUptoSaid : Prop := spaceOptimalIsLeastUptoRow.holds Try.pinned (OpenSpec.upto spaceOptimalIsLeastSpec)

/-- 'helmsmanlaw5.BreadthPlansAreShortest', WHERE WHAT IT READS IS OF BULK AT MOST 1048576: true; the input reads as it did. -/
def breadthPlansAreShortestUptoRow : OpenClaim := { program := "ytdonadeodioplaa", sum := "11aa151de19b924633ec5ed9406a1d8edbb2a4c8209a32f2b63901f5a5c12d78", func := "helmsman/helmsmanlaw5.BreadthPlansAreShortest", spec := "breadthPlansAreShortest", unfollowed := true, recurses := true, apart := false, narrowed := true }
def BreadthPlansAreShortestUptoSaid : Prop := breadthPlansAreShortestUptoRow.holds Try.pinned (OpenSpec.upto breadthPlansAreShortestSpec)

end Rows
end Go.Proofs.Ytdonadeodioplaa
