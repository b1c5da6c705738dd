/-
  No cell of these rows narrows 'for every input' (looked for: loops, veiled, ifaces, maps, wideKeys, modest, calm, conditions, laid).
  DERIVED. THE GIVEN ROWS OF THIS SEAT. 11 by the template 'for every input the law returns true; each argument reads behind the call as it read before'; 0 by the template 'total and deterministic' (their statements: YtcpmjoabhnfddaaGreatTotals.lean).
  GIVEN WITH THE SEED: the statements are not yours to turn. If you find one false, say at which input.
  Laid BY PROGRAM, IN A SANDBOX (cutbox-rows.mjs): the forced cells as the released guide's own fill.sh prints them over the translation ddfa1521221e8bc6… (all of the seat's roots in one cut). By AI agents, Wed Nov 11 2026. No macro, syntax, notation, axiom, sorry.
-/
import Derived.Test.YtcpmjoabhnfddaaGreatChecked
import GoSem.Claim
import GoSem.ClaimJoined
import GoSem.ClaimMapViews
import Derived.JoinedTies
import Derived.KernelRfl
namespace Go.Proofs.YtcpmjoabhnfddaaGreat
/- THE CELL 'sum', in the pinned program and in every row, IS THE sha256 OF THE DUMP (.gsa) THAT YtcpmjoabhnfddaaGreatProg.lean LOADS. Nothing in Lean hashes anything: it is a label: what it is worth is what the hold of that sum in a sandbox is worth. -/
noncomputable def Tryz.pinned : Pinned := { name := "ytcpmjoabhnfddaagreat", sum := "ddfa1521221e8bc6b9dda37cb4cd3615cfa5e6f7d7db15599e727ef52f027038", checked := Tryz.checked }
namespace Rows
def none {H : Type} : Left H := { results := [], args := [] }

/-- 'helmsmanlaw5.DeepeningPlanMatchesSpec': WHATEVER THE INPUT: true; the input reads as it did. -/
def deepeningPlanMatchesSpecSpec : ChangeSpec := { name := "deepeningPlanMatchesSpec", fn := fun _ => fun
  | [d1, d2] => { results := [.lit (.bool true)], args := [d1, d2] }
  | _ => none }
def deepeningPlanMatchesSpecRow : OpenClaim := { program := "ytcpmjoabhnfddaagreat", sum := "ddfa1521221e8bc6b9dda37cb4cd3615cfa5e6f7d7db15599e727ef52f027038", func := "helmsman/helmsmanlaw5.DeepeningPlanMatchesSpec", spec := "deepeningPlanMatchesSpec", unfollowed := true, recurses := true, apart := false }
def DeepeningPlanMatchesSpecSaid : Prop := deepeningPlanMatchesSpecRow.holds Tryz.pinned (OpenSpec.ofChange deepeningPlanMatchesSpecSpec)

/-- ITS FALSE NEIGHBOUR: 'it returns false'. Refute it at one input. -/
def deepeningPlanMatchesSpecWrong : ChangeSpec := { name := "deepeningPlanMatchesSpec", fn := fun _ => fun
  | [d1, d2] => { results := [.lit (.bool false)], args := [d1, d2] }
  | _ => none }
def DeepeningPlanMatchesSpecWrongFalsely : Prop := deepeningPlanMatchesSpecRow.holds Tryz.pinned (OpenSpec.ofChange deepeningPlanMatchesSpecWrong)

/-- 'helmsmanlaw5.DeepeningBoundsMatchSpec': WHATEVER THE INPUT: true; the input reads as it did. -/
def deepeningBoundsMatchSpecSpec : ChangeSpec := { name := "deepeningBoundsMatchSpec", fn := fun _ => fun
  | [d1, d2] => { results := [.lit (.bool true)], args := [d1, d2] }
  | _ => none }
def deepeningBoundsMatchSpecRow : OpenClaim := { program := "ytcpmjoabhnfddaagreat", sum := "ddfa1521221e8bc6b9dda37cb4cd3615cfa5e6f7d7db15599e727ef52f027038", func := "helmsman/helmsmanlaw5.DeepeningBoundsMatchSpec", spec := "deepeningBoundsMatchSpec", unfollowed := true, recurses := true, apart := false }
def DeepeningBoundsMatchSpecSaid : Prop := deepeningBoundsMatchSpecRow.holds Tryz.pinned (OpenSpec.ofChange deepeningBoundsMatchSpecSpec)

/-- ITS FALSE NEIGHBOUR: 'it returns false'. Refute it at one input. -/
def deepeningBoundsMatchSpecWrong : ChangeSpec := { name := "deepeningBoundsMatchSpec", fn := fun _ => fun
  | [d1, d2] => { results := [.lit (.bool false)], args := [d1, d2] }
  | _ => none }
def DeepeningBoundsMatchSpecWrongFalsely : Prop := deepeningBoundsMatchSpecRow.holds Tryz.pinned (OpenSpec.ofChange deepeningBoundsMatchSpecWrong)

/-- 'helmsmanlaw5.DeepeningStartsAtValue': WHATEVER THE INPUT: true; the input reads as it did. -/
def deepeningStartsAtValueSpec : ChangeSpec := { name := "deepeningStartsAtValue", fn := fun _ => fun
  | [d1, d2] => { results := [.lit (.bool true)], args := [d1, d2] }
  | _ => none }
def deepeningStartsAtValueRow : OpenClaim := { program := "ytcpmjoabhnfddaagreat", sum := "ddfa1521221e8bc6b9dda37cb4cd3615cfa5e6f7d7db15599e727ef52f027038", func := "helmsman/helmsmanlaw5.DeepeningStartsAtValue", spec := "deepeningStartsAtValue", unfollowed := true, recurses := true, apart := false }
def DeepeningStartsAtValueSaid : Prop := deepeningStartsAtValueRow.holds Tryz.pinned (OpenSpec.ofChange deepeningStartsAtValueSpec)

/-- ITS FALSE NEIGHBOUR: 'it returns false'. Refute it at one input. -/
def deepeningStartsAtValueWrong : ChangeSpec := { name := "deepeningStartsAtValue", fn := fun _ => fun
  | [d1, d2] => { results := [.lit (.bool false)], args := [d1, d2] }
  | _ => none }
def DeepeningStartsAtValueWrongFalsely : Prop := deepeningStartsAtValueRow.holds Tryz.pinned (OpenSpec.ofChange deepeningStartsAtValueWrong)

/-- 'helmsmanlaw5.AstarPlanMatchesSpec': WHATEVER THE INPUT: true; the input reads as it did. -/
def astarPlanMatchesSpecSpec : ChangeSpec := { name := "astarPlanMatchesSpec", fn := fun _ => fun
  | [d1, d2] => { results := [.lit (.bool true)], args := [d1, d2] }
  | _ => none }
def astarPlanMatchesSpecRow : OpenClaim := { program := "ytcpmjoabhnfddaagreat", sum := "ddfa1521221e8bc6b9dda37cb4cd3615cfa5e6f7d7db15599e727ef52f027038", func := "helmsman/helmsmanlaw5.AstarPlanMatchesSpec", spec := "astarPlanMatchesSpec", unfollowed := true, recurses := true, apart := false }
def AstarPlanMatchesSpecSaid : Prop := astarPlanMatchesSpecRow.holds Tryz.pinned (OpenSpec.ofChange astarPlanMatchesSpecSpec)

/-- ITS FALSE NEIGHBOUR: 'it returns false'. Refute it at one input. -/
def astarPlanMatchesSpecWrong : ChangeSpec := { name := "astarPlanMatchesSpec", fn := fun _ => fun
  | [d1, d2] => { results := [.lit (.bool false)], args := [d1, d2] }
  | _ => none }
def AstarPlanMatchesSpecWrongFalsely : Prop := astarPlanMatchesSpecRow.holds Tryz.pinned (OpenSpec.ofChange astarPlanMatchesSpecWrong)

/-- 'helmsmanlaw5.AstarValuesMatchSpec': WHATEVER THE INPUT: true; the input reads as it did. -/
def astarValuesMatchSpecSpec : ChangeSpec := { name := "astarValuesMatchSpec", fn := fun _ => fun
  | [d1, d2] => { results := [.lit (.bool true)], args := [d1, d2] }
  | _ => none }
def astarValuesMatchSpecRow : OpenClaim := { program := "ytcpmjoabhnfddaagreat", sum := "ddfa1521221e8bc6b9dda37cb4cd3615cfa5e6f7d7db15599e727ef52f027038", func := "helmsman/helmsmanlaw5.AstarValuesMatchSpec", spec := "astarValuesMatchSpec", unfollowed := true, recurses := true, apart := false }
def AstarValuesMatchSpecSaid : Prop := astarValuesMatchSpecRow.holds Tryz.pinned (OpenSpec.ofChange astarValuesMatchSpecSpec)

/-- ITS FALSE NEIGHBOUR: 'it returns false'. Refute it at one input. -/
def astarValuesMatchSpecWrong : ChangeSpec := { name := "astarValuesMatchSpec", fn := fun _ => fun
  | [d1, d2] => { results := [.lit (.bool false)], args := [d1, d2] }
  | _ => none }
def AstarValuesMatchSpecWrongFalsely : Prop := astarValuesMatchSpecRow.holds Tryz.pinned (OpenSpec.ofChange astarValuesMatchSpecWrong)

/-- 'helmsmanlaw5.AstarExpandsWhatItMust': WHATEVER THE INPUT: true; the input reads as it did. -/
def astarExpandsWhatItMustSpec : ChangeSpec := { name := "astarExpandsWhatItMust", fn := fun _ => fun
  | [d1, d2] => { results := [.lit (.bool true)], args := [d1, d2] }
  | _ => none }
def astarExpandsWhatItMustRow : OpenClaim := { program := "ytcpmjoabhnfddaagreat", sum := "ddfa1521221e8bc6b9dda37cb4cd3615cfa5e6f7d7db15599e727ef52f027038", func := "helmsman/helmsmanlaw5.AstarExpandsWhatItMust", spec := "astarExpandsWhatItMust", unfollowed := true, recurses := true, apart := false }
def AstarExpandsWhatItMustSaid : Prop := astarExpandsWhatItMustRow.holds Tryz.pinned (OpenSpec.ofChange astarExpandsWhatItMustSpec)

/-- ITS FALSE NEIGHBOUR: 'it returns false'. Refute it at one input. -/
def astarExpandsWhatItMustWrong : ChangeSpec := { name := "astarExpandsWhatItMust", fn := fun _ => fun
  | [d1, d2] => { results := [.lit (.bool false)], args := [d1, d2] }
  | _ => none }
def AstarExpandsWhatItMustWrongFalsely : Prop := astarExpandsWhatItMustRow.holds Tryz.pinned (OpenSpec.ofChange astarExpandsWhatItMustWrong)

/-- 'helmsmanlaw5.AstarKindsAgree': WHATEVER THE INPUT: true; the input reads as it did. -/
def astarKindsAgreeSpec : ChangeSpec := { name := "astarKindsAgree", fn := fun _ => fun
  | [d1, d2, d3] => { results := [.lit (.bool true)], args := [d1, d2, d3] }
  | _ => none }
def astarKindsAgreeRow : OpenClaim := { program := "ytcpmjoabhnfddaagreat", sum := "ddfa1521221e8bc6b9dda37cb4cd3615cfa5e6f7d7db15599e727ef52f027038", func := "helmsman/helmsmanlaw5.AstarKindsAgree", spec := "astarKindsAgree", unfollowed := true, recurses := true, apart := false }
def AstarKindsAgreeSaid : Prop := astarKindsAgreeRow.holds Tryz.pinned (OpenSpec.ofChange astarKindsAgreeSpec)

/-- ITS FALSE NEIGHBOUR: 'it returns false'. Refute it at one input. -/
def astarKindsAgreeWrong : ChangeSpec := { name := "astarKindsAgree", fn := fun _ => fun
  | [d1, d2, d3] => { results := [.lit (.bool false)], args := [d1, d2, d3] }
  | _ => none }
def AstarKindsAgreeWrongFalsely : Prop := astarKindsAgreeRow.holds Tryz.pinned (OpenSpec.ofChange astarKindsAgreeWrong)

/-- 'helmsmanlaw5.AstarValuesAreAdmissible': WHATEVER THE INPUT: true; the input reads as it did. -/
def astarValuesAreAdmissibleSpec : ChangeSpec := { name := "astarValuesAreAdmissible", fn := fun _ => fun
  | [d1, d2] => { results := [.lit (.bool true)], args := [d1, d2] }
  | _ => none }
def astarValuesAreAdmissibleRow : OpenClaim := { program := "ytcpmjoabhnfddaagreat", sum := "ddfa1521221e8bc6b9dda37cb4cd3615cfa5e6f7d7db15599e727ef52f027038", func := "helmsman/helmsmanlaw5.AstarValuesAreAdmissible", spec := "astarValuesAreAdmissible", unfollowed := true, recurses := true, apart := false }
def AstarValuesAreAdmissibleSaid : Prop := astarValuesAreAdmissibleRow.holds Tryz.pinned (OpenSpec.ofChange astarValuesAreAdmissibleSpec)

/-- ITS FALSE NEIGHBOUR: 'it returns false'. Refute it at one input. -/
def astarValuesAreAdmissibleWrong : ChangeSpec := { name := "astarValuesAreAdmissible", fn := fun _ => fun
  | [d1, d2] => { results := [.lit (.bool false)], args := [d1, d2] }
  | _ => none }
def AstarValuesAreAdmissibleWrongFalsely : Prop := astarValuesAreAdmissibleRow.holds Tryz.pinned (OpenSpec.ofChange astarValuesAreAdmissibleWrong)

/-- 'helmsmanlaw5.DeepeningBoundsRise': WHATEVER THE INPUT: true; the input reads as it did. -/
def deepeningBoundsRiseSpec : ChangeSpec := { name := "deepeningBoundsRise", fn := fun _ => fun
  | [d1, d2] => { results := [.lit (.bool true)], args := [d1, d2] }
  | _ => none }
def deepeningBoundsRiseRow : OpenClaim := { program := "ytcpmjoabhnfddaagreat", sum := "ddfa1521221e8bc6b9dda37cb4cd3615cfa5e6f7d7db15599e727ef52f027038", func := "helmsman/helmsmanlaw5.DeepeningBoundsRise", spec := "deepeningBoundsRise", unfollowed := true, recurses := true, apart := false }
def DeepeningBoundsRiseSaid : Prop := deepeningBoundsRiseRow.holds Tryz.pinned (OpenSpec.ofChange deepeningBoundsRiseSpec)

/-- ITS FALSE NEIGHBOUR: 'it returns false'. Refute it at one input. -/
def deepeningBoundsRiseWrong : ChangeSpec := { name := "deepeningBoundsRise", fn := fun _ => fun
  | [d1, d2] => { results := [.lit (.bool false)], args := [d1, d2] }
  | _ => none }
def DeepeningBoundsRiseWrongFalsely : Prop := deepeningBoundsRiseRow.holds Tryz.pinned (OpenSpec.ofChange deepeningBoundsRiseWrong)

/-- 'helmsmanlaw5.DeepeningAgreesWithAstar': WHATEVER THE INPUT: true; the input reads as it did. -/
def deepeningAgreesWithAstarSpec : ChangeSpec := { name := "deepeningAgreesWithAstar", fn := fun _ => fun
  | [d1, d2] => { results := [.lit (.bool true)], args := [d1, d2] }
  | _ => none }
def deepeningAgreesWithAstarRow : OpenClaim := { program := "ytcpmjoabhnfddaagreat", sum := "ddfa1521221e8bc6b9dda37cb4cd3615cfa5e6f7d7db15599e727ef52f027038", func := "helmsman/helmsmanlaw5.DeepeningAgreesWithAstar", spec := "deepeningAgreesWithAstar", unfollowed := true, recurses := true, apart := false }
def DeepeningAgreesWithAstarSaid : Prop := deepeningAgreesWithAstarRow.holds Tryz.pinned (OpenSpec.ofChange deepeningAgreesWithAstarSpec)

/-- ITS FALSE NEIGHBOUR: 'it returns false'. Refute it at one input. -/
def deepeningAgreesWithAstarWrong : ChangeSpec := { name := "deepeningAgreesWithAstar", fn := fun _ => fun
  | [d1, d2] => { results := [.lit (.bool false)], args := [d1, d2] }
  | _ => none }
def DeepeningAgreesWithAstarWrongFalsely : Prop := deepeningAgreesWithAstarRow.holds Tryz.pinned (OpenSpec.ofChange deepeningAgreesWithAstarWrong)

/-- 'helmsmanlaw5.BothendsAgreesWithAstar': WHATEVER THE INPUT: true; the input reads as it did. -/
def bothendsAgreesWithAstarSpec : ChangeSpec := { name := "bothendsAgreesWithAstar", fn := fun _ => fun
  | [d] => { results := [.lit (.bool true)], args := [d] }
  | _ => none }
def bothendsAgreesWithAstarRow : OpenClaim := { program := "ytcpmjoabhnfddaagreat", sum := "ddfa1521221e8bc6b9dda37cb4cd3615cfa5e6f7d7db15599e727ef52f027038", func := "helmsman/helmsmanlaw5.BothendsAgreesWithAstar", spec := "bothendsAgreesWithAstar", unfollowed := true, recurses := true, apart := false }
def BothendsAgreesWithAstarSaid : Prop := bothendsAgreesWithAstarRow.holds Tryz.pinned (OpenSpec.ofChange bothendsAgreesWithAstarSpec)

/-- ITS FALSE NEIGHBOUR: 'it returns false'. Refute it at one input. -/
def bothendsAgreesWithAstarWrong : ChangeSpec := { name := "bothendsAgreesWithAstar", fn := fun _ => fun
  | [d] => { results := [.lit (.bool false)], args := [d] }
  | _ => none }
def BothendsAgreesWithAstarWrongFalsely : Prop := bothendsAgreesWithAstarRow.holds Tryz.pinned (OpenSpec.ofChange bothendsAgreesWithAstarWrong)

/- THE SECOND FORM. 'bulk': how many values and letters a reading holds, each counted each time it is reached (what is shared counts as often as it is met; a slice's spare places count too). A statement '..UptoSaid' is the law's where the arguments, and the package variables that the reading takes, are together of bulk at most 1048576: NARROWER than '..Said'. Prove '..Said' where nothing that the law and all that it calls make is longer than what came in: it says more and counts as full. Else prove '..UptoSaid'. A law counts once. -/
mutual
def uptoBulk {H : Type} : DataW H → Nat
  | .lit (.string bytes) => bytes.length + 1
  | .lit _ => 1
  | .nil => 1
  | .ptr d => uptoBulk d + 1
  | .slice elems spare => uptoBulkAll elems + uptoBulkAll spare + 1
  | .agg parts => uptoBulkAll parts + 1
  | .iface _ d => uptoBulk d + 1
  | .map entries => uptoBulkEntries entries + 1
  | .held _ => 1
def uptoBulkAll {H : Type} : List (DataW H) → Nat
  | [] => 0
  | d :: r => uptoBulk d + uptoBulkAll r
def uptoBulkEntries {H : Type} : List (Lit × DataW H) → Nat
  | [] => 0
  | x :: r => uptoBulkEntry x + uptoBulkEntries r
def uptoBulkEntry {H : Type} : Lit × DataW H → Nat
  | (.string bytes, d) => bytes.length + uptoBulk d + 1
  | (_, d) => uptoBulk d + 1
 end
def uptoSmall : (H : Type) → List (DataW H) → Bool := fun _ ds => decide (uptoBulkAll ds ≤ 1048576)
def OpenSpec.upto (s : _root_.Go.ChangeSpec) : _root_.Go.OpenSpec := { _root_.Go.OpenSpec.ofChange s with cond := some uptoSmall }

/-- 'helmsmanlaw5.DeepeningPlanMatchesSpec', WHERE WHAT IT READS IS OF BULK AT MOST 1048576: true; the input reads as it did. -/
def deepeningPlanMatchesSpecUptoRow : OpenClaim := { program := "ytcpmjoabhnfddaagreat", sum := "ddfa1521221e8bc6b9dda37cb4cd3615cfa5e6f7d7db15599e727ef52f027038", func := "helmsman/helmsmanlaw5.DeepeningPlanMatchesSpec", spec := "deepeningPlanMatchesSpec", unfollowed := true, recurses := true, apart := false, narrowed := true }
def DeepeningPlanMatchesSpecUptoSaid : Prop := deepeningPlanMatchesSpecUptoRow.holds Tryz.pinned (OpenSpec.upto deepeningPlanMatchesSpecSpec)

/-- 'helmsmanlaw5.DeepeningBoundsMatchSpec', WHERE WHAT IT READS IS OF BULK AT MOST 1048576: true; the input reads as it did. -/
def deepeningBoundsMatchSpecUptoRow : OpenClaim := { program := "ytcpmjoabhnfddaagreat", sum := "ddfa1521221e8bc6b9dda37cb4cd3615cfa5e6f7d7db15599e727ef52f027038", func := "helmsman/helmsmanlaw5.DeepeningBoundsMatchSpec", spec := "deepeningBoundsMatchSpec", unfollowed := true, recurses := true, apart := false, narrowed := true }
def DeepeningBoundsMatchSpecUptoSaid : Prop := deepeningBoundsMatchSpecUptoRow.holds Tryz.pinned (OpenSpec.upto deepeningBoundsMatchSpecSpec)

/-- 'helmsmanlaw5.DeepeningStartsAtValue', WHERE WHAT IT READS IS OF BULK AT MOST 1048576: true; the input reads as it did. -/
def deepeningStartsAtValueUptoRow : OpenClaim := { program := "ytcpmjoabhnfddaagreat", sum := "ddfa1521221e8bc6b9dda37cb4cd3615cfa5e6f7d7db15599e727ef52f027038", func := "helmsman/helmsmanlaw5.DeepeningStartsAtValue", spec := "deepeningStartsAtValue", unfollowed := true, recurses := true, apart := false, narrowed := true }
def DeepeningStartsAtValueUptoSaid : Prop := deepeningStartsAtValueUptoRow.holds Tryz.pinned (OpenSpec.upto deepeningStartsAtValueSpec)

/-- 'helmsmanlaw5.AstarPlanMatchesSpec', WHERE WHAT IT READS IS OF BULK AT MOST 1048576: true; the input reads as it did. -/
def astarPlanMatchesSpecUptoRow : OpenClaim := { program := "ytcpmjoabhnfddaagreat", sum := "ddfa1521221e8bc6b9dda37cb4cd3615cfa5e6f7d7db15599e727ef52f027038", func := "helmsman/helmsmanlaw5.AstarPlanMatchesSpec", spec := "astarPlanMatchesSpec", unfollowed := true, recurses := true, apart := false, narrowed := true }
def AstarPlanMatchesSpecUptoSaid : Prop := astarPlanMatchesSpecUptoRow.holds Tryz.pinned (OpenSpec.upto astarPlanMatchesSpecSpec)

/-- 'helmsmanlaw5.AstarValuesMatchSpec', WHERE WHAT IT READS IS OF BULK AT MOST 1048576: true; the input reads as it did. -/
def astarValuesMatchSpecUptoRow : OpenClaim := { program := "ytcpmjoabhnfddaagreat", sum := "ddfa1521221e8bc6b9dda37cb4cd3615cfa5e6f7d7db15599e727ef52f027038", func := "helmsman/helmsmanlaw5.AstarValuesMatchSpec", spec := "astarValuesMatchSpec", unfollowed := true, recurses := true, apart := false, narrowed := true }
def AstarValuesMatchSpecUptoSaid : Prop := astarValuesMatchSpecUptoRow.holds Tryz.pinned (OpenSpec.upto astarValuesMatchSpecSpec)

/-- 'helmsmanlaw5.AstarExpandsWhatItMust', WHERE WHAT IT READS IS OF BULK AT MOST 1048576: true; the input reads as it did. -/
def astarExpandsWhatItMustUptoRow : OpenClaim := { program := "ytcpmjoabhnfddaagreat", sum := "ddfa1521221e8bc6b9dda37cb4cd3615cfa5e6f7d7db15599e727ef52f027038", func := "helmsman/helmsmanlaw5.AstarExpandsWhatItMust", spec := "astarExpandsWhatItMust", unfollowed := true, recurses := true, apart := false, narrowed := true }
def AstarExpandsWhatItMustUptoSaid : Prop := astarExpandsWhatItMustUptoRow.holds Tryz.pinned (OpenSpec.upto astarExpandsWhatItMustSpec)

/-- 'helmsmanlaw5.AstarKindsAgree', WHERE WHAT IT READS IS OF BULK AT MOST 1048576: true; the input reads as it did. -/
def astarKindsAgreeUptoRow : OpenClaim := { program := "ytcpmjoabhnfddaagreat", sum := "ddfa1521221e8bc6b9dda37cb4cd3615cfa5e6f7d7db15599e727ef52f027038", func := "helmsman/helmsmanlaw5.AstarKindsAgree", spec := "astarKindsAgree", unfollowed := true, recurses := true, apart := false, narrowed := true }
def AstarKindsAgreeUptoSaid : Prop := astarKindsAgreeUptoRow.holds Tryz.pinned (OpenSpec.upto astarKindsAgreeSpec)

/-- 'helmsmanlaw5.AstarValuesAreAdmissible', WHERE WHAT IT READS IS OF BULK AT MOST 1048576: true; the input reads as it did. -/
def astarValuesAreAdmissibleUptoRow : OpenClaim := { program := "ytcpmjoabhnfddaagreat", sum := "ddfa1521221e8bc6b9dda37cb4cd3615cfa5e6f7d7db15599e727ef52f027038", func := "helmsman/helmsmanlaw5.AstarValuesAreAdmissible", spec := "astarValuesAreAdmissible", unfollowed := true, recurses := true, apart := false, narrowed := true }
def AstarValuesAreAdmissibleUptoSaid : Prop := astarValuesAreAdmissibleUptoRow.holds Tryz.pinned (OpenSpec.upto astarValuesAreAdmissibleSpec)

/-- 'helmsmanlaw5.DeepeningBoundsRise', WHERE WHAT IT READS IS OF BULK AT MOST 1048576: true; the input reads as it did. -/
def deepeningBoundsRiseUptoRow : OpenClaim := { program := "ytcpmjoabhnfddaagreat", sum := "ddfa1521221e8bc6b9dda37cb4cd3615cfa5e6f7d7db15599e727ef52f027038", func := "helmsman/helmsmanlaw5.DeepeningBoundsRise", spec := "deepeningBoundsRise", unfollowed := true, recurses := true, apart := false, narrowed := true }
def DeepeningBoundsRiseUptoSaid : Prop := deepeningBoundsRiseUptoRow.holds Tryz.pinned (OpenSpec.upto deepeningBoundsRiseSpec)

/-- 'helmsmanlaw5.DeepeningAgreesWithAstar', WHERE WHAT IT READS IS OF BULK AT MOST 1048576: true; the input reads as it did. -/
def deepeningAgreesWithAstarUptoRow : OpenClaim := { program := "ytcpmjoabhnfddaagreat", sum := "ddfa1521221e8bc6b9dda37cb4cd3615cfa5e6f7d7db15599e727ef52f027038", func := "helmsman/helmsmanlaw5.DeepeningAgreesWithAstar", spec := "deepeningAgreesWithAstar", unfollowed := true, recurses := true, apart := false, narrowed := true }
def DeepeningAgreesWithAstarUptoSaid : Prop := deepeningAgreesWithAstarUptoRow.holds Tryz.pinned (OpenSpec.upto deepeningAgreesWithAstarSpec)

/-- 'helmsmanlaw5.BothendsAgreesWithAstar', WHERE WHAT IT READS IS OF BULK AT MOST 1048576: true; the input reads as it did. -/
def bothendsAgreesWithAstarUptoRow : OpenClaim := { program := "ytcpmjoabhnfddaagreat", sum := "ddfa1521221e8bc6b9dda37cb4cd3615cfa5e6f7d7db15599e727ef52f027038", func := "helmsman/helmsmanlaw5.BothendsAgreesWithAstar", spec := "bothendsAgreesWithAstar", unfollowed := true, recurses := true, apart := false, narrowed := true }
def BothendsAgreesWithAstarUptoSaid : Prop := bothendsAgreesWithAstarUptoRow.holds Tryz.pinned (OpenSpec.upto bothendsAgreesWithAstarSpec)

end Rows
end Go.Proofs.YtcpmjoabhnfddaaGreat
