/-
  No cell of these rows narrows 'for every input' (looked for: loops, veiled, ifaces, maps, wideKeys, modest, calm, conditions, laid).
  DERIVED. THE GIVEN ROWS OF THIS SEAT. 4 by the template 'for every input the law returns true; each argument reads behind the call as it read before'; 0 by the template 'total and deterministic' (their statements: YtdokakhgflljgaaGreatTotals.lean).
  GIVEN WITH THE SEED: the statements are not yours to turn. If you find one false, say at which input.
  Laid BY PROGRAM, IN A SANDBOX (cutbox-rows.mjs): the forced cells as the released guide's own fill.sh prints them over the translation 129a03b1c93e8491… (all of the seat's roots in one cut). By AI agents, Wed Nov 11 2026. No macro, syntax, notation, axiom, sorry.
-/
import Derived.Test.YtdokakhgflljgaaGreatChecked
import GoSem.Claim
import GoSem.ClaimJoined
import GoSem.ClaimMapViews
import Derived.JoinedTies
import Derived.KernelRfl
namespace Go.Proofs.YtdokakhgflljgaaGreat
/- THE CELL 'sum', in the pinned program and in every row, IS THE sha256 OF THE DUMP (.gsa) THAT YtdokakhgflljgaaGreatProg.lean LOADS. Nothing in Lean hashes anything: it is a label: what it is worth is what the hold of that sum in a sandbox is worth. -/
noncomputable def Tryz.pinned : Pinned := { name := "ytdokakhgflljgaagreat", sum := "129a03b1c93e8491fc64d69b949da3b3cb46cff6a25e935832fd9f63fac3ff2a", checked := Tryz.checked }
namespace Rows
def none {H : Type} : Left H := { results := [], args := [] }

/-- 'helmsmanlaw5.GreedyPlanMatchesSpec': WHATEVER THE INPUT: true; the input reads as it did. -/
def greedyPlanMatchesSpecSpec : ChangeSpec := { name := "greedyPlanMatchesSpec", fn := fun _ => fun
  | [d1, d2] => { results := [.lit (.bool true)], args := [d1, d2] }
  | _ => none }
def greedyPlanMatchesSpecRow : OpenClaim := { program := "ytdokakhgflljgaagreat", sum := "129a03b1c93e8491fc64d69b949da3b3cb46cff6a25e935832fd9f63fac3ff2a", func := "helmsman/helmsmanlaw5.GreedyPlanMatchesSpec", spec := "greedyPlanMatchesSpec", unfollowed := true, recurses := true, apart := false }
def GreedyPlanMatchesSpecSaid : Prop := greedyPlanMatchesSpecRow.holds Tryz.pinned (OpenSpec.ofChange greedyPlanMatchesSpecSpec)

/-- ITS FALSE NEIGHBOUR: 'it returns false'. Refute it at one input. -/
def greedyPlanMatchesSpecWrong : ChangeSpec := { name := "greedyPlanMatchesSpec", fn := fun _ => fun
  | [d1, d2] => { results := [.lit (.bool false)], args := [d1, d2] }
  | _ => none }
def GreedyPlanMatchesSpecWrongFalsely : Prop := greedyPlanMatchesSpecRow.holds Tryz.pinned (OpenSpec.ofChange greedyPlanMatchesSpecWrong)

/-- 'helmsmanlaw5.GreedyWeightedMatchesSpec': WHATEVER THE INPUT: true; the input reads as it did. -/
def greedyWeightedMatchesSpecSpec : ChangeSpec := { name := "greedyWeightedMatchesSpec", fn := fun _ => fun
  | [d1, d2, d3] => { results := [.lit (.bool true)], args := [d1, d2, d3] }
  | _ => none }
def greedyWeightedMatchesSpecRow : OpenClaim := { program := "ytdokakhgflljgaagreat", sum := "129a03b1c93e8491fc64d69b949da3b3cb46cff6a25e935832fd9f63fac3ff2a", func := "helmsman/helmsmanlaw5.GreedyWeightedMatchesSpec", spec := "greedyWeightedMatchesSpec", unfollowed := true, recurses := true, apart := false }
def GreedyWeightedMatchesSpecSaid : Prop := greedyWeightedMatchesSpecRow.holds Tryz.pinned (OpenSpec.ofChange greedyWeightedMatchesSpecSpec)

/-- ITS FALSE NEIGHBOUR: 'it returns false'. Refute it at one input. -/
def greedyWeightedMatchesSpecWrong : ChangeSpec := { name := "greedyWeightedMatchesSpec", fn := fun _ => fun
  | [d1, d2, d3] => { results := [.lit (.bool false)], args := [d1, d2, d3] }
  | _ => none }
def GreedyWeightedMatchesSpecWrongFalsely : Prop := greedyWeightedMatchesSpecRow.holds Tryz.pinned (OpenSpec.ofChange greedyWeightedMatchesSpecWrong)

/-- 'helmsmanlaw5.GreedyFactorOneIsCheapest': WHATEVER THE INPUT: true; the input reads as it did. -/
def greedyFactorOneIsCheapestSpec : ChangeSpec := { name := "greedyFactorOneIsCheapest", fn := fun _ => fun
  | [d1, d2] => { results := [.lit (.bool true)], args := [d1, d2] }
  | _ => none }
def greedyFactorOneIsCheapestRow : OpenClaim := { program := "ytdokakhgflljgaagreat", sum := "129a03b1c93e8491fc64d69b949da3b3cb46cff6a25e935832fd9f63fac3ff2a", func := "helmsman/helmsmanlaw5.GreedyFactorOneIsCheapest", spec := "greedyFactorOneIsCheapest", unfollowed := true, recurses := true, apart := false }
def GreedyFactorOneIsCheapestSaid : Prop := greedyFactorOneIsCheapestRow.holds Tryz.pinned (OpenSpec.ofChange greedyFactorOneIsCheapestSpec)

/-- ITS FALSE NEIGHBOUR: 'it returns false'. Refute it at one input. -/
def greedyFactorOneIsCheapestWrong : ChangeSpec := { name := "greedyFactorOneIsCheapest", fn := fun _ => fun
  | [d1, d2] => { results := [.lit (.bool false)], args := [d1, d2] }
  | _ => none }
def GreedyFactorOneIsCheapestWrongFalsely : Prop := greedyFactorOneIsCheapestRow.holds Tryz.pinned (OpenSpec.ofChange greedyFactorOneIsCheapestWrong)

/-- 'helmsmanlaw5.GreedyKindsAgree': WHATEVER THE INPUT: true; the input reads as it did. -/
def greedyKindsAgreeSpec : ChangeSpec := { name := "greedyKindsAgree", fn := fun _ => fun
  | [d1, d2, d3] => { results := [.lit (.bool true)], args := [d1, d2, d3] }
  | _ => none }
def greedyKindsAgreeRow : OpenClaim := { program := "ytdokakhgflljgaagreat", sum := "129a03b1c93e8491fc64d69b949da3b3cb46cff6a25e935832fd9f63fac3ff2a", func := "helmsman/helmsmanlaw5.GreedyKindsAgree", spec := "greedyKindsAgree", unfollowed := true, recurses := true, apart := false }
def GreedyKindsAgreeSaid : Prop := greedyKindsAgreeRow.holds Tryz.pinned (OpenSpec.ofChange greedyKindsAgreeSpec)

/-- ITS FALSE NEIGHBOUR: 'it returns false'. Refute it at one input. -/
def greedyKindsAgreeWrong : ChangeSpec := { name := "greedyKindsAgree", fn := fun _ => fun
  | [d1, d2, d3] => { results := [.lit (.bool false)], args := [d1, d2, d3] }
  | _ => none }
def GreedyKindsAgreeWrongFalsely : Prop := greedyKindsAgreeRow.holds Tryz.pinned (OpenSpec.ofChange greedyKindsAgreeWrong)

/- THE SECOND FORM. 'bulk': how many values and letters a reading holds, each counted each time it is reached (what is shared counts as often as it is met; a slice's spare places count too). A statement '..UptoSaid' is the law's where the arguments, and the package variables that the reading takes, are together of bulk at most 1048576: NARROWER than '..Said'. Prove '..Said' where nothing that the law and all that it calls make is longer than what came in: it says more and counts as full. Else prove '..UptoSaid'. A law counts once. -/
mutual
def uptoBulk {H : Type} : DataW H → Nat
  | .lit (.string bytes) => bytes.length + 1
  | .lit _ => 1
  | .nil => 1
  | .ptr d => uptoBulk d + 1
  | .slice elems spare => uptoBulkAll elems + uptoBulkAll spare + 1
  | .agg parts => uptoBulkAll parts + 1
  | .iface _ d => uptoBulk d + 1
  | .map entries => uptoBulkEntries entries + 1
  | .held _ => 1
def uptoBulkAll {H : Type} : List (DataW H) → Nat
  | [] => 0
  | d :: r => uptoBulk d + uptoBulkAll r
def uptoBulkEntries {H : Type} : List (Lit × DataW H) → Nat
  | [] => 0
  | x :: r => uptoBulkEntry x + uptoBulkEntries r
def uptoBulkEntry {H : Type} : Lit × DataW H → Nat
  | (.string bytes, d) => bytes.length + uptoBulk d + 1
  | (_, d) => uptoBulk d + 1
 end
def uptoSmall : (H : Type) → List (DataW H) → Bool := fun _ ds => decide (uptoBulkAll ds ≤ 1048576)
def OpenSpec.upto (s : _root_.Go.ChangeSpec) : _root_.Go.OpenSpec := { _root_.Go.OpenSpec.ofChange s with cond := some uptoSmall }

/-- 'helmsmanlaw5.GreedyPlanMatchesSpec', WHERE WHAT IT READS IS OF BULK AT MOST 1048576: true; the input reads as it did. -/
def greedyPlanMatchesSpecUptoRow : OpenClaim := { program := "ytdokakhgflljgaagreat", sum := "129a03b1c93e8491fc64d69b949da3b3cb46cff6a25e935832fd9f63fac3ff2a", func := "helmsman/helmsmanlaw5.GreedyPlanMatchesSpec", spec := "greedyPlanMatchesSpec", unfollowed := true, recurses := true, apart := false, narrowed := true }
def GreedyPlanMatchesSpecUptoSaid : Prop := greedyPlanMatchesSpecUptoRow.holds Tryz.pinned (OpenSpec.upto greedyPlanMatchesSpecSpec)

/-- 'helmsmanlaw5.GreedyWeightedMatchesSpec', WHERE WHAT IT READS IS OF BULK AT MOST 1048576: true; the input reads as it did. -/
def greedyWeightedMatchesSpecUptoRow : OpenClaim := { program := "ytdokakhgflljgaagreat", sum := "129a03b1c93e8491fc64d69b949da3b3cb46cff6a25e935832fd9f63fac3ff2a", func := "helmsman/helmsmanlaw5.GreedyWeightedMatchesSpec", spec := "greedyWeightedMatchesSpec", unfollowed := true, recurses := true, apart := false, narrowed := true }
def GreedyWeightedMatchesSpecUptoSaid : Prop := greedyWeightedMatchesSpecUptoRow.holds Tryz.pinned (OpenSpec.upto greedyWeightedMatchesSpecSpec)

/-- 'helmsmanlaw5.GreedyFactorOneIsCheapest', WHERE WHAT IT READS IS OF BULK AT MOST 1048576: true; the input reads as it did. -/
def greedyFactorOneIsCheapestUptoRow : OpenClaim := { program := "ytdokakhgflljgaagreat", sum := "129a03b1c93e8491fc64d69b949da3b3cb46cff6a25e935832fd9f63fac3ff2a", func := "helmsman/helmsmanlaw5.GreedyFactorOneIsCheapest", spec := "greedyFactorOneIsCheapest", unfollowed := true, recurses := true, apart := false, narrowed := true }
def GreedyFactorOneIsCheapestUptoSaid : Prop := greedyFactorOneIsCheapestUptoRow.holds Tryz.pinned (OpenSpec.upto greedyFactorOneIsCheapestSpec)

/-- 'helmsmanlaw5.GreedyKindsAgree', WHERE WHAT IT READS IS OF BULK AT MOST 1048576: true; the input reads as it did. -/
def greedyKindsAgreeUptoRow : OpenClaim := { program := "ytdokakhgflljgaagreat", sum := "129a03b1c93e8491fc64d69b949da3b3cb46cff6a25e935832fd9f63fac3ff2a", func := "helmsman/helmsmanlaw5.GreedyKindsAgree", spec := "greedyKindsAgree", unfollowed := true, recurses := true, apart := false, narrowed := true }
def GreedyKindsAgreeUptoSaid : Prop := greedyKindsAgreeUptoRow.holds Tryz.pinned (OpenSpec.upto greedyKindsAgreeSpec)

end Rows
end Go.Proofs.YtdokakhgflljgaaGreat
