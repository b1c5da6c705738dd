/-
  No cell of these rows narrows 'for every input' (looked for: loops, veiled, ifaces, maps, wideKeys, modest, calm, conditions, laid).
  DERIVED. THE GIVEN ROWS OF THIS SEAT. 3 by the template 'for every input the law returns true; each argument reads behind the call as it read before'; 0 by the template 'total and deterministic' (their statements: YtjcgkmodmjckjaaGreatTotals.lean).
  GIVEN WITH THE SEED: the statements are not yours to turn. If you find one false, say at which input.
  Laid BY PROGRAM, IN A SANDBOX (cutbox-rows.mjs): the forced cells as the released guide's own fill.sh prints them over the translation 04074e7b4270f54d… (all of the seat's roots in one cut). By AI agents, Wed Nov 11 2026. No macro, syntax, notation, axiom, sorry.
-/
import Derived.Test.YtjcgkmodmjckjaaGreatChecked
import GoSem.Claim
import GoSem.ClaimJoined
import GoSem.ClaimMapViews
import Derived.JoinedTies
import Derived.KernelRfl
namespace Go.Proofs.YtjcgkmodmjckjaaGreat
/- THE CELL 'sum', in the pinned program and in every row, IS THE sha256 OF THE DUMP (.gsa) THAT YtjcgkmodmjckjaaGreatProg.lean LOADS. Nothing in Lean hashes anything: it is a label: what it is worth is what the hold of that sum in a sandbox is worth. -/
noncomputable def Tryz.pinned : Pinned := { name := "ytjcgkmodmjckjaagreat", sum := "04074e7b4270f54da98ee269a2daed3c811c55e55bee8e4fc20c9356c70a0c35", checked := Tryz.checked }
namespace Rows
def none {H : Type} : Left H := { results := [], args := [] }

/-- 'helmsmanlaw5.SymbolicLayersMatchSpec': WHATEVER THE INPUT: true; the input reads as it did. -/
def symbolicLayersMatchSpecSpec : ChangeSpec := { name := "symbolicLayersMatchSpec", fn := fun _ => fun
  | [d] => { results := [.lit (.bool true)], args := [d] }
  | _ => none }
def symbolicLayersMatchSpecRow : OpenClaim := { program := "ytjcgkmodmjckjaagreat", sum := "04074e7b4270f54da98ee269a2daed3c811c55e55bee8e4fc20c9356c70a0c35", func := "helmsman/helmsmanlaw5.SymbolicLayersMatchSpec", spec := "symbolicLayersMatchSpec", unfollowed := true, recurses := true, plainKeys := false, apart := false }
def SymbolicLayersMatchSpecSaid : Prop := symbolicLayersMatchSpecRow.holds Tryz.pinned (OpenSpec.ofChange symbolicLayersMatchSpecSpec)

/-- ITS FALSE NEIGHBOUR: 'it returns false'. Refute it at one input. -/
def symbolicLayersMatchSpecWrong : ChangeSpec := { name := "symbolicLayersMatchSpec", fn := fun _ => fun
  | [d] => { results := [.lit (.bool false)], args := [d] }
  | _ => none }
def SymbolicLayersMatchSpecWrongFalsely : Prop := symbolicLayersMatchSpecRow.holds Tryz.pinned (OpenSpec.ofChange symbolicLayersMatchSpecWrong)

/-- 'helmsmanlaw5.SymbolicPlanMatchesSpec': WHATEVER THE INPUT: true; the input reads as it did. -/
def symbolicPlanMatchesSpecSpec : ChangeSpec := { name := "symbolicPlanMatchesSpec", fn := fun _ => fun
  | [d] => { results := [.lit (.bool true)], args := [d] }
  | _ => none }
def symbolicPlanMatchesSpecRow : OpenClaim := { program := "ytjcgkmodmjckjaagreat", sum := "04074e7b4270f54da98ee269a2daed3c811c55e55bee8e4fc20c9356c70a0c35", func := "helmsman/helmsmanlaw5.SymbolicPlanMatchesSpec", spec := "symbolicPlanMatchesSpec", unfollowed := true, recurses := true, plainKeys := false, apart := false }
def SymbolicPlanMatchesSpecSaid : Prop := symbolicPlanMatchesSpecRow.holds Tryz.pinned (OpenSpec.ofChange symbolicPlanMatchesSpecSpec)

/-- ITS FALSE NEIGHBOUR: 'it returns false'. Refute it at one input. -/
def symbolicPlanMatchesSpecWrong : ChangeSpec := { name := "symbolicPlanMatchesSpec", fn := fun _ => fun
  | [d] => { results := [.lit (.bool false)], args := [d] }
  | _ => none }
def SymbolicPlanMatchesSpecWrongFalsely : Prop := symbolicPlanMatchesSpecRow.holds Tryz.pinned (OpenSpec.ofChange symbolicPlanMatchesSpecWrong)

/-- 'helmsmanlaw5.SymbolicAgreesWithAstar': WHATEVER THE INPUT: true; the input reads as it did. -/
def symbolicAgreesWithAstarSpec : ChangeSpec := { name := "symbolicAgreesWithAstar", fn := fun _ => fun
  | [d] => { results := [.lit (.bool true)], args := [d] }
  | _ => none }
def symbolicAgreesWithAstarRow : OpenClaim := { program := "ytjcgkmodmjckjaagreat", sum := "04074e7b4270f54da98ee269a2daed3c811c55e55bee8e4fc20c9356c70a0c35", func := "helmsman/helmsmanlaw5.SymbolicAgreesWithAstar", spec := "symbolicAgreesWithAstar", unfollowed := true, recurses := true, plainKeys := false, apart := false }
def SymbolicAgreesWithAstarSaid : Prop := symbolicAgreesWithAstarRow.holds Tryz.pinned (OpenSpec.ofChange symbolicAgreesWithAstarSpec)

/-- ITS FALSE NEIGHBOUR: 'it returns false'. Refute it at one input. -/
def symbolicAgreesWithAstarWrong : ChangeSpec := { name := "symbolicAgreesWithAstar", fn := fun _ => fun
  | [d] => { results := [.lit (.bool false)], args := [d] }
  | _ => none }
def SymbolicAgreesWithAstarWrongFalsely : Prop := symbolicAgreesWithAstarRow.holds Tryz.pinned (OpenSpec.ofChange symbolicAgreesWithAstarWrong)

/- THE SECOND FORM. 'bulk': how many values and letters a reading holds, each counted each time it is reached (what is shared counts as often as it is met; a slice's spare places count too). A statement '..UptoSaid' is the law's where the arguments, and the package variables that the reading takes, are together of bulk at most 1048576: NARROWER than '..Said'. Prove '..Said' where nothing that the law and all that it calls make is longer than what came in: it says more and counts as full. Else prove '..UptoSaid'. A law counts once. -/
mutual
def uptoBulk {H : Type} : DataW H → Nat
  | .lit (.string bytes) => bytes.length + 1
  | .lit _ => 1
  | .nil => 1
  | .ptr d => uptoBulk d + 1
  | .slice elems spare => uptoBulkAll elems + uptoBulkAll spare + 1
  | .agg parts => uptoBulkAll parts + 1
  | .iface _ d => uptoBulk d + 1
  | .map entries => uptoBulkEntries entries + 1
  | .held _ => 1
def uptoBulkAll {H : Type} : List (DataW H) → Nat
  | [] => 0
  | d :: r => uptoBulk d + uptoBulkAll r
def uptoBulkEntries {H : Type} : List (Lit × DataW H) → Nat
  | [] => 0
  | x :: r => uptoBulkEntry x + uptoBulkEntries r
def uptoBulkEntry {H : Type} : Lit × DataW H → Nat
  | (.string bytes, d) => bytes.length + uptoBulk d + 1
  | (_, d) => uptoBulk d + 1
 end
def uptoSmall : (H : Type) → List (DataW H) → Bool := fun _ ds => decide (uptoBulkAll ds ≤ 1048576)
def OpenSpec.upto (s : _root_.Go.ChangeSpec) : _root_.Go.OpenSpec := { _root_.Go.OpenSpec.ofChange s with cond := some uptoSmall }

/-- 'helmsmanlaw5.SymbolicLayersMatchSpec', WHERE WHAT IT READS IS OF BULK AT MOST 1048576: true; the input reads as it did. -/
def symbolicLayersMatchSpecUptoRow : OpenClaim := { program := "ytjcgkmodmjckjaagreat", sum := "04074e7b4270f54da98ee269a2daed3c811c55e55bee8e4fc20c9356c70a0c35", func := "helmsman/helmsmanlaw5.SymbolicLayersMatchSpec", spec := "symbolicLayersMatchSpec", unfollowed := true, recurses := true, plainKeys := false, apart := false, narrowed := true }
def SymbolicLayersMatchSpecUptoSaid : Prop := symbolicLayersMatchSpecUptoRow.holds Tryz.pinned (OpenSpec.upto symbolicLayersMatchSpecSpec)

/-- 'helmsmanlaw5.SymbolicPlanMatchesSpec', WHERE WHAT IT READS IS OF BULK AT MOST 1048576: true; the input reads as it did. -/
def symbolicPlanMatchesSpecUptoRow : OpenClaim := { program := "ytjcgkmodmjckjaagreat", sum := "04074e7b4270f54da98ee269a2daed3c811c55e55bee8e4fc20c9356c70a0c35", func := "helmsman/helmsmanlaw5.SymbolicPlanMatchesSpec", spec := "symbolicPlanMatchesSpec", unfollowed := true, recurses := true, plainKeys := false, apart := false, narrowed := true }
def SymbolicPlanMatchesSpecUptoSaid : Prop := symbolicPlanMatchesSpecUptoRow.holds Tryz.pinned (OpenSpec.upto symbolicPlanMatchesSpecSpec)

/-- 'helmsmanlaw5.SymbolicAgreesWithAstar', WHERE WHAT IT READS IS OF BULK AT MOST 1048576: true; the input reads as it did. -/
def symbolicAgreesWithAstarUptoRow : OpenClaim := { program := "ytjcgkmodmjckjaagreat", sum := "04074e7b4270f54da98ee269a2daed3c811c55e55bee8e4fc20c9356c70a0c35", func := "helmsman/helmsmanlaw5.SymbolicAgreesWithAstar", spec := "symbolicAgreesWithAstar", unfollowed := true, recurses := true, plainKeys := false, apart := false, narrowed := true }
def SymbolicAgreesWithAstarUptoSaid : Prop := symbolicAgreesWithAstarUptoRow.holds Tryz.pinned (OpenSpec.upto symbolicAgreesWithAstarSpec)

end Rows
end Go.Proofs.YtjcgkmodmjckjaaGreat
