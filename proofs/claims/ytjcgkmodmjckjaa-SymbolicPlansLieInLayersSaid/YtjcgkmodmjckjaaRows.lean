/-
  No cell of these rows narrows 'for every input' (looked for: loops, veiled, ifaces, maps, wideKeys, modest, calm, conditions, laid).
  DERIVED. THE GIVEN ROWS OF THIS SEAT. 2 by the template 'for every input the law returns true; each argument reads behind the call as it read before'; 0 by the template 'total and deterministic' (their statements: YtjcgkmodmjckjaaTotals.lean).
  GIVEN WITH THE SEED: the statements are not yours to turn. If you find one false, say at which input.
  Laid BY PROGRAM, IN A SANDBOX (cutbox-rows.mjs): the forced cells as the released guide's own fill.sh prints them over the translation 3a7527538fbd61e7… (all of the seat's roots in one cut). By AI agents, Wed Nov 11 2026. No macro, syntax, notation, axiom, sorry.
-/
import Derived.Test.YtjcgkmodmjckjaaChecked
import GoSem.Claim
import GoSem.ClaimJoined
import GoSem.ClaimMapViews
import Derived.JoinedTies
import Derived.KernelRfl
namespace Go.Proofs.Ytjcgkmodmjckjaa
/- THE CELL 'sum', in the pinned program and in every row, IS THE sha256 OF THE DUMP (.gsa) THAT YtjcgkmodmjckjaaProg.lean LOADS. Nothing in Lean hashes anything: it is a label: what it is worth is what the hold of that sum in a sandbox is worth. -/
noncomputable def Try.pinned : Pinned := { name := "ytjcgkmodmjckjaa", sum := "3a7527538fbd61e75c922e31f345b6e5fd1b8f4d6281e1c7b3d2c4fd0b93bea2", checked := Try.checked }
namespace Rows
def none {H : Type} : Left H := { results := [], args := [] }

/-- 'helmsmanlaw5.SymbolicLayersAddUp': WHATEVER THE INPUT: true; the input reads as it did. -/
def symbolicLayersAddUpSpec : ChangeSpec := { name := "symbolicLayersAddUp", fn := fun _ => fun
  | [d] => { results := [.lit (.bool true)], args := [d] }
  | _ => none }
def symbolicLayersAddUpRow : OpenClaim := { program := "ytjcgkmodmjckjaa", sum := "3a7527538fbd61e75c922e31f345b6e5fd1b8f4d6281e1c7b3d2c4fd0b93bea2", func := "helmsman/helmsmanlaw5.SymbolicLayersAddUp", spec := "symbolicLayersAddUp", unfollowed := true, recurses := true, plainKeys := false, apart := false }
def SymbolicLayersAddUpSaid : Prop := symbolicLayersAddUpRow.holds Try.pinned (OpenSpec.ofChange symbolicLayersAddUpSpec)

/-- ITS FALSE NEIGHBOUR: 'it returns false'. Refute it at one input. -/
def symbolicLayersAddUpWrong : ChangeSpec := { name := "symbolicLayersAddUp", fn := fun _ => fun
  | [d] => { results := [.lit (.bool false)], args := [d] }
  | _ => none }
def SymbolicLayersAddUpWrongFalsely : Prop := symbolicLayersAddUpRow.holds Try.pinned (OpenSpec.ofChange symbolicLayersAddUpWrong)

/-- 'helmsmanlaw5.SymbolicPlansLieInLayers': WHATEVER THE INPUT: true; the input reads as it did. -/
def symbolicPlansLieInLayersSpec : ChangeSpec := { name := "symbolicPlansLieInLayers", fn := fun _ => fun
  | [d] => { results := [.lit (.bool true)], args := [d] }
  | _ => none }
def symbolicPlansLieInLayersRow : OpenClaim := { program := "ytjcgkmodmjckjaa", sum := "3a7527538fbd61e75c922e31f345b6e5fd1b8f4d6281e1c7b3d2c4fd0b93bea2", func := "helmsman/helmsmanlaw5.SymbolicPlansLieInLayers", spec := "symbolicPlansLieInLayers", unfollowed := true, recurses := true, plainKeys := false, apart := false }
def SymbolicPlansLieInLayersSaid : Prop := symbolicPlansLieInLayersRow.holds Try.pinned (OpenSpec.ofChange symbolicPlansLieInLayersSpec)

/-- ITS FALSE NEIGHBOUR: 'it returns false'. Refute it at one input. -/
def symbolicPlansLieInLayersWrong : ChangeSpec := { name := "symbolicPlansLieInLayers", fn := fun _ => fun
  | [d] => { results := [.lit (.bool false)], args := [d] }
  | _ => none }
def SymbolicPlansLieInLayersWrongFalsely : Prop := symbolicPlansLieInLayersRow.holds Try.pinned (OpenSpec.ofChange symbolicPlansLieInLayersWrong)

/- THE SECOND FORM. 'bulk': how many values and letters a reading holds, each counted each time it is reached (what is shared counts as often as it is met; a slice's spare places count too). A statement '..UptoSaid' is the law's where the arguments, and the package variables that the reading takes, are together of bulk at most 1048576: NARROWER than '..Said'. Prove '..Said' where nothing that the law and all that it calls make is longer than what came in: it says more and counts as full. Else prove '..UptoSaid'. A law counts once. -/
mutual
def uptoBulk {H : Type} : DataW H → Nat
  | .lit (.string bytes) => bytes.length + 1
  | .lit _ => 1
  | .nil => 1
  | .ptr d => uptoBulk d + 1
  | .slice elems spare => uptoBulkAll elems + uptoBulkAll spare + 1
  | .agg parts => uptoBulkAll parts + 1
  | .iface _ d => uptoBulk d + 1
  | .map entries => uptoBulkEntries entries + 1
  | .held _ => 1
def uptoBulkAll {H : Type} : List (DataW H) → Nat
  | [] => 0
  | d :: r => uptoBulk d + uptoBulkAll r
def uptoBulkEntries {H : Type} : List (Lit × DataW H) → Nat
  | [] => 0
  | x :: r => uptoBulkEntry x + uptoBulkEntries r
def uptoBulkEntry {H : Type} : Lit × DataW H → Nat
  | (.string bytes, d) => bytes.length + uptoBulk d + 1
  | (_, d) => uptoBulk d + 1
 end
def uptoSmall : (H : Type) → List (DataW H) → Bool := fun _ ds => decide (uptoBulkAll ds ≤ 1048576)
def OpenSpec.upto (s : _root_.Go.ChangeSpec) : _root_.Go.OpenSpec := { _root_.Go.OpenSpec.ofChange s with cond := some uptoSmall }

/-- 'helmsmanlaw5.SymbolicLayersAddUp', WHERE WHAT IT READS IS OF BULK AT MOST 1048576: true; the input reads as it did. -/
def symbolicLayersAddUpUptoRow : OpenClaim := { program := "ytjcgkmodmjckjaa", sum := "3a7527538fbd61e75c922e31f345b6e5fd1b8f4d6281e1c7b3d2c4fd0b93bea2", func := "helmsman/helmsmanlaw5.SymbolicLayersAddUp", spec := "symbolicLayersAddUp", unfollowed := true, recurses := true, plainKeys := false, apart := false, narrowed := true }
def SymbolicLayersAddUpUptoSaid : Prop := symbolicLayersAddUpUptoRow.holds Try.pinned (OpenSpec.upto symbolicLayersAddUpSpec)

/-- 'helmsmanlaw5.SymbolicPlansLieInLayers', WHERE WHAT IT READS IS OF BULK AT MOST 1048576: true; the input reads as it did. -/
def symbolicPlansLieInLayersUptoRow : OpenClaim := { program := "ytjcgkmodmjckjaa", sum := "3a7527538fbd61e75c922e31f345b6e5fd1b8f4d6281e1c7b3d2c4fd0b93bea2", func := "helmsman/helmsmanlaw5.SymbolicPlansLieInLayers", spec := "symbolicPlansLieInLayers", unfollowed := true, recurses := true, plainKeys := false, apart := false, narrowed := true }
def SymbolicPlansLieInLayersUptoSaid : Prop := symbolicPlansLieInLayersUptoRow.holds Try.pinned (OpenSpec.upto symbolicPlansLieInLayersSpec)

end Rows
end Go.Proofs.Ytjcgkmodmjckjaa
