/-
  No cell of these rows narrows 'for every input' (looked for: loops, veiled, ifaces, maps, wideKeys, modest, calm, conditions, laid).
  DERIVED. THE GIVEN ROWS OF THIS SEAT. 5 by the template 'for every input the law returns true; each argument reads behind the call as it read before'; 0 by the template 'total and deterministic' (their statements: YtlghadoejmnllaaTotals.lean).
  GIVEN WITH THE SEED: the statements are not yours to turn. If you find one false, say at which input.
  Laid BY PROGRAM, IN A SANDBOX (cutbox-rows.mjs): the forced cells as the released guide's own fill.sh prints them over the translation c9f06f2fb049db42… (all of the seat's roots in one cut). By AI agents, Wed Nov 11 2026. No macro, syntax, notation, axiom, sorry.
-/
import Derived.Test.YtlghadoejmnllaaChecked
import GoSem.Claim
import GoSem.ClaimJoined
import GoSem.ClaimMapViews
import Derived.JoinedTies
import Derived.KernelRfl
namespace Go.Proofs.Ytlghadoejmnllaa
/- THE CELL 'sum', in the pinned program and in every row, IS THE sha256 OF THE DUMP (.gsa) THAT YtlghadoejmnllaaProg.lean LOADS. Nothing in Lean hashes anything: it is a label: what it is worth is what the hold of that sum in a sandbox is worth. -/
noncomputable def Try.pinned : Pinned := { name := "ytlghadoejmnllaa", sum := "c9f06f2fb049db4225fc5861410ddbe1363ce52df9fff585f400f90149b2463c", checked := Try.checked }
namespace Rows
def none {H : Type} : Left H := { results := [], args := [] }

/-- 'helmsmanlaw5.OpenlistPlayMatchesSpec': WHATEVER THE INPUT: true; the input reads as it did. -/
def openlistPlayMatchesSpecSpec : ChangeSpec := { name := "openlistPlayMatchesSpec", fn := fun _ => fun
  | [d] => { results := [.lit (.bool true)], args := [d] }
  | _ => none }
def openlistPlayMatchesSpecRow : OpenClaim := { program := "ytlghadoejmnllaa", sum := "c9f06f2fb049db4225fc5861410ddbe1363ce52df9fff585f400f90149b2463c", func := "helmsman/helmsmanlaw5.OpenlistPlayMatchesSpec", spec := "openlistPlayMatchesSpec", unfollowed := true, recurses := true, apart := false }
def OpenlistPlayMatchesSpecSaid : Prop := openlistPlayMatchesSpecRow.holds Try.pinned (OpenSpec.ofChange openlistPlayMatchesSpecSpec)

/-- ITS FALSE NEIGHBOUR: 'it returns false'. Refute it at one input. -/
def openlistPlayMatchesSpecWrong : ChangeSpec := { name := "openlistPlayMatchesSpec", fn := fun _ => fun
  | [d] => { results := [.lit (.bool false)], args := [d] }
  | _ => none }
def OpenlistPlayMatchesSpecWrongFalsely : Prop := openlistPlayMatchesSpecRow.holds Try.pinned (OpenSpec.ofChange openlistPlayMatchesSpecWrong)

/-- 'helmsmanlaw5.OpenlistSortMatchesSpec': WHATEVER THE INPUT: true; the input reads as it did. -/
def openlistSortMatchesSpecSpec : ChangeSpec := { name := "openlistSortMatchesSpec", fn := fun _ => fun
  | [d] => { results := [.lit (.bool true)], args := [d] }
  | _ => none }
def openlistSortMatchesSpecRow : OpenClaim := { program := "ytlghadoejmnllaa", sum := "c9f06f2fb049db4225fc5861410ddbe1363ce52df9fff585f400f90149b2463c", func := "helmsman/helmsmanlaw5.OpenlistSortMatchesSpec", spec := "openlistSortMatchesSpec", unfollowed := true, recurses := true, apart := false }
def OpenlistSortMatchesSpecSaid : Prop := openlistSortMatchesSpecRow.holds Try.pinned (OpenSpec.ofChange openlistSortMatchesSpecSpec)

/-- ITS FALSE NEIGHBOUR: 'it returns false'. Refute it at one input. -/
def openlistSortMatchesSpecWrong : ChangeSpec := { name := "openlistSortMatchesSpec", fn := fun _ => fun
  | [d] => { results := [.lit (.bool false)], args := [d] }
  | _ => none }
def OpenlistSortMatchesSpecWrongFalsely : Prop := openlistSortMatchesSpecRow.holds Try.pinned (OpenSpec.ofChange openlistSortMatchesSpecWrong)

/-- 'helmsmanlaw5.OpenlistNothingIsLost': WHATEVER THE INPUT: true; the input reads as it did. -/
def openlistNothingIsLostSpec : ChangeSpec := { name := "openlistNothingIsLost", fn := fun _ => fun
  | [d] => { results := [.lit (.bool true)], args := [d] }
  | _ => none }
def openlistNothingIsLostRow : OpenClaim := { program := "ytlghadoejmnllaa", sum := "c9f06f2fb049db4225fc5861410ddbe1363ce52df9fff585f400f90149b2463c", func := "helmsman/helmsmanlaw5.OpenlistNothingIsLost", spec := "openlistNothingIsLost", unfollowed := true, recurses := true, apart := false }
def OpenlistNothingIsLostSaid : Prop := openlistNothingIsLostRow.holds Try.pinned (OpenSpec.ofChange openlistNothingIsLostSpec)

/-- ITS FALSE NEIGHBOUR: 'it returns false'. Refute it at one input. -/
def openlistNothingIsLostWrong : ChangeSpec := { name := "openlistNothingIsLost", fn := fun _ => fun
  | [d] => { results := [.lit (.bool false)], args := [d] }
  | _ => none }
def OpenlistNothingIsLostWrongFalsely : Prop := openlistNothingIsLostRow.holds Try.pinned (OpenSpec.ofChange openlistNothingIsLostWrong)

/-- 'helmsmanlaw5.OpenlistDecreaseIsDropAndInsert': WHATEVER THE INPUT: true; the input reads as it did. -/
def openlistDecreaseIsDropAndInsertSpec : ChangeSpec := { name := "openlistDecreaseIsDropAndInsert", fn := fun _ => fun
  | [d] => { results := [.lit (.bool true)], args := [d] }
  | _ => none }
def openlistDecreaseIsDropAndInsertRow : OpenClaim := { program := "ytlghadoejmnllaa", sum := "c9f06f2fb049db4225fc5861410ddbe1363ce52df9fff585f400f90149b2463c", func := "helmsman/helmsmanlaw5.OpenlistDecreaseIsDropAndInsert", spec := "openlistDecreaseIsDropAndInsert", unfollowed := true, recurses := true, apart := false }
def OpenlistDecreaseIsDropAndInsertSaid : Prop := openlistDecreaseIsDropAndInsertRow.holds Try.pinned (OpenSpec.ofChange openlistDecreaseIsDropAndInsertSpec)

/-- ITS FALSE NEIGHBOUR: 'it returns false'. Refute it at one input. -/
def openlistDecreaseIsDropAndInsertWrong : ChangeSpec := { name := "openlistDecreaseIsDropAndInsert", fn := fun _ => fun
  | [d] => { results := [.lit (.bool false)], args := [d] }
  | _ => none }
def OpenlistDecreaseIsDropAndInsertWrongFalsely : Prop := openlistDecreaseIsDropAndInsertRow.holds Try.pinned (OpenSpec.ofChange openlistDecreaseIsDropAndInsertWrong)

/-- 'helmsmanlaw5.OpenlistSortIsPlay': WHATEVER THE INPUT: true; the input reads as it did. -/
def openlistSortIsPlaySpec : ChangeSpec := { name := "openlistSortIsPlay", fn := fun _ => fun
  | [d] => { results := [.lit (.bool true)], args := [d] }
  | _ => none }
def openlistSortIsPlayRow : OpenClaim := { program := "ytlghadoejmnllaa", sum := "c9f06f2fb049db4225fc5861410ddbe1363ce52df9fff585f400f90149b2463c", func := "helmsman/helmsmanlaw5.OpenlistSortIsPlay", spec := "openlistSortIsPlay", unfollowed := true, recurses := true, apart := false }
def OpenlistSortIsPlaySaid : Prop := openlistSortIsPlayRow.holds Try.pinned (OpenSpec.ofChange openlistSortIsPlaySpec)

/-- ITS FALSE NEIGHBOUR: 'it returns false'. Refute it at one input. -/
def openlistSortIsPlayWrong : ChangeSpec := { name := "openlistSortIsPlay", fn := fun _ => fun
  | [d] => { results := [.lit (.bool false)], args := [d] }
  | _ => none }
def OpenlistSortIsPlayWrongFalsely : Prop := openlistSortIsPlayRow.holds Try.pinned (OpenSpec.ofChange openlistSortIsPlayWrong)

/- THE SECOND FORM. 'bulk': how many values and letters a reading holds, each counted each time it is reached (what is shared counts as often as it is met; a slice's spare places count too). A statement '..UptoSaid' is the law's where the arguments, and the package variables that the reading takes, are together of bulk at most 1048576: NARROWER than '..Said'. Prove '..Said' where nothing that the law and all that it calls make is longer than what came in: it says more and counts as full. Else prove '..UptoSaid'. A law counts once. -/
mutual
def uptoBulk {H : Type} : DataW H → Nat
  | .lit (.string bytes) => bytes.length + 1
  | .lit _ => 1
  | .nil => 1
  | .ptr d => uptoBulk d + 1
  | .slice elems spare => uptoBulkAll elems + uptoBulkAll spare + 1
  | .agg parts => uptoBulkAll parts + 1
  | .iface _ d => uptoBulk d + 1
  | .map entries => uptoBulkEntries entries + 1
  | .held _ => 1
def uptoBulkAll {H : Type} : List (DataW H) → Nat
  | [] => 0
  | d :: r => uptoBulk d + uptoBulkAll r
def uptoBulkEntries {H : Type} : List (Lit × DataW H) → Nat
  | [] => 0
  | x :: r => uptoBulkEntry x + uptoBulkEntries r
def uptoBulkEntry {H : Type} : Lit × DataW H → Nat
  | (.string bytes, d) => bytes.length + uptoBulk d + 1
  | (_, d) => uptoBulk d + 1
 end
def uptoSmall : (H : Type) → List (DataW H) → Bool := fun _ ds => decide (uptoBulkAll ds ≤ 1048576)
def OpenSpec.upto (s : _root_.Go.ChangeSpec) : _root_.Go.OpenSpec := { _root_.Go.OpenSpec.ofChange s with cond := some uptoSmall }

/-- 'helmsmanlaw5.OpenlistPlayMatchesSpec', WHERE WHAT IT READS IS OF BULK AT MOST 1048576: true; the input reads as it did. -/
def openlistPlayMatchesSpecUptoRow : OpenClaim := { program := "ytlghadoejmnllaa", sum := "c9f06f2fb049db4225fc5861410ddbe1363ce52df9fff585f400f90149b2463c", func := "helmsman/helmsmanlaw5.OpenlistPlayMatchesSpec", spec := "openlistPlayMatchesSpec", unfollowed := true, recurses := true, apart := false, narrowed := true }
def OpenlistPlayMatchesSpecUptoSaid : Prop := openlistPlayMatchesSpecUptoRow.holds Try.pinned (OpenSpec.upto openlistPlayMatchesSpecSpec)

/-- 'helmsmanlaw5.OpenlistSortMatchesSpec', WHERE WHAT IT READS IS OF BULK AT MOST 1048576: true; the input reads as it did. -/
def openlistSortMatchesSpecUptoRow : OpenClaim := { program := "ytlghadoejmnllaa", sum := "c9f06f2fb049db4225fc5861410ddbe1363ce52df9fff585f400f90149b2463c", func := "helmsman/helmsmanlaw5.OpenlistSortMatchesSpec", spec := "openlistSortMatchesSpec", unfollowed := true, recurses := true, apart := false, narrowed := true }
def OpenlistSortMatchesSpecUptoSaid : Prop := openlistSortMatchesSpecUptoRow.holds Try.pinned (OpenSpec.upto openlistSortMatchesSpecSpec)

/-- 'helmsmanlaw5.OpenlistNothingIsLost', WHERE WHAT IT READS IS OF BULK AT MOST 1048576: true; the input reads as it did. -/
def openlistNothingIsLostUptoRow : OpenClaim := { program := "ytlghadoejmnllaa", sum := "c9f06f2fb049db4225fc5861410ddbe1363ce52df9fff585f400f90149b2463c", func := "helmsman/helmsmanlaw5.OpenlistNothingIsLost", spec := "openlistNothingIsLost", unfollowed := true, recurses := true, apart := false, narrowed := true }
def OpenlistNothingIsLostUptoSaid : Prop := openlistNothingIsLostUptoRow.holds Try.pinned (OpenSpec.upto openlistNothingIsLostSpec)

/-- 'helmsmanlaw5.OpenlistDecreaseIsDropAndInsert', WHERE WHAT IT READS IS OF BULK AT MOST 1048576: true; the input reads as it did. -/
def openlistDecreaseIsDropAndInsertUptoRow : OpenClaim := { program := "ytlghadoejmnllaa", sum := "c9f06f2fb049db4225fc5861410ddbe1363ce52df9fff585f400f90149b2463c", func := "helmsman/helmsmanlaw5.OpenlistDecreaseIsDropAndInsert", spec := "openlistDecreaseIsDropAndInsert", unfollowed := true, recurses := true, apart := false, narrowed := true }
def OpenlistDecreaseIsDropAndInsertUptoSaid : Prop := openlistDecreaseIsDropAndInsertUptoRow.holds Try.pinned (OpenSpec.upto openlistDecreaseIsDropAndInsertSpec)

/-- 'helmsmanlaw5.OpenlistSortIsPlay', WHERE WHAT IT READS IS OF BULK AT MOST 1048576: true; the input reads as it did. -/
def openlistSortIsPlayUptoRow : OpenClaim := { program := "ytlghadoejmnllaa", sum := "c9f06f2fb049db4225fc5861410ddbe1363ce52df9fff585f400f90149b2463c", func := "helmsman/helmsmanlaw5.OpenlistSortIsPlay", spec := "openlistSortIsPlay", unfollowed := true, recurses := true, apart := false, narrowed := true }
def OpenlistSortIsPlayUptoSaid : Prop := openlistSortIsPlayUptoRow.holds Try.pinned (OpenSpec.upto openlistSortIsPlaySpec)

end Rows
end Go.Proofs.Ytlghadoejmnllaa
