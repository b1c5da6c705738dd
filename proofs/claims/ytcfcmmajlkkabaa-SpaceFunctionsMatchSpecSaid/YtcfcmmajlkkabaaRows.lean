/-
  No cell of these rows narrows 'for every input' (looked for: loops, veiled, ifaces, maps, wideKeys, modest, calm, conditions, laid).
  DERIVED. THE GIVEN ROWS OF THIS SEAT. 12 by the template 'for every input the law returns true; each argument reads behind the call as it read before'; 0 by the template 'total and deterministic' (their statements: YtcfcmmajlkkabaaTotals.lean).
  GIVEN WITH THE SEED: the statements are not yours to turn. If you find one false, say at which input.
  Laid BY PROGRAM, IN A SANDBOX (cutbox-rows.mjs): the forced cells as the released guide's own fill.sh prints them over the translation 933de1a1a66d0f7e… (all of the seat's roots in one cut). By AI agents, Wed Nov 11 2026. No macro, syntax, notation, axiom, sorry.
-/
import Derived.Test.YtcfcmmajlkkabaaChecked
import GoSem.Claim
import GoSem.ClaimJoined
import GoSem.ClaimMapViews
import Derived.JoinedTies
import Derived.KernelRfl
namespace Go.Proofs.Ytcfcmmajlkkabaa
/- THE CELL 'sum', in the pinned program and in every row, IS THE sha256 OF THE DUMP (.gsa) THAT YtcfcmmajlkkabaaProg.lean LOADS. Nothing in Lean hashes anything: it is a label: what it is worth is what the hold of that sum in a sandbox is worth. -/
noncomputable def Try.pinned : Pinned := { name := "ytcfcmmajlkkabaa", sum := "933de1a1a66d0f7e86e47ebf03fbfb20dc2258aed1d26ae5092d79cb04a5e835", checked := Try.checked }
namespace Rows
def none {H : Type} : Left H := { results := [], args := [] }

/-- 'helmsmanlaw5.BreadthPlanMatchesSpec': WHATEVER THE INPUT: true; the input reads as it did. -/
def breadthPlanMatchesSpecSpec : ChangeSpec := { name := "breadthPlanMatchesSpec", fn := fun _ => fun
  | [d] => { results := [.lit (.bool true)], args := [d] }
  | _ => none }
def breadthPlanMatchesSpecRow : OpenClaim := { program := "ytcfcmmajlkkabaa", sum := "933de1a1a66d0f7e86e47ebf03fbfb20dc2258aed1d26ae5092d79cb04a5e835", func := "helmsman/helmsmanlaw5.BreadthPlanMatchesSpec", spec := "breadthPlanMatchesSpec", unfollowed := true, recurses := true, apart := false }
def BreadthPlanMatchesSpecSaid : Prop := breadthPlanMatchesSpecRow.holds Try.pinned (OpenSpec.ofChange breadthPlanMatchesSpecSpec)

/-- ITS FALSE NEIGHBOUR: 'it returns false'. Refute it at one input. -/
def breadthPlanMatchesSpecWrong : ChangeSpec := { name := "breadthPlanMatchesSpec", fn := fun _ => fun
  | [d] => { results := [.lit (.bool false)], args := [d] }
  | _ => none }
def BreadthPlanMatchesSpecWrongFalsely : Prop := breadthPlanMatchesSpecRow.holds Try.pinned (OpenSpec.ofChange breadthPlanMatchesSpecWrong)

/-- 'helmsmanlaw5.BreadthReachMatchesSpec': WHATEVER THE INPUT: true; the input reads as it did. -/
def breadthReachMatchesSpecSpec : ChangeSpec := { name := "breadthReachMatchesSpec", fn := fun _ => fun
  | [d1, d2] => { results := [.lit (.bool true)], args := [d1, d2] }
  | _ => none }
def breadthReachMatchesSpecRow : OpenClaim := { program := "ytcfcmmajlkkabaa", sum := "933de1a1a66d0f7e86e47ebf03fbfb20dc2258aed1d26ae5092d79cb04a5e835", func := "helmsman/helmsmanlaw5.BreadthReachMatchesSpec", spec := "breadthReachMatchesSpec", unfollowed := true, recurses := true, apart := false }
def BreadthReachMatchesSpecSaid : Prop := breadthReachMatchesSpecRow.holds Try.pinned (OpenSpec.ofChange breadthReachMatchesSpecSpec)

/-- ITS FALSE NEIGHBOUR: 'it returns false'. Refute it at one input. -/
def breadthReachMatchesSpecWrong : ChangeSpec := { name := "breadthReachMatchesSpec", fn := fun _ => fun
  | [d1, d2] => { results := [.lit (.bool false)], args := [d1, d2] }
  | _ => none }
def BreadthReachMatchesSpecWrongFalsely : Prop := breadthReachMatchesSpecRow.holds Try.pinned (OpenSpec.ofChange breadthReachMatchesSpecWrong)

/-- 'helmsmanlaw5.BreadthBeginningsAreShortest': WHATEVER THE INPUT: true; the input reads as it did. -/
def breadthBeginningsAreShortestSpec : ChangeSpec := { name := "breadthBeginningsAreShortest", fn := fun _ => fun
  | [d] => { results := [.lit (.bool true)], args := [d] }
  | _ => none }
def breadthBeginningsAreShortestRow : OpenClaim := { program := "ytcfcmmajlkkabaa", sum := "933de1a1a66d0f7e86e47ebf03fbfb20dc2258aed1d26ae5092d79cb04a5e835", func := "helmsman/helmsmanlaw5.BreadthBeginningsAreShortest", spec := "breadthBeginningsAreShortest", unfollowed := true, recurses := true, apart := false }
def BreadthBeginningsAreShortestSaid : Prop := breadthBeginningsAreShortestRow.holds Try.pinned (OpenSpec.ofChange breadthBeginningsAreShortestSpec)

/-- ITS FALSE NEIGHBOUR: 'it returns false'. Refute it at one input. -/
def breadthBeginningsAreShortestWrong : ChangeSpec := { name := "breadthBeginningsAreShortest", fn := fun _ => fun
  | [d] => { results := [.lit (.bool false)], args := [d] }
  | _ => none }
def BreadthBeginningsAreShortestWrongFalsely : Prop := breadthBeginningsAreShortestRow.holds Try.pinned (OpenSpec.ofChange breadthBeginningsAreShortestWrong)

/-- 'helmsmanlaw5.NoveltyPlanMatchesSpec': WHATEVER THE INPUT: true; the input reads as it did. -/
def noveltyPlanMatchesSpecSpec : ChangeSpec := { name := "noveltyPlanMatchesSpec", fn := fun _ => fun
  | [d1, d2] => { results := [.lit (.bool true)], args := [d1, d2] }
  | _ => none }
def noveltyPlanMatchesSpecRow : OpenClaim := { program := "ytcfcmmajlkkabaa", sum := "933de1a1a66d0f7e86e47ebf03fbfb20dc2258aed1d26ae5092d79cb04a5e835", func := "helmsman/helmsmanlaw5.NoveltyPlanMatchesSpec", spec := "noveltyPlanMatchesSpec", unfollowed := true, recurses := true, apart := false }
def NoveltyPlanMatchesSpecSaid : Prop := noveltyPlanMatchesSpecRow.holds Try.pinned (OpenSpec.ofChange noveltyPlanMatchesSpecSpec)

/-- ITS FALSE NEIGHBOUR: 'it returns false'. Refute it at one input. -/
def noveltyPlanMatchesSpecWrong : ChangeSpec := { name := "noveltyPlanMatchesSpec", fn := fun _ => fun
  | [d1, d2] => { results := [.lit (.bool false)], args := [d1, d2] }
  | _ => none }
def NoveltyPlanMatchesSpecWrongFalsely : Prop := noveltyPlanMatchesSpecRow.holds Try.pinned (OpenSpec.ofChange noveltyPlanMatchesSpecWrong)

/-- 'helmsmanlaw5.NoveltyWidthMatchesSpec': WHATEVER THE INPUT: true; the input reads as it did. -/
def noveltyWidthMatchesSpecSpec : ChangeSpec := { name := "noveltyWidthMatchesSpec", fn := fun _ => fun
  | [d] => { results := [.lit (.bool true)], args := [d] }
  | _ => none }
def noveltyWidthMatchesSpecRow : OpenClaim := { program := "ytcfcmmajlkkabaa", sum := "933de1a1a66d0f7e86e47ebf03fbfb20dc2258aed1d26ae5092d79cb04a5e835", func := "helmsman/helmsmanlaw5.NoveltyWidthMatchesSpec", spec := "noveltyWidthMatchesSpec", unfollowed := true, recurses := true, apart := false }
def NoveltyWidthMatchesSpecSaid : Prop := noveltyWidthMatchesSpecRow.holds Try.pinned (OpenSpec.ofChange noveltyWidthMatchesSpecSpec)

/-- ITS FALSE NEIGHBOUR: 'it returns false'. Refute it at one input. -/
def noveltyWidthMatchesSpecWrong : ChangeSpec := { name := "noveltyWidthMatchesSpec", fn := fun _ => fun
  | [d] => { results := [.lit (.bool false)], args := [d] }
  | _ => none }
def NoveltyWidthMatchesSpecWrongFalsely : Prop := noveltyWidthMatchesSpecRow.holds Try.pinned (OpenSpec.ofChange noveltyWidthMatchesSpecWrong)

/-- 'helmsmanlaw5.NoveltyNewMatchesSpec': WHATEVER THE INPUT: true; the input reads as it did. -/
def noveltyNewMatchesSpecSpec : ChangeSpec := { name := "noveltyNewMatchesSpec", fn := fun _ => fun
  | [d1, d2, d3, d4] => { results := [.lit (.bool true)], args := [d1, d2, d3, d4] }
  | _ => none }
def noveltyNewMatchesSpecRow : OpenClaim := { program := "ytcfcmmajlkkabaa", sum := "933de1a1a66d0f7e86e47ebf03fbfb20dc2258aed1d26ae5092d79cb04a5e835", func := "helmsman/helmsmanlaw5.NoveltyNewMatchesSpec", spec := "noveltyNewMatchesSpec", unfollowed := true, recurses := true, apart := false }
def NoveltyNewMatchesSpecSaid : Prop := noveltyNewMatchesSpecRow.holds Try.pinned (OpenSpec.ofChange noveltyNewMatchesSpecSpec)

/-- ITS FALSE NEIGHBOUR: 'it returns false'. Refute it at one input. -/
def noveltyNewMatchesSpecWrong : ChangeSpec := { name := "noveltyNewMatchesSpec", fn := fun _ => fun
  | [d1, d2, d3, d4] => { results := [.lit (.bool false)], args := [d1, d2, d3, d4] }
  | _ => none }
def NoveltyNewMatchesSpecWrongFalsely : Prop := noveltyNewMatchesSpecRow.holds Try.pinned (OpenSpec.ofChange noveltyNewMatchesSpecWrong)

/-- 'helmsmanlaw5.NoveltyGrowsWithWidth': WHATEVER THE INPUT: true; the input reads as it did. -/
def noveltyGrowsWithWidthSpec : ChangeSpec := { name := "noveltyGrowsWithWidth", fn := fun _ => fun
  | [d1, d2, d3, d4, d5, d6] => { results := [.lit (.bool true)], args := [d1, d2, d3, d4, d5, d6] }
  | _ => none }
def noveltyGrowsWithWidthRow : OpenClaim := { program := "ytcfcmmajlkkabaa", sum := "933de1a1a66d0f7e86e47ebf03fbfb20dc2258aed1d26ae5092d79cb04a5e835", func := "helmsman/helmsmanlaw5.NoveltyGrowsWithWidth", spec := "noveltyGrowsWithWidth", unfollowed := true, recurses := true, apart := false }
def NoveltyGrowsWithWidthSaid : Prop := noveltyGrowsWithWidthRow.holds Try.pinned (OpenSpec.ofChange noveltyGrowsWithWidthSpec)

/-- ITS FALSE NEIGHBOUR: 'it returns false'. Refute it at one input. -/
def noveltyGrowsWithWidthWrong : ChangeSpec := { name := "noveltyGrowsWithWidth", fn := fun _ => fun
  | [d1, d2, d3, d4, d5, d6] => { results := [.lit (.bool false)], args := [d1, d2, d3, d4, d5, d6] }
  | _ => none }
def NoveltyGrowsWithWidthWrongFalsely : Prop := noveltyGrowsWithWidthRow.holds Try.pinned (OpenSpec.ofChange noveltyGrowsWithWidthWrong)

/-- 'helmsmanlaw5.SpaceFunctionsMatchSpec': WHATEVER THE INPUT: true; the input reads as it did. -/
def spaceFunctionsMatchSpecSpec : ChangeSpec := { name := "spaceFunctionsMatchSpec", fn := fun _ => fun
  | [d] => { results := [.lit (.bool true)], args := [d] }
  | _ => none }
def spaceFunctionsMatchSpecRow : OpenClaim := { program := "ytcfcmmajlkkabaa", sum := "933de1a1a66d0f7e86e47ebf03fbfb20dc2258aed1d26ae5092d79cb04a5e835", func := "helmsman/helmsmanlaw5.SpaceFunctionsMatchSpec", spec := "spaceFunctionsMatchSpec", unfollowed := true, recurses := true, apart := false }
def SpaceFunctionsMatchSpecSaid : Prop := spaceFunctionsMatchSpecRow.holds Try.pinned (OpenSpec.ofChange spaceFunctionsMatchSpecSpec)

/-- ITS FALSE NEIGHBOUR: 'it returns false'. Refute it at one input. -/
def spaceFunctionsMatchSpecWrong : ChangeSpec := { name := "spaceFunctionsMatchSpec", fn := fun _ => fun
  | [d] => { results := [.lit (.bool false)], args := [d] }
  | _ => none }
def SpaceFunctionsMatchSpecWrongFalsely : Prop := spaceFunctionsMatchSpecRow.holds Try.pinned (OpenSpec.ofChange spaceFunctionsMatchSpecWrong)

/-- 'helmsmanlaw5.SpaceDistancesAreConsistent': WHATEVER THE INPUT: true; the input reads as it did. -/
def spaceDistancesAreConsistentSpec : ChangeSpec := { name := "spaceDistancesAreConsistent", fn := fun _ => fun
  | [d] => { results := [.lit (.bool true)], args := [d] }
  | _ => none }
def spaceDistancesAreConsistentRow : OpenClaim := { program := "ytcfcmmajlkkabaa", sum := "933de1a1a66d0f7e86e47ebf03fbfb20dc2258aed1d26ae5092d79cb04a5e835", func := "helmsman/helmsmanlaw5.SpaceDistancesAreConsistent", spec := "spaceDistancesAreConsistent", unfollowed := true, recurses := true, apart := false }
def SpaceDistancesAreConsistentSaid : Prop := spaceDistancesAreConsistentRow.holds Try.pinned (OpenSpec.ofChange spaceDistancesAreConsistentSpec)

/-- ITS FALSE NEIGHBOUR: 'it returns false'. Refute it at one input. -/
def spaceDistancesAreConsistentWrong : ChangeSpec := { name := "spaceDistancesAreConsistent", fn := fun _ => fun
  | [d] => { results := [.lit (.bool false)], args := [d] }
  | _ => none }
def SpaceDistancesAreConsistentWrongFalsely : Prop := spaceDistancesAreConsistentRow.holds Try.pinned (OpenSpec.ofChange spaceDistancesAreConsistentWrong)

/-- 'helmsmanlaw5.BothendsPlanMatchesSpec': WHATEVER THE INPUT: true; the input reads as it did. -/
def bothendsPlanMatchesSpecSpec : ChangeSpec := { name := "bothendsPlanMatchesSpec", fn := fun _ => fun
  | [d] => { results := [.lit (.bool true)], args := [d] }
  | _ => none }
def bothendsPlanMatchesSpecRow : OpenClaim := { program := "ytcfcmmajlkkabaa", sum := "933de1a1a66d0f7e86e47ebf03fbfb20dc2258aed1d26ae5092d79cb04a5e835", func := "helmsman/helmsmanlaw5.BothendsPlanMatchesSpec", spec := "bothendsPlanMatchesSpec", unfollowed := true, recurses := true, apart := false }
def BothendsPlanMatchesSpecSaid : Prop := bothendsPlanMatchesSpecRow.holds Try.pinned (OpenSpec.ofChange bothendsPlanMatchesSpecSpec)

/-- ITS FALSE NEIGHBOUR: 'it returns false'. Refute it at one input. -/
def bothendsPlanMatchesSpecWrong : ChangeSpec := { name := "bothendsPlanMatchesSpec", fn := fun _ => fun
  | [d] => { results := [.lit (.bool false)], args := [d] }
  | _ => none }
def BothendsPlanMatchesSpecWrongFalsely : Prop := bothendsPlanMatchesSpecRow.holds Try.pinned (OpenSpec.ofChange bothendsPlanMatchesSpecWrong)

/-- 'helmsmanlaw5.BothendsMiddleMatchesSpec': WHATEVER THE INPUT: true; the input reads as it did. -/
def bothendsMiddleMatchesSpecSpec : ChangeSpec := { name := "bothendsMiddleMatchesSpec", fn := fun _ => fun
  | [d] => { results := [.lit (.bool true)], args := [d] }
  | _ => none }
def bothendsMiddleMatchesSpecRow : OpenClaim := { program := "ytcfcmmajlkkabaa", sum := "933de1a1a66d0f7e86e47ebf03fbfb20dc2258aed1d26ae5092d79cb04a5e835", func := "helmsman/helmsmanlaw5.BothendsMiddleMatchesSpec", spec := "bothendsMiddleMatchesSpec", unfollowed := true, recurses := true, apart := false }
def BothendsMiddleMatchesSpecSaid : Prop := bothendsMiddleMatchesSpecRow.holds Try.pinned (OpenSpec.ofChange bothendsMiddleMatchesSpecSpec)

/-- ITS FALSE NEIGHBOUR: 'it returns false'. Refute it at one input. -/
def bothendsMiddleMatchesSpecWrong : ChangeSpec := { name := "bothendsMiddleMatchesSpec", fn := fun _ => fun
  | [d] => { results := [.lit (.bool false)], args := [d] }
  | _ => none }
def BothendsMiddleMatchesSpecWrongFalsely : Prop := bothendsMiddleMatchesSpecRow.holds Try.pinned (OpenSpec.ofChange bothendsMiddleMatchesSpecWrong)

/-- 'helmsmanlaw5.BothendsPartsAreCheapest': WHATEVER THE INPUT: true; the input reads as it did. -/
def bothendsPartsAreCheapestSpec : ChangeSpec := { name := "bothendsPartsAreCheapest", fn := fun _ => fun
  | [d] => { results := [.lit (.bool true)], args := [d] }
  | _ => none }
def bothendsPartsAreCheapestRow : OpenClaim := { program := "ytcfcmmajlkkabaa", sum := "933de1a1a66d0f7e86e47ebf03fbfb20dc2258aed1d26ae5092d79cb04a5e835", func := "helmsman/helmsmanlaw5.BothendsPartsAreCheapest", spec := "bothendsPartsAreCheapest", unfollowed := true, recurses := true, apart := false }
def BothendsPartsAreCheapestSaid : Prop := bothendsPartsAreCheapestRow.holds Try.pinned (OpenSpec.ofChange bothendsPartsAreCheapestSpec)

/-- ITS FALSE NEIGHBOUR: 'it returns false'. Refute it at one input. -/
def bothendsPartsAreCheapestWrong : ChangeSpec := { name := "bothendsPartsAreCheapest", fn := fun _ => fun
  | [d] => { results := [.lit (.bool false)], args := [d] }
  | _ => none }
def BothendsPartsAreCheapestWrongFalsely : Prop := bothendsPartsAreCheapestRow.holds Try.pinned (OpenSpec.ofChange bothendsPartsAreCheapestWrong)

/- THE SECOND FORM. 'bulk': how many values and letters a reading holds, each counted each time it is reached (what is shared counts as often as it is met; a slice's spare places count too). A statement '..UptoSaid' is the law's where the arguments, and the package variables that the reading takes, are together of bulk at most 1048576: NARROWER than '..Said'. Prove '..Said' where nothing that the law and all that it calls make is longer than what came in: it says more and counts as full. Else prove '..UptoSaid'. A law counts once. -/
mutual
def uptoBulk {H : Type} : DataW H → Nat
  | .lit (.string bytes) => bytes.length + 1
  | .lit _ => 1
  | .nil => 1
  | .ptr d => uptoBulk d + 1
  | .slice elems spare => uptoBulkAll elems + uptoBulkAll spare + 1
  | .agg parts => uptoBulkAll parts + 1
  | .iface _ d => uptoBulk d + 1
  | .map entries => uptoBulkEntries entries + 1
  | .held _ => 1
def uptoBulkAll {H : Type} : List (DataW H) → Nat
  | [] => 0
  | d :: r => uptoBulk d + uptoBulkAll r
def uptoBulkEntries {H : Type} : List (Lit × DataW H) → Nat
  | [] => 0
  | x :: r => uptoBulkEntry x + uptoBulkEntries r
def uptoBulkEntry {H : Type} : Lit × DataW H → Nat
  | (.string bytes, d) => bytes.length + uptoBulk d + 1
  | (_, d) => uptoBulk d + 1
 end
def uptoSmall : (H : Type) → List (DataW H) → Bool := fun _ ds => decide (uptoBulkAll ds ≤ 1048576)
def OpenSpec.upto (s : _root_.Go.ChangeSpec) : _root_.Go.OpenSpec := { _root_.Go.OpenSpec.ofChange s with cond := some uptoSmall }

/-- 'helmsmanlaw5.BreadthPlanMatchesSpec', WHERE WHAT IT READS IS OF BULK AT MOST 1048576: true; the input reads as it did. -/
def breadthPlanMatchesSpecUptoRow : OpenClaim := { program := "ytcfcmmajlkkabaa", sum := "933de1a1a66d0f7e86e47ebf03fbfb20dc2258aed1d26ae5092d79cb04a5e835", func := "helmsman/helmsmanlaw5.BreadthPlanMatchesSpec", spec := "breadthPlanMatchesSpec", unfollowed := true, recurses := true, apart := false, narrowed := true }
def BreadthPlanMatchesSpecUptoSaid : Prop := breadthPlanMatchesSpecUptoRow.holds Try.pinned (OpenSpec.upto breadthPlanMatchesSpecSpec)

/-- 'helmsmanlaw5.BreadthReachMatchesSpec', WHERE WHAT IT READS IS OF BULK AT MOST 1048576: true; the input reads as it did. -/
def breadthReachMatchesSpecUptoRow : OpenClaim := { program := "ytcfcmmajlkkabaa", sum := "933de1a1a66d0f7e86e47ebf03fbfb20dc2258aed1d26ae5092d79cb04a5e835", func := "helmsman/helmsmanlaw5.BreadthReachMatchesSpec", spec := "breadthReachMatchesSpec", unfollowed := true, recurses := true, apart := false, narrowed := true }
def BreadthReachMatchesSpecUptoSaid : Prop := breadthReachMatchesSpecUptoRow.holds Try.pinned (OpenSpec.upto breadthReachMatchesSpecSpec)

/-- 'helmsmanlaw5.BreadthBeginningsAreShortest', WHERE WHAT IT READS IS OF BULK AT MOST 1048576: true; the input reads as it did. -/
def breadthBeginningsAreShortestUptoRow : OpenClaim := { program := "ytcfcmmajlkkabaa", sum := "933de1a1a66d0f7e86e47ebf03fbfb20dc2258aed1d26ae5092d79cb04a5e835", func := "helmsman/helmsmanlaw5.BreadthBeginningsAreShortest", spec := "breadthBeginningsAreShortest", unfollowed := true, recurses := true, apart := false, narrowed := true }
def BreadthBeginningsAreShortestUptoSaid : Prop := breadthBeginningsAreShortestUptoRow.holds Try.pinned (OpenSpec.upto breadthBeginningsAreShortestSpec)

/-- 'helmsmanlaw5.NoveltyPlanMatchesSpec', WHERE WHAT IT READS IS OF BULK AT MOST 1048576: true; the input reads as it did. -/
def noveltyPlanMatchesSpecUptoRow : OpenClaim := { program := "ytcfcmmajlkkabaa", sum := "933de1a1a66d0f7e86e47ebf03fbfb20dc2258aed1d26ae5092d79cb04a5e835", func := "helmsman/helmsmanlaw5.NoveltyPlanMatchesSpec", spec := "noveltyPlanMatchesSpec", unfollowed := true, recurses := true, apart := false, narrowed := true }
def NoveltyPlanMatchesSpecUptoSaid : Prop := noveltyPlanMatchesSpecUptoRow.holds Try.pinned (OpenSpec.upto noveltyPlanMatchesSpecSpec)

/-- 'helmsmanlaw5.NoveltyWidthMatchesSpec', WHERE WHAT IT READS IS OF BULK AT MOST 1048576: true; the input reads as it did. -/
def noveltyWidthMatchesSpecUptoRow : OpenClaim := { program := "ytcfcmmajlkkabaa", sum := "933de1a1a66d0f7e86e47ebf03fbfb20dc2258aed1d26ae5092d79cb04a5e835", func := "helmsman/helmsmanlaw5.NoveltyWidthMatchesSpec", spec := "noveltyWidthMatchesSpec", unfollowed := true, recurses := true, apart := false, narrowed := true }
def NoveltyWidthMatchesSpecUptoSaid : Prop := noveltyWidthMatchesSpecUptoRow.holds Try.pinned (OpenSpec.upto noveltyWidthMatchesSpecSpec)

/-- 'helmsmanlaw5.NoveltyNewMatchesSpec', WHERE WHAT IT READS IS OF BULK AT MOST 1048576: true; the input reads as it did. -/
def noveltyNewMatchesSpecUptoRow : OpenClaim := { program := "ytcfcmmajlkkabaa", sum := "933de1a1a66d0f7e86e47ebf03fbfb20dc2258aed1d26ae5092d79cb04a5e835", func := "helmsman/helmsmanlaw5.NoveltyNewMatchesSpec", spec := "noveltyNewMatchesSpec", unfollowed := true, recurses := true, apart := false, narrowed := true }
def NoveltyNewMatchesSpecUptoSaid : Prop := noveltyNewMatchesSpecUptoRow.holds Try.pinned (OpenSpec.upto noveltyNewMatchesSpecSpec)

/-- 'helmsmanlaw5.NoveltyGrowsWithWidth', WHERE WHAT IT READS IS OF BULK AT MOST 1048576: true; the input reads as it did. -/
def noveltyGrowsWithWidthUptoRow : OpenClaim := { program := "ytcfcmmajlkkabaa", sum := "933de1a1a66d0f7e86e47ebf03fbfb20dc2258aed1d26ae5092d79cb04a5e835", func := "helmsman/helmsmanlaw5.NoveltyGrowsWithWidth", spec := "noveltyGrowsWithWidth", unfollowed := true, recurses := true, apart := false, narrowed := true }
def NoveltyGrowsWithWidthUptoSaid : Prop := noveltyGrowsWithWidthUptoRow.holds Try.pinned (OpenSpec.upto noveltyGrowsWithWidthSpec)

/-- 'helmsmanlaw5.SpaceFunctionsMatchSpec', WHERE WHAT IT READS IS OF BULK AT MOST 1048576: true; the input reads as it did. -/
def spaceFunctionsMatchSpecUptoRow : OpenClaim := { program := "ytcfcmmajlkkabaa", sum := "933de1a1a66d0f7e86e47ebf03fbfb20dc2258aed1d26ae5092d79cb04a5e835", func := "helmsman/helmsmanlaw5.SpaceFunctionsMatchSpec", spec := "spaceFunctionsMatchSpec", unfollowed := true, recurses := true, apart := false, narrowed := true }
def SpaceFunctionsMatchSpecUptoSaid : Prop := spaceFunctionsMatchSpecUptoRow.holds Try.pinned (OpenSpec.upto spaceFunctionsMatchSpecSpec)

/-- 'helmsmanlaw5.SpaceDistancesAreConsistent', WHERE WHAT IT READS IS OF BULK AT MOST 1048576: true; the input reads as it did. -/
def spaceDistancesAreConsistentUptoRow : OpenClaim := { program := "ytcfcmmajlkkabaa", sum := "933de1a1a66d0f7e86e47ebf03fbfb20dc2258aed1d26ae5092d79cb04a5e835", func := "helmsman/helmsmanlaw5.SpaceDistancesAreConsistent", spec := "spaceDistancesAreConsistent", unfollowed := true, recurses := true, apart := false, narrowed := true }
def SpaceDistancesAreConsistentUptoSaid : Prop := spaceDistancesAreConsistentUptoRow.holds Try.pinned (OpenSpec.upto spaceDistancesAreConsistentSpec)

/-- 'helmsmanlaw5.BothendsPlanMatchesSpec', WHERE WHAT IT READS IS OF BULK AT MOST 1048576: true; the input reads as it did. -/
def bothendsPlanMatchesSpecUptoRow : OpenClaim := { program := "ytcfcmmajlkkabaa", sum := "933de1a1a66d0f7e86e47ebf03fbfb20dc2258aed1d26ae5092d79cb04a5e835", func := "helmsman/helmsmanlaw5.BothendsPlanMatchesSpec", spec := "bothendsPlanMatchesSpec", unfollowed := true, recurses := true, apart := false, narrowed := true }
def BothendsPlanMatchesSpecUptoSaid : Prop := bothendsPlanMatchesSpecUptoRow.holds Try.pinned (OpenSpec.upto bothendsPlanMatchesSpecSpec)

/-- 'helmsmanlaw5.BothendsMiddleMatchesSpec', WHERE WHAT IT READS IS OF BULK AT MOST 1048576: true; the input reads as it did. -/
def bothendsMiddleMatchesSpecUptoRow : OpenClaim := { program := "ytcfcmmajlkkabaa", sum := "933de1a1a66d0f7e86e47ebf03fbfb20dc2258aed1d26ae5092d79cb04a5e835", func := "helmsman/helmsmanlaw5.BothendsMiddleMatchesSpec", spec := "bothendsMiddleMatchesSpec", unfollowed := true, recurses := true, apart := false, narrowed := true }
def BothendsMiddleMatchesSpecUptoSaid : Prop := bothendsMiddleMatchesSpecUptoRow.holds Try.pinned (OpenSpec.upto bothendsMiddleMatchesSpecSpec)

/-- 'helmsmanlaw5.BothendsPartsAreCheapest', WHERE WHAT IT READS IS OF BULK AT MOST 1048576: true; the input reads as it did. -/
def bothendsPartsAreCheapestUptoRow : OpenClaim := { program := "ytcfcmmajlkkabaa", sum := "933de1a1a66d0f7e86e47ebf03fbfb20dc2258aed1d26ae5092d79cb04a5e835", func := "helmsman/helmsmanlaw5.BothendsPartsAreCheapest", spec := "bothendsPartsAreCheapest", unfollowed := true, recurses := true, apart := false, narrowed := true }
def BothendsPartsAreCheapestUptoSaid : Prop := bothendsPartsAreCheapestUptoRow.holds Try.pinned (OpenSpec.upto bothendsPartsAreCheapestSpec)

end Rows
end Go.Proofs.Ytcfcmmajlkkabaa
