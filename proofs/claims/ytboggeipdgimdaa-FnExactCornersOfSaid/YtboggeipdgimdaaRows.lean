/-
  No cell of these rows narrows 'for every input' (looked for: loops, veiled, ifaces, maps, wideKeys, modest, calm, conditions, laid).
  DERIVED. THE GIVEN ROWS OF THIS SEAT. 12 by the template 'for every input the law returns true; each argument reads behind the call as it read before'; 0 by the template 'total and deterministic' (their statements: YtboggeipdgimdaaTotals.lean).
  GIVEN WITH THE SEED: the statements are not yours to turn. If you find one false, say at which input.
  Laid BY PROGRAM, IN A SANDBOX (cutbox-rows.mjs): the forced cells as the released guide's own fill.sh prints them over the translation a7d74c8f27f41eec… (all of the seat's roots in one cut). By AI agents, Wed Nov 11 2026. No macro, syntax, notation, axiom, sorry.
-/
import Derived.Test.YtboggeipdgimdaaChecked
import GoSem.Claim
import GoSem.ClaimJoined
import GoSem.ClaimMapViews
import Derived.JoinedTies
import Derived.KernelRfl
namespace Go.Proofs.Ytboggeipdgimdaa
/- THE CELL 'sum', in the pinned program and in every row, IS THE sha256 OF THE DUMP (.gsa) THAT YtboggeipdgimdaaProg.lean LOADS. Nothing in Lean hashes anything: it is a label: what it is worth is what the hold of that sum in a sandbox is worth. -/
noncomputable def Try.pinned : Pinned := { name := "ytboggeipdgimdaa", sum := "a7d74c8f27f41eec5afedef8b0dbf18c684901dc05457b291982617af0b9c566", checked := Try.checked }
namespace Rows
def none {H : Type} : Left H := { results := [], args := [] }

/-- 'laws.FnExactMergeElements': WHATEVER THE INPUT: true; the input reads as it did. -/
def fnExactMergeElementsSpec : ChangeSpec := { name := "fnExactMergeElements", fn := fun _ => fun
  | [d1, d2, d3] => { results := [.lit (.bool true)], args := [d1, d2, d3] }
  | _ => none }
def fnExactMergeElementsRow : OpenClaim := { program := "ytboggeipdgimdaa", sum := "a7d74c8f27f41eec5afedef8b0dbf18c684901dc05457b291982617af0b9c566", func := "loop.example/g03405/laws.FnExactMergeElements", spec := "fnExactMergeElements", unfollowed := true, recurses := true, apart := false }
def FnExactMergeElementsSaid : Prop := fnExactMergeElementsRow.holds Try.pinned (OpenSpec.ofChange fnExactMergeElementsSpec)

/-- ITS FALSE NEIGHBOUR: 'it returns false'. Refute it at one input. -/
def fnExactMergeElementsWrong : ChangeSpec := { name := "fnExactMergeElements", fn := fun _ => fun
  | [d1, d2, d3] => { results := [.lit (.bool false)], args := [d1, d2, d3] }
  | _ => none }
def FnExactMergeElementsWrongFalsely : Prop := fnExactMergeElementsRow.holds Try.pinned (OpenSpec.ofChange fnExactMergeElementsWrong)

/-- 'laws.FnExactGreatestMinimizer': WHATEVER THE INPUT: true; the input reads as it did. -/
def fnExactGreatestMinimizerSpec : ChangeSpec := { name := "fnExactGreatestMinimizer", fn := fun _ => fun
  | [d] => { results := [.lit (.bool true)], args := [d] }
  | _ => none }
def fnExactGreatestMinimizerRow : OpenClaim := { program := "ytboggeipdgimdaa", sum := "a7d74c8f27f41eec5afedef8b0dbf18c684901dc05457b291982617af0b9c566", func := "loop.example/g03405/laws.FnExactGreatestMinimizer", spec := "fnExactGreatestMinimizer", unfollowed := true, recurses := true, apart := false }
def FnExactGreatestMinimizerSaid : Prop := fnExactGreatestMinimizerRow.holds Try.pinned (OpenSpec.ofChange fnExactGreatestMinimizerSpec)

/-- ITS FALSE NEIGHBOUR: 'it returns false'. Refute it at one input. -/
def fnExactGreatestMinimizerWrong : ChangeSpec := { name := "fnExactGreatestMinimizer", fn := fun _ => fun
  | [d] => { results := [.lit (.bool false)], args := [d] }
  | _ => none }
def FnExactGreatestMinimizerWrongFalsely : Prop := fnExactGreatestMinimizerRow.holds Try.pinned (OpenSpec.ofChange fnExactGreatestMinimizerWrong)

/-- 'laws.FnExactLeastMinimizer': WHATEVER THE INPUT: true; the input reads as it did. -/
def fnExactLeastMinimizerSpec : ChangeSpec := { name := "fnExactLeastMinimizer", fn := fun _ => fun
  | [d] => { results := [.lit (.bool true)], args := [d] }
  | _ => none }
def fnExactLeastMinimizerRow : OpenClaim := { program := "ytboggeipdgimdaa", sum := "a7d74c8f27f41eec5afedef8b0dbf18c684901dc05457b291982617af0b9c566", func := "loop.example/g03405/laws.FnExactLeastMinimizer", spec := "fnExactLeastMinimizer", unfollowed := true, recurses := true, apart := false }
def FnExactLeastMinimizerSaid : Prop := fnExactLeastMinimizerRow.holds Try.pinned (OpenSpec.ofChange fnExactLeastMinimizerSpec)

/-- ITS FALSE NEIGHBOUR: 'it returns false'. Refute it at one input. -/
def fnExactLeastMinimizerWrong : ChangeSpec := { name := "fnExactLeastMinimizer", fn := fun _ => fun
  | [d] => { results := [.lit (.bool false)], args := [d] }
  | _ => none }
def FnExactLeastMinimizerWrongFalsely : Prop := fnExactLeastMinimizerRow.holds Try.pinned (OpenSpec.ofChange fnExactLeastMinimizerWrong)

/-- 'laws.FnExactCurvatureOf': WHATEVER THE INPUT: true; the input reads as it did. -/
def fnExactCurvatureOfSpec : ChangeSpec := { name := "fnExactCurvatureOf", fn := fun _ => fun
  | [d] => { results := [.lit (.bool true)], args := [d] }
  | _ => none }
def fnExactCurvatureOfRow : OpenClaim := { program := "ytboggeipdgimdaa", sum := "a7d74c8f27f41eec5afedef8b0dbf18c684901dc05457b291982617af0b9c566", func := "loop.example/g03405/laws.FnExactCurvatureOf", spec := "fnExactCurvatureOf", unfollowed := true, recurses := true, apart := false }
def FnExactCurvatureOfSaid : Prop := fnExactCurvatureOfRow.holds Try.pinned (OpenSpec.ofChange fnExactCurvatureOfSpec)

/-- ITS FALSE NEIGHBOUR: 'it returns false'. Refute it at one input. -/
def fnExactCurvatureOfWrong : ChangeSpec := { name := "fnExactCurvatureOf", fn := fun _ => fun
  | [d] => { results := [.lit (.bool false)], args := [d] }
  | _ => none }
def FnExactCurvatureOfWrongFalsely : Prop := fnExactCurvatureOfRow.holds Try.pinned (OpenSpec.ofChange fnExactCurvatureOfWrong)

/-- 'laws.FnExactMinimumCut': WHATEVER THE INPUT: true; the input reads as it did. -/
def fnExactMinimumCutSpec : ChangeSpec := { name := "fnExactMinimumCut", fn := fun _ => fun
  | [d] => { results := [.lit (.bool true)], args := [d] }
  | _ => none }
def fnExactMinimumCutRow : OpenClaim := { program := "ytboggeipdgimdaa", sum := "a7d74c8f27f41eec5afedef8b0dbf18c684901dc05457b291982617af0b9c566", func := "loop.example/g03405/laws.FnExactMinimumCut", spec := "fnExactMinimumCut", unfollowed := true, recurses := true, apart := false }
def FnExactMinimumCutSaid : Prop := fnExactMinimumCutRow.holds Try.pinned (OpenSpec.ofChange fnExactMinimumCutSpec)

/-- ITS FALSE NEIGHBOUR: 'it returns false'. Refute it at one input. -/
def fnExactMinimumCutWrong : ChangeSpec := { name := "fnExactMinimumCut", fn := fun _ => fun
  | [d] => { results := [.lit (.bool false)], args := [d] }
  | _ => none }
def FnExactMinimumCutWrongFalsely : Prop := fnExactMinimumCutRow.holds Try.pinned (OpenSpec.ofChange fnExactMinimumCutWrong)

/-- 'laws.FnExactOrderFor': WHATEVER THE INPUT: true; the input reads as it did. -/
def fnExactOrderForSpec : ChangeSpec := { name := "fnExactOrderFor", fn := fun _ => fun
  | [d] => { results := [.lit (.bool true)], args := [d] }
  | _ => none }
def fnExactOrderForRow : OpenClaim := { program := "ytboggeipdgimdaa", sum := "a7d74c8f27f41eec5afedef8b0dbf18c684901dc05457b291982617af0b9c566", func := "loop.example/g03405/laws.FnExactOrderFor", spec := "fnExactOrderFor", unfollowed := true, recurses := true, apart := false }
def FnExactOrderForSaid : Prop := fnExactOrderForRow.holds Try.pinned (OpenSpec.ofChange fnExactOrderForSpec)

/-- ITS FALSE NEIGHBOUR: 'it returns false'. Refute it at one input. -/
def fnExactOrderForWrong : ChangeSpec := { name := "fnExactOrderFor", fn := fun _ => fun
  | [d] => { results := [.lit (.bool false)], args := [d] }
  | _ => none }
def FnExactOrderForWrongFalsely : Prop := fnExactOrderForRow.holds Try.pinned (OpenSpec.ofChange fnExactOrderForWrong)

/-- 'laws.FnExactIsPendantPair': WHATEVER THE INPUT: true; the input reads as it did. -/
def fnExactIsPendantPairSpec : ChangeSpec := { name := "fnExactIsPendantPair", fn := fun _ => fun
  | [d1, d2, d3] => { results := [.lit (.bool true)], args := [d1, d2, d3] }
  | _ => none }
def fnExactIsPendantPairRow : OpenClaim := { program := "ytboggeipdgimdaa", sum := "a7d74c8f27f41eec5afedef8b0dbf18c684901dc05457b291982617af0b9c566", func := "loop.example/g03405/laws.FnExactIsPendantPair", spec := "fnExactIsPendantPair", unfollowed := true, recurses := true, apart := false }
def FnExactIsPendantPairSaid : Prop := fnExactIsPendantPairRow.holds Try.pinned (OpenSpec.ofChange fnExactIsPendantPairSpec)

/-- ITS FALSE NEIGHBOUR: 'it returns false'. Refute it at one input. -/
def fnExactIsPendantPairWrong : ChangeSpec := { name := "fnExactIsPendantPair", fn := fun _ => fun
  | [d1, d2, d3] => { results := [.lit (.bool false)], args := [d1, d2, d3] }
  | _ => none }
def FnExactIsPendantPairWrongFalsely : Prop := fnExactIsPendantPairRow.holds Try.pinned (OpenSpec.ofChange fnExactIsPendantPairWrong)

/-- 'laws.FnExactLevelSets': WHATEVER THE INPUT: true; the input reads as it did. -/
def fnExactLevelSetsSpec : ChangeSpec := { name := "fnExactLevelSets", fn := fun _ => fun
  | [d] => { results := [.lit (.bool true)], args := [d] }
  | _ => none }
def fnExactLevelSetsRow : OpenClaim := { program := "ytboggeipdgimdaa", sum := "a7d74c8f27f41eec5afedef8b0dbf18c684901dc05457b291982617af0b9c566", func := "loop.example/g03405/laws.FnExactLevelSets", spec := "fnExactLevelSets", unfollowed := true, recurses := true, apart := false }
def FnExactLevelSetsSaid : Prop := fnExactLevelSetsRow.holds Try.pinned (OpenSpec.ofChange fnExactLevelSetsSpec)

/-- ITS FALSE NEIGHBOUR: 'it returns false'. Refute it at one input. -/
def fnExactLevelSetsWrong : ChangeSpec := { name := "fnExactLevelSets", fn := fun _ => fun
  | [d] => { results := [.lit (.bool false)], args := [d] }
  | _ => none }
def FnExactLevelSetsWrongFalsely : Prop := fnExactLevelSetsRow.holds Try.pinned (OpenSpec.ofChange fnExactLevelSetsWrong)

/-- 'laws.FnExactPendantPair': WHATEVER THE INPUT: true; the input reads as it did. -/
def fnExactPendantPairSpec : ChangeSpec := { name := "fnExactPendantPair", fn := fun _ => fun
  | [d] => { results := [.lit (.bool true)], args := [d] }
  | _ => none }
def fnExactPendantPairRow : OpenClaim := { program := "ytboggeipdgimdaa", sum := "a7d74c8f27f41eec5afedef8b0dbf18c684901dc05457b291982617af0b9c566", func := "loop.example/g03405/laws.FnExactPendantPair", spec := "fnExactPendantPair", unfollowed := true, recurses := true, apart := false }
def FnExactPendantPairSaid : Prop := fnExactPendantPairRow.holds Try.pinned (OpenSpec.ofChange fnExactPendantPairSpec)

/-- ITS FALSE NEIGHBOUR: 'it returns false'. Refute it at one input. -/
def fnExactPendantPairWrong : ChangeSpec := { name := "fnExactPendantPair", fn := fun _ => fun
  | [d] => { results := [.lit (.bool false)], args := [d] }
  | _ => none }
def FnExactPendantPairWrongFalsely : Prop := fnExactPendantPairRow.holds Try.pinned (OpenSpec.ofChange fnExactPendantPairWrong)

/-- 'laws.FnExactLegalOrder': WHATEVER THE INPUT: true; the input reads as it did. -/
def fnExactLegalOrderSpec : ChangeSpec := { name := "fnExactLegalOrder", fn := fun _ => fun
  | [d1, d2] => { results := [.lit (.bool true)], args := [d1, d2] }
  | _ => none }
def fnExactLegalOrderRow : OpenClaim := { program := "ytboggeipdgimdaa", sum := "a7d74c8f27f41eec5afedef8b0dbf18c684901dc05457b291982617af0b9c566", func := "loop.example/g03405/laws.FnExactLegalOrder", spec := "fnExactLegalOrder", unfollowed := true, recurses := true, apart := false }
def FnExactLegalOrderSaid : Prop := fnExactLegalOrderRow.holds Try.pinned (OpenSpec.ofChange fnExactLegalOrderSpec)

/-- ITS FALSE NEIGHBOUR: 'it returns false'. Refute it at one input. -/
def fnExactLegalOrderWrong : ChangeSpec := { name := "fnExactLegalOrder", fn := fun _ => fun
  | [d1, d2] => { results := [.lit (.bool false)], args := [d1, d2] }
  | _ => none }
def FnExactLegalOrderWrongFalsely : Prop := fnExactLegalOrderRow.holds Try.pinned (OpenSpec.ofChange fnExactLegalOrderWrong)

/-- 'laws.FnExactCornersOf': WHATEVER THE INPUT: true; the input reads as it did. -/
def fnExactCornersOfSpec : ChangeSpec := { name := "fnExactCornersOf", fn := fun _ => fun
  | [d] => { results := [.lit (.bool true)], args := [d] }
  | _ => none }
def fnExactCornersOfRow : OpenClaim := { program := "ytboggeipdgimdaa", sum := "a7d74c8f27f41eec5afedef8b0dbf18c684901dc05457b291982617af0b9c566", func := "loop.example/g03405/laws.FnExactCornersOf", spec := "fnExactCornersOf", unfollowed := true, recurses := true, apart := false }
def FnExactCornersOfSaid : Prop := fnExactCornersOfRow.holds Try.pinned (OpenSpec.ofChange fnExactCornersOfSpec)

/-- ITS FALSE NEIGHBOUR: 'it returns false'. Refute it at one input. -/
def fnExactCornersOfWrong : ChangeSpec := { name := "fnExactCornersOf", fn := fun _ => fun
  | [d] => { results := [.lit (.bool false)], args := [d] }
  | _ => none }
def FnExactCornersOfWrongFalsely : Prop := fnExactCornersOfRow.holds Try.pinned (OpenSpec.ofChange fnExactCornersOfWrong)

/-- 'laws.FnExactRaiseVector': WHATEVER THE INPUT: true; the input reads as it did. -/
def fnExactRaiseVectorSpec : ChangeSpec := { name := "fnExactRaiseVector", fn := fun _ => fun
  | [d1, d2, d3] => { results := [.lit (.bool true)], args := [d1, d2, d3] }
  | _ => none }
def fnExactRaiseVectorRow : OpenClaim := { program := "ytboggeipdgimdaa", sum := "a7d74c8f27f41eec5afedef8b0dbf18c684901dc05457b291982617af0b9c566", func := "loop.example/g03405/laws.FnExactRaiseVector", spec := "fnExactRaiseVector", unfollowed := true, recurses := true, apart := false }
def FnExactRaiseVectorSaid : Prop := fnExactRaiseVectorRow.holds Try.pinned (OpenSpec.ofChange fnExactRaiseVectorSpec)

/-- ITS FALSE NEIGHBOUR: 'it returns false'. Refute it at one input. -/
def fnExactRaiseVectorWrong : ChangeSpec := { name := "fnExactRaiseVector", fn := fun _ => fun
  | [d1, d2, d3] => { results := [.lit (.bool false)], args := [d1, d2, d3] }
  | _ => none }
def FnExactRaiseVectorWrongFalsely : Prop := fnExactRaiseVectorRow.holds Try.pinned (OpenSpec.ofChange fnExactRaiseVectorWrong)

/- THE SECOND FORM. 'bulk': how many values and letters a reading holds, each counted each time it is reached (what is shared counts as often as it is met; a slice's spare places count too). A statement '..UptoSaid' is the law's where the arguments, and the package variables that the reading takes, are together of bulk at most 1048576: NARROWER than '..Said'. Prove '..Said' where nothing that the law and all that it calls make is longer than what came in: it says more and counts as full. Else prove '..UptoSaid'. A law counts once. -/
mutual
def uptoBulk {H : Type} : DataW H → Nat
  | .lit (.string bytes) => bytes.length + 1
  | .lit _ => 1
  | .nil => 1
  | .ptr d => uptoBulk d + 1
  | .slice elems spare => uptoBulkAll elems + uptoBulkAll spare + 1
  | .agg parts => uptoBulkAll parts + 1
  | .iface _ d => uptoBulk d + 1
  | .map entries => uptoBulkEntries entries + 1
  | .held _ => 1
def uptoBulkAll {H : Type} : List (DataW H) → Nat
  | [] => 0
  | d :: r => uptoBulk d + uptoBulkAll r
def uptoBulkEntries {H : Type} : List (Lit × DataW H) → Nat
  | [] => 0
  | x :: r => uptoBulkEntry x + uptoBulkEntries r
def uptoBulkEntry {H : Type} : Lit × DataW H → Nat
  | (.string bytes, d) => bytes.length + uptoBulk d + 1
  | (_, d) => uptoBulk d + 1
 end
def uptoSmall : (H : Type) → List (DataW H) → Bool := fun _ ds => decide (uptoBulkAll ds ≤ 1048576)
def OpenSpec.upto (s : _root_.Go.ChangeSpec) : _root_.Go.OpenSpec := { _root_.Go.OpenSpec.ofChange s with cond := some uptoSmall }

/-- 'laws.FnExactMergeElements', WHERE WHAT IT READS IS OF BULK AT MOST 1048576: true; the input reads as it did. -/
def fnExactMergeElementsUptoRow : OpenClaim := { program := "ytboggeipdgimdaa", sum := "a7d74c8f27f41eec5afedef8b0dbf18c684901dc05457b291982617af0b9c566", func := "loop.example/g03405/laws.FnExactMergeElements", spec := "fnExactMergeElements", unfollowed := true, recurses := true, apart := false, narrowed := true }
def FnExactMergeElementsUptoSaid : Prop := fnExactMergeElementsUptoRow.holds Try.pinned (OpenSpec.upto fnExactMergeElementsSpec)

/-- 'laws.FnExactGreatestMinimizer', WHERE WHAT IT READS IS OF BULK AT MOST 1048576: true; the input reads as it did. -/
def fnExactGreatestMinimizerUptoRow : OpenClaim := { program := "ytboggeipdgimdaa", sum := "a7d74c8f27f41eec5afedef8b0dbf18c684901dc05457b291982617af0b9c566", func := "loop.example/g03405/laws.FnExactGreatestMinimizer", spec := "fnExactGreatestMinimizer", unfollowed := true, recurses := true, apart := false, narrowed := true }
def FnExactGreatestMinimizerUptoSaid : Prop := fnExactGreatestMinimizerUptoRow.holds Try.pinned (OpenSpec.upto fnExactGreatestMinimizerSpec)

/-- 'laws.FnExactLeastMinimizer', WHERE WHAT IT READS IS OF BULK AT MOST 1048576: true; the input reads as it did. -/
def fnExactLeastMinimizerUptoRow : OpenClaim := { program := "ytboggeipdgimdaa", sum := "a7d74c8f27f41eec5afedef8b0dbf18c684901dc05457b291982617af0b9c566", func := "loop.example/g03405/laws.FnExactLeastMinimizer", spec := "fnExactLeastMinimizer", unfollowed := true, recurses := true, apart := false, narrowed := true }
def FnExactLeastMinimizerUptoSaid : Prop := fnExactLeastMinimizerUptoRow.holds Try.pinned (OpenSpec.upto fnExactLeastMinimizerSpec)

/-- 'laws.FnExactCurvatureOf', WHERE WHAT IT READS IS OF BULK AT MOST 1048576: true; the input reads as it did. -/
def fnExactCurvatureOfUptoRow : OpenClaim := { program := "ytboggeipdgimdaa", sum := "a7d74c8f27f41eec5afedef8b0dbf18c684901dc05457b291982617af0b9c566", func := "loop.example/g03405/laws.FnExactCurvatureOf", spec := "fnExactCurvatureOf", unfollowed := true, recurses := true, apart := false, narrowed := true }
def FnExactCurvatureOfUptoSaid : Prop := fnExactCurvatureOfUptoRow.holds Try.pinned (OpenSpec.upto fnExactCurvatureOfSpec)

/-- 'laws.FnExactMinimumCut', WHERE WHAT IT READS IS OF BULK AT MOST 1048576: true; the input reads as it did. -/
def fnExactMinimumCutUptoRow : OpenClaim := { program := "ytboggeipdgimdaa", sum := "a7d74c8f27f41eec5afedef8b0dbf18c684901dc05457b291982617af0b9c566", func := "loop.example/g03405/laws.FnExactMinimumCut", spec := "fnExactMinimumCut", unfollowed := true, recurses := true, apart := false, narrowed := true }
def FnExactMinimumCutUptoSaid : Prop := fnExactMinimumCutUptoRow.holds Try.pinned (OpenSpec.upto fnExactMinimumCutSpec)

/-- 'laws.FnExactOrderFor', WHERE WHAT IT READS IS OF BULK AT MOST 1048576: true; the input reads as it did. -/
def fnExactOrderForUptoRow : OpenClaim := { program := "ytboggeipdgimdaa", sum := "a7d74c8f27f41eec5afedef8b0dbf18c684901dc05457b291982617af0b9c566", func := "loop.example/g03405/laws.FnExactOrderFor", spec := "fnExactOrderFor", unfollowed := true, recurses := true, apart := false, narrowed := true }
def FnExactOrderForUptoSaid : Prop := fnExactOrderForUptoRow.holds Try.pinned (OpenSpec.upto fnExactOrderForSpec)

/-- 'laws.FnExactIsPendantPair', WHERE WHAT IT READS IS OF BULK AT MOST 1048576: true; the input reads as it did. -/
def fnExactIsPendantPairUptoRow : OpenClaim := { program := "ytboggeipdgimdaa", sum := "a7d74c8f27f41eec5afedef8b0dbf18c684901dc05457b291982617af0b9c566", func := "loop.example/g03405/laws.FnExactIsPendantPair", spec := "fnExactIsPendantPair", unfollowed := true, recurses := true, apart := false, narrowed := true }
def FnExactIsPendantPairUptoSaid : Prop := fnExactIsPendantPairUptoRow.holds Try.pinned (OpenSpec.upto fnExactIsPendantPairSpec)

/-- 'laws.FnExactLevelSets', WHERE WHAT IT READS IS OF BULK AT MOST 1048576: true; the input reads as it did. -/
def fnExactLevelSetsUptoRow : OpenClaim := { program := "ytboggeipdgimdaa", sum := "a7d74c8f27f41eec5afedef8b0dbf18c684901dc05457b291982617af0b9c566", func := "loop.example/g03405/laws.FnExactLevelSets", spec := "fnExactLevelSets", unfollowed := true, recurses := true, apart := false, narrowed := true }
def FnExactLevelSetsUptoSaid : Prop := fnExactLevelSetsUptoRow.holds Try.pinned (OpenSpec.upto fnExactLevelSetsSpec)

/-- 'laws.FnExactPendantPair', WHERE WHAT IT READS IS OF BULK AT MOST 1048576: true; the input reads as it did. -/
def fnExactPendantPairUptoRow : OpenClaim := { program := "ytboggeipdgimdaa", sum := "a7d74c8f27f41eec5afedef8b0dbf18c684901dc05457b291982617af0b9c566", func := "loop.example/g03405/laws.FnExactPendantPair", spec := "fnExactPendantPair", unfollowed := true, recurses := true, apart := false, narrowed := true }
def FnExactPendantPairUptoSaid : Prop := fnExactPendantPairUptoRow.holds Try.pinned (OpenSpec.upto fnExactPendantPairSpec)

/-- 'laws.FnExactLegalOrder', WHERE WHAT IT READS IS OF BULK AT MOST 1048576: true; the input reads as it did. -/
def fnExactLegalOrderUptoRow : OpenClaim := { program := "ytboggeipdgimdaa", sum := "a7d74c8f27f41eec5afedef8b0dbf18c684901dc05457b291982617af0b9c566", func := "loop.example/g03405/laws.FnExactLegalOrder", spec := "fnExactLegalOrder", unfollowed := true, recurses := true, apart := false, narrowed := true }
def FnExactLegalOrderUptoSaid : Prop := fnExactLegalOrderUptoRow.holds Try.pinned (OpenSpec.upto fnExactLegalOrderSpec)

/-- 'laws.FnExactCornersOf', WHERE WHAT IT READS IS OF BULK AT MOST 1048576: true; the input reads as it did. -/
def fnExactCornersOfUptoRow : OpenClaim := { program := "ytboggeipdgimdaa", sum := "a7d74c8f27f41eec5afedef8b0dbf18c684901dc05457b291982617af0b9c566", func := "loop.example/g03405/laws.FnExactCornersOf", spec := "fnExactCornersOf", unfollowed := true, recurses := true, apart := false, narrowed := true }
def FnExactCornersOfUptoSaid : Prop := fnExactCornersOfUptoRow.holds Try.pinned (OpenSpec.upto fnExactCornersOfSpec)

/-- 'laws.FnExactRaiseVector', WHERE WHAT IT READS IS OF BULK AT MOST 1048576: true; the input reads as it did. -/
def fnExactRaiseVectorUptoRow : OpenClaim := { program := "ytboggeipdgimdaa", sum := "a7d74c8f27f41eec5afedef8b0dbf18c684901dc05457b291982617af0b9c566", func := "loop.example/g03405/laws.FnExactRaiseVector", spec := "fnExactRaiseVector", unfollowed := true, recurses := true, apart := false, narrowed := true }
def FnExactRaiseVectorUptoSaid : Prop := fnExactRaiseVectorUptoRow.holds Try.pinned (OpenSpec.upto fnExactRaiseVectorSpec)

end Rows
end Go.Proofs.Ytboggeipdgimdaa
