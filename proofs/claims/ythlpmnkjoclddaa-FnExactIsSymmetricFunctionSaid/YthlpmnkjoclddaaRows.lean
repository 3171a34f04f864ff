/-
  No cell of these rows narrows 'for every input' (looked for: loops, veiled, ifaces, maps, wideKeys, modest, calm, conditions, laid).
  DERIVED. THE GIVEN ROWS OF THIS SEAT. 12 by the template 'for every input the law returns true; each argument reads behind the call as it read before'; 0 by the template 'total and deterministic' (their statements: YthlpmnkjoclddaaTotals.lean).
  GIVEN WITH THE SEED: the statements are not yours to turn. If you find one false, say at which input.
  Laid BY PROGRAM, IN A SANDBOX (cutbox-rows.mjs): the forced cells as the released guide's own fill.sh prints them over the translation db3c00cde67c3ca2… (all of the seat's roots in one cut). By AI agents, Wed Nov 11 2026. No macro, syntax, notation, axiom, sorry.
-/
import Derived.Test.YthlpmnkjoclddaaChecked
import GoSem.Claim
import GoSem.ClaimJoined
import GoSem.ClaimMapViews
import Derived.JoinedTies
import Derived.KernelRfl
namespace Go.Proofs.Ythlpmnkjoclddaa
/- THE CELL 'sum', in the pinned program and in every row, IS THE sha256 OF THE DUMP (.gsa) THAT YthlpmnkjoclddaaProg.lean LOADS. Nothing in Lean hashes anything: it is a label: what it is worth is what the hold of that sum in a sandbox is worth. -/
noncomputable def Try.pinned : Pinned := { name := "ythlpmnkjoclddaa", sum := "db3c00cde67c3ca2eba6b6c63cbcb162f597d0b24e17aacc5109f1fc70c34a47", checked := Try.checked }
namespace Rows
def none {H : Type} : Left H := { results := [], args := [] }

/-- 'laws.FnExactIsBelow': WHATEVER THE INPUT: true; the input reads as it did. -/
def fnExactIsBelowSpec : ChangeSpec := { name := "fnExactIsBelow", fn := fun _ => fun
  | [d1, d2] => { results := [.lit (.bool true)], args := [d1, d2] }
  | _ => none }
def fnExactIsBelowRow : OpenClaim := { program := "ythlpmnkjoclddaa", sum := "db3c00cde67c3ca2eba6b6c63cbcb162f597d0b24e17aacc5109f1fc70c34a47", func := "loop.example/g03405/laws.FnExactIsBelow", spec := "fnExactIsBelow", apart := false }
def FnExactIsBelowSaid : Prop := fnExactIsBelowRow.holds Try.pinned (OpenSpec.ofChange fnExactIsBelowSpec)

/-- ITS FALSE NEIGHBOUR: 'it returns false'. Refute it at one input. -/
def fnExactIsBelowWrong : ChangeSpec := { name := "fnExactIsBelow", fn := fun _ => fun
  | [d1, d2] => { results := [.lit (.bool false)], args := [d1, d2] }
  | _ => none }
def FnExactIsBelowWrongFalsely : Prop := fnExactIsBelowRow.holds Try.pinned (OpenSpec.ofChange fnExactIsBelowWrong)

/-- 'laws.FnExactGreedyOfSize': WHATEVER THE INPUT: true; the input reads as it did. -/
def fnExactGreedyOfSizeSpec : ChangeSpec := { name := "fnExactGreedyOfSize", fn := fun _ => fun
  | [d1, d2] => { results := [.lit (.bool true)], args := [d1, d2] }
  | _ => none }
def fnExactGreedyOfSizeRow : OpenClaim := { program := "ythlpmnkjoclddaa", sum := "db3c00cde67c3ca2eba6b6c63cbcb162f597d0b24e17aacc5109f1fc70c34a47", func := "loop.example/g03405/laws.FnExactGreedyOfSize", spec := "fnExactGreedyOfSize", apart := false }
def FnExactGreedyOfSizeSaid : Prop := fnExactGreedyOfSizeRow.holds Try.pinned (OpenSpec.ofChange fnExactGreedyOfSizeSpec)

/-- ITS FALSE NEIGHBOUR: 'it returns false'. Refute it at one input. -/
def fnExactGreedyOfSizeWrong : ChangeSpec := { name := "fnExactGreedyOfSize", fn := fun _ => fun
  | [d1, d2] => { results := [.lit (.bool false)], args := [d1, d2] }
  | _ => none }
def FnExactGreedyOfSizeWrongFalsely : Prop := fnExactGreedyOfSizeRow.holds Try.pinned (OpenSpec.ofChange fnExactGreedyOfSizeWrong)

/-- 'laws.FnExactIsSymmetricFunction': WHATEVER THE INPUT: true; the input reads as it did. -/
def fnExactIsSymmetricFunctionSpec : ChangeSpec := { name := "fnExactIsSymmetricFunction", fn := fun _ => fun
  | [d] => { results := [.lit (.bool true)], args := [d] }
  | _ => none }
def fnExactIsSymmetricFunctionRow : OpenClaim := { program := "ythlpmnkjoclddaa", sum := "db3c00cde67c3ca2eba6b6c63cbcb162f597d0b24e17aacc5109f1fc70c34a47", func := "loop.example/g03405/laws.FnExactIsSymmetricFunction", spec := "fnExactIsSymmetricFunction", unfollowed := true, recurses := true, apart := false }
def FnExactIsSymmetricFunctionSaid : Prop := fnExactIsSymmetricFunctionRow.holds Try.pinned (OpenSpec.ofChange fnExactIsSymmetricFunctionSpec)

/-- ITS FALSE NEIGHBOUR: 'it returns false'. Refute it at one input. -/
def fnExactIsSymmetricFunctionWrong : ChangeSpec := { name := "fnExactIsSymmetricFunction", fn := fun _ => fun
  | [d] => { results := [.lit (.bool false)], args := [d] }
  | _ => none }
def FnExactIsSymmetricFunctionWrongFalsely : Prop := fnExactIsSymmetricFunctionRow.holds Try.pinned (OpenSpec.ofChange fnExactIsSymmetricFunctionWrong)

/-- 'laws.FnExactMinimizersOf': WHATEVER THE INPUT: true; the input reads as it did. -/
def fnExactMinimizersOfSpec : ChangeSpec := { name := "fnExactMinimizersOf", fn := fun _ => fun
  | [d] => { results := [.lit (.bool true)], args := [d] }
  | _ => none }
def fnExactMinimizersOfRow : OpenClaim := { program := "ythlpmnkjoclddaa", sum := "db3c00cde67c3ca2eba6b6c63cbcb162f597d0b24e17aacc5109f1fc70c34a47", func := "loop.example/g03405/laws.FnExactMinimizersOf", spec := "fnExactMinimizersOf", apart := false }
def FnExactMinimizersOfSaid : Prop := fnExactMinimizersOfRow.holds Try.pinned (OpenSpec.ofChange fnExactMinimizersOfSpec)

/-- ITS FALSE NEIGHBOUR: 'it returns false'. Refute it at one input. -/
def fnExactMinimizersOfWrong : ChangeSpec := { name := "fnExactMinimizersOf", fn := fun _ => fun
  | [d] => { results := [.lit (.bool false)], args := [d] }
  | _ => none }
def FnExactMinimizersOfWrongFalsely : Prop := fnExactMinimizersOfRow.holds Try.pinned (OpenSpec.ofChange fnExactMinimizersOfWrong)

/-- 'laws.FnExactIsBase': WHATEVER THE INPUT: true; the input reads as it did. -/
def fnExactIsBaseSpec : ChangeSpec := { name := "fnExactIsBase", fn := fun _ => fun
  | [d1, d2] => { results := [.lit (.bool true)], args := [d1, d2] }
  | _ => none }
def fnExactIsBaseRow : OpenClaim := { program := "ythlpmnkjoclddaa", sum := "db3c00cde67c3ca2eba6b6c63cbcb162f597d0b24e17aacc5109f1fc70c34a47", func := "loop.example/g03405/laws.FnExactIsBase", spec := "fnExactIsBase", apart := false }
def FnExactIsBaseSaid : Prop := fnExactIsBaseRow.holds Try.pinned (OpenSpec.ofChange fnExactIsBaseSpec)

/-- ITS FALSE NEIGHBOUR: 'it returns false'. Refute it at one input. -/
def fnExactIsBaseWrong : ChangeSpec := { name := "fnExactIsBase", fn := fun _ => fun
  | [d1, d2] => { results := [.lit (.bool false)], args := [d1, d2] }
  | _ => none }
def FnExactIsBaseWrongFalsely : Prop := fnExactIsBaseRow.holds Try.pinned (OpenSpec.ofChange fnExactIsBaseWrong)

/-- 'laws.FnExactMaximumOf': WHATEVER THE INPUT: true; the input reads as it did. -/
def fnExactMaximumOfSpec : ChangeSpec := { name := "fnExactMaximumOf", fn := fun _ => fun
  | [d] => { results := [.lit (.bool true)], args := [d] }
  | _ => none }
def fnExactMaximumOfRow : OpenClaim := { program := "ythlpmnkjoclddaa", sum := "db3c00cde67c3ca2eba6b6c63cbcb162f597d0b24e17aacc5109f1fc70c34a47", func := "loop.example/g03405/laws.FnExactMaximumOf", spec := "fnExactMaximumOf", apart := false }
def FnExactMaximumOfSaid : Prop := fnExactMaximumOfRow.holds Try.pinned (OpenSpec.ofChange fnExactMaximumOfSpec)

/-- ITS FALSE NEIGHBOUR: 'it returns false'. Refute it at one input. -/
def fnExactMaximumOfWrong : ChangeSpec := { name := "fnExactMaximumOf", fn := fun _ => fun
  | [d] => { results := [.lit (.bool false)], args := [d] }
  | _ => none }
def FnExactMaximumOfWrongFalsely : Prop := fnExactMaximumOfRow.holds Try.pinned (OpenSpec.ofChange fnExactMaximumOfWrong)

/-- 'laws.FnExactBestOfSize': WHATEVER THE INPUT: true; the input reads as it did. -/
def fnExactBestOfSizeSpec : ChangeSpec := { name := "fnExactBestOfSize", fn := fun _ => fun
  | [d1, d2] => { results := [.lit (.bool true)], args := [d1, d2] }
  | _ => none }
def fnExactBestOfSizeRow : OpenClaim := { program := "ythlpmnkjoclddaa", sum := "db3c00cde67c3ca2eba6b6c63cbcb162f597d0b24e17aacc5109f1fc70c34a47", func := "loop.example/g03405/laws.FnExactBestOfSize", spec := "fnExactBestOfSize", apart := false }
def FnExactBestOfSizeSaid : Prop := fnExactBestOfSizeRow.holds Try.pinned (OpenSpec.ofChange fnExactBestOfSizeSpec)

/-- ITS FALSE NEIGHBOUR: 'it returns false'. Refute it at one input. -/
def fnExactBestOfSizeWrong : ChangeSpec := { name := "fnExactBestOfSize", fn := fun _ => fun
  | [d1, d2] => { results := [.lit (.bool false)], args := [d1, d2] }
  | _ => none }
def FnExactBestOfSizeWrongFalsely : Prop := fnExactBestOfSizeRow.holds Try.pinned (OpenSpec.ofChange fnExactBestOfSizeWrong)

/-- 'laws.FnExactCornerOf': WHATEVER THE INPUT: true; the input reads as it did. -/
def fnExactCornerOfSpec : ChangeSpec := { name := "fnExactCornerOf", fn := fun _ => fun
  | [d1, d2] => { results := [.lit (.bool true)], args := [d1, d2] }
  | _ => none }
def fnExactCornerOfRow : OpenClaim := { program := "ythlpmnkjoclddaa", sum := "db3c00cde67c3ca2eba6b6c63cbcb162f597d0b24e17aacc5109f1fc70c34a47", func := "loop.example/g03405/laws.FnExactCornerOf", spec := "fnExactCornerOf", apart := false }
def FnExactCornerOfSaid : Prop := fnExactCornerOfRow.holds Try.pinned (OpenSpec.ofChange fnExactCornerOfSpec)

/-- ITS FALSE NEIGHBOUR: 'it returns false'. Refute it at one input. -/
def fnExactCornerOfWrong : ChangeSpec := { name := "fnExactCornerOf", fn := fun _ => fun
  | [d1, d2] => { results := [.lit (.bool false)], args := [d1, d2] }
  | _ => none }
def FnExactCornerOfWrongFalsely : Prop := fnExactCornerOfRow.holds Try.pinned (OpenSpec.ofChange fnExactCornerOfWrong)

/-- 'laws.FnExactCapacityOf': WHATEVER THE INPUT: true; the input reads as it did. -/
def fnExactCapacityOfSpec : ChangeSpec := { name := "fnExactCapacityOf", fn := fun _ => fun
  | [d1, d2, d3] => { results := [.lit (.bool true)], args := [d1, d2, d3] }
  | _ => none }
def fnExactCapacityOfRow : OpenClaim := { program := "ythlpmnkjoclddaa", sum := "db3c00cde67c3ca2eba6b6c63cbcb162f597d0b24e17aacc5109f1fc70c34a47", func := "loop.example/g03405/laws.FnExactCapacityOf", spec := "fnExactCapacityOf", unfollowed := true, recurses := true, apart := false }
def FnExactCapacityOfSaid : Prop := fnExactCapacityOfRow.holds Try.pinned (OpenSpec.ofChange fnExactCapacityOfSpec)

/-- ITS FALSE NEIGHBOUR: 'it returns false'. Refute it at one input. -/
def fnExactCapacityOfWrong : ChangeSpec := { name := "fnExactCapacityOf", fn := fun _ => fun
  | [d1, d2, d3] => { results := [.lit (.bool false)], args := [d1, d2, d3] }
  | _ => none }
def FnExactCapacityOfWrongFalsely : Prop := fnExactCapacityOfRow.holds Try.pinned (OpenSpec.ofChange fnExactCapacityOfWrong)

/-- 'laws.FnExactExchangeCapacity': WHATEVER THE INPUT: true; the input reads as it did. -/
def fnExactExchangeCapacitySpec : ChangeSpec := { name := "fnExactExchangeCapacity", fn := fun _ => fun
  | [d1, d2, d3, d4] => { results := [.lit (.bool true)], args := [d1, d2, d3, d4] }
  | _ => none }
def fnExactExchangeCapacityRow : OpenClaim := { program := "ythlpmnkjoclddaa", sum := "db3c00cde67c3ca2eba6b6c63cbcb162f597d0b24e17aacc5109f1fc70c34a47", func := "loop.example/g03405/laws.FnExactExchangeCapacity", spec := "fnExactExchangeCapacity", unfollowed := true, recurses := true, apart := false }
def FnExactExchangeCapacitySaid : Prop := fnExactExchangeCapacityRow.holds Try.pinned (OpenSpec.ofChange fnExactExchangeCapacitySpec)

/-- ITS FALSE NEIGHBOUR: 'it returns false'. Refute it at one input. -/
def fnExactExchangeCapacityWrong : ChangeSpec := { name := "fnExactExchangeCapacity", fn := fun _ => fun
  | [d1, d2, d3, d4] => { results := [.lit (.bool false)], args := [d1, d2, d3, d4] }
  | _ => none }
def FnExactExchangeCapacityWrongFalsely : Prop := fnExactExchangeCapacityRow.holds Try.pinned (OpenSpec.ofChange fnExactExchangeCapacityWrong)

/-- 'laws.FnExactTightSets': WHATEVER THE INPUT: true; the input reads as it did. -/
def fnExactTightSetsSpec : ChangeSpec := { name := "fnExactTightSets", fn := fun _ => fun
  | [d1, d2] => { results := [.lit (.bool true)], args := [d1, d2] }
  | _ => none }
def fnExactTightSetsRow : OpenClaim := { program := "ythlpmnkjoclddaa", sum := "db3c00cde67c3ca2eba6b6c63cbcb162f597d0b24e17aacc5109f1fc70c34a47", func := "loop.example/g03405/laws.FnExactTightSets", spec := "fnExactTightSets", apart := false }
def FnExactTightSetsSaid : Prop := fnExactTightSetsRow.holds Try.pinned (OpenSpec.ofChange fnExactTightSetsSpec)

/-- ITS FALSE NEIGHBOUR: 'it returns false'. Refute it at one input. -/
def fnExactTightSetsWrong : ChangeSpec := { name := "fnExactTightSets", fn := fun _ => fun
  | [d1, d2] => { results := [.lit (.bool false)], args := [d1, d2] }
  | _ => none }
def FnExactTightSetsWrongFalsely : Prop := fnExactTightSetsRow.holds Try.pinned (OpenSpec.ofChange fnExactTightSetsWrong)

/-- 'laws.FnExactIsDualVector': WHATEVER THE INPUT: true; the input reads as it did. -/
def fnExactIsDualVectorSpec : ChangeSpec := { name := "fnExactIsDualVector", fn := fun _ => fun
  | [d1, d2] => { results := [.lit (.bool true)], args := [d1, d2] }
  | _ => none }
def fnExactIsDualVectorRow : OpenClaim := { program := "ythlpmnkjoclddaa", sum := "db3c00cde67c3ca2eba6b6c63cbcb162f597d0b24e17aacc5109f1fc70c34a47", func := "loop.example/g03405/laws.FnExactIsDualVector", spec := "fnExactIsDualVector", apart := false }
def FnExactIsDualVectorSaid : Prop := fnExactIsDualVectorRow.holds Try.pinned (OpenSpec.ofChange fnExactIsDualVectorSpec)

/-- ITS FALSE NEIGHBOUR: 'it returns false'. Refute it at one input. -/
def fnExactIsDualVectorWrong : ChangeSpec := { name := "fnExactIsDualVector", fn := fun _ => fun
  | [d1, d2] => { results := [.lit (.bool false)], args := [d1, d2] }
  | _ => none }
def FnExactIsDualVectorWrongFalsely : Prop := fnExactIsDualVectorRow.holds Try.pinned (OpenSpec.ofChange fnExactIsDualVectorWrong)

/- THE SECOND FORM. 'bulk': how many values and letters a reading holds, each counted each time it is reached (what is shared counts as often as it is met; a slice's spare places count too). A statement '..UptoSaid' is the law's where the arguments, and the package variables that the reading takes, are together of bulk at most 1048576: NARROWER than '..Said'. Prove '..Said' where nothing that the law and all that it calls make is longer than what came in: it says more and counts as full. Else prove '..UptoSaid'. A law counts once. -/
mutual
def uptoBulk {H : Type} : DataW H → Nat
  | .lit (.string bytes) => bytes.length + 1
  | .lit _ => 1
  | .nil => 1
  | .ptr d => uptoBulk d + 1
  | .slice elems spare => uptoBulkAll elems + uptoBulkAll spare + 1
  | .agg parts => uptoBulkAll parts + 1
  | .iface _ d => uptoBulk d + 1
  | .map entries => uptoBulkEntries entries + 1
  | .held _ => 1
def uptoBulkAll {H : Type} : List (DataW H) → Nat
  | [] => 0
  | d :: r => uptoBulk d + uptoBulkAll r
def uptoBulkEntries {H : Type} : List (Lit × DataW H) → Nat
  | [] => 0
  | x :: r => uptoBulkEntry x + uptoBulkEntries r
def uptoBulkEntry {H : Type} : Lit × DataW H → Nat
  | (.string bytes, d) => bytes.length + uptoBulk d + 1
  | (_, d) => uptoBulk d + 1
 end
def uptoSmall : (H : Type) → List (DataW H) → Bool := fun _ ds => decide (uptoBulkAll ds ≤ 1048576)
def OpenSpec.upto (s : _root_.Go.ChangeSpec) : _root_.Go.OpenSpec := { _root_.Go.OpenSpec.ofChange s with cond := some uptoSmall }

/-- 'laws.FnExactIsBelow', WHERE WHAT IT READS IS OF BULK AT MOST 1048576: true; the input reads as it did. -/
def fnExactIsBelowUptoRow : OpenClaim := { program := "ythlpmnkjoclddaa", sum := "db3c00cde67c3ca2eba6b6c63cbcb162f597d0b24e17aacc5109f1fc70c34a47", func := "loop.example/g03405/laws.FnExactIsBelow", spec := "fnExactIsBelow", apart := false, narrowed := true }
def FnExactIsBelowUptoSaid : Prop := fnExactIsBelowUptoRow.holds Try.pinned (OpenSpec.upto fnExactIsBelowSpec)

/-- 'laws.FnExactGreedyOfSize', WHERE WHAT IT READS IS OF BULK AT MOST 1048576: true; the input reads as it did. -/
def fnExactGreedyOfSizeUptoRow : OpenClaim := { program := "ythlpmnkjoclddaa", sum := "db3c00cde67c3ca2eba6b6c63cbcb162f597d0b24e17aacc5109f1fc70c34a47", func := "loop.example/g03405/laws.FnExactGreedyOfSize", spec := "fnExactGreedyOfSize", apart := false, narrowed := true }
def FnExactGreedyOfSizeUptoSaid : Prop := fnExactGreedyOfSizeUptoRow.holds Try.pinned (OpenSpec.upto fnExactGreedyOfSizeSpec)

/-- 'laws.FnExactIsSymmetricFunction', WHERE WHAT IT READS IS OF BULK AT MOST 1048576: true; the input reads as it did. -/
def fnExactIsSymmetricFunctionUptoRow : OpenClaim := { program := "ythlpmnkjoclddaa", sum := "db3c00cde67c3ca2eba6b6c63cbcb162f597d0b24e17aacc5109f1fc70c34a47", func := "loop.example/g03405/laws.FnExactIsSymmetricFunction", spec := "fnExactIsSymmetricFunction", unfollowed := true, recurses := true, apart := false, narrowed := true }
def FnExactIsSymmetricFunctionUptoSaid : Prop := fnExactIsSymmetricFunctionUptoRow.holds Try.pinned (OpenSpec.upto fnExactIsSymmetricFunctionSpec)

/-- 'laws.FnExactMinimizersOf', WHERE WHAT IT READS IS OF BULK AT MOST 1048576: true; the input reads as it did. -/
def fnExactMinimizersOfUptoRow : OpenClaim := { program := "ythlpmnkjoclddaa", sum := "db3c00cde67c3ca2eba6b6c63cbcb162f597d0b24e17aacc5109f1fc70c34a47", func := "loop.example/g03405/laws.FnExactMinimizersOf", spec := "fnExactMinimizersOf", apart := false, narrowed := true }
def FnExactMinimizersOfUptoSaid : Prop := fnExactMinimizersOfUptoRow.holds Try.pinned (OpenSpec.upto fnExactMinimizersOfSpec)

/-- 'laws.FnExactIsBase', WHERE WHAT IT READS IS OF BULK AT MOST 1048576: true; the input reads as it did. -/
def fnExactIsBaseUptoRow : OpenClaim := { program := "ythlpmnkjoclddaa", sum := "db3c00cde67c3ca2eba6b6c63cbcb162f597d0b24e17aacc5109f1fc70c34a47", func := "loop.example/g03405/laws.FnExactIsBase", spec := "fnExactIsBase", apart := false, narrowed := true }
def FnExactIsBaseUptoSaid : Prop := fnExactIsBaseUptoRow.holds Try.pinned (OpenSpec.upto fnExactIsBaseSpec)

/-- 'laws.FnExactMaximumOf', WHERE WHAT IT READS IS OF BULK AT MOST 1048576: true; the input reads as it did. -/
def fnExactMaximumOfUptoRow : OpenClaim := { program := "ythlpmnkjoclddaa", sum := "db3c00cde67c3ca2eba6b6c63cbcb162f597d0b24e17aacc5109f1fc70c34a47", func := "loop.example/g03405/laws.FnExactMaximumOf", spec := "fnExactMaximumOf", apart := false, narrowed := true }
def FnExactMaximumOfUptoSaid : Prop := fnExactMaximumOfUptoRow.holds Try.pinned (OpenSpec.upto fnExactMaximumOfSpec)

/-- 'laws.FnExactBestOfSize', WHERE WHAT IT READS IS OF BULK AT MOST 1048576: true; the input reads as it did. -/
def fnExactBestOfSizeUptoRow : OpenClaim := { program := "ythlpmnkjoclddaa", sum := "db3c00cde67c3ca2eba6b6c63cbcb162f597d0b24e17aacc5109f1fc70c34a47", func := "loop.example/g03405/laws.FnExactBestOfSize", spec := "fnExactBestOfSize", apart := false, narrowed := true }
def FnExactBestOfSizeUptoSaid : Prop := fnExactBestOfSizeUptoRow.holds Try.pinned (OpenSpec.upto fnExactBestOfSizeSpec)

/-- 'laws.FnExactCornerOf', WHERE WHAT IT READS IS OF BULK AT MOST 1048576: true; the input reads as it did. -/
def fnExactCornerOfUptoRow : OpenClaim := { program := "ythlpmnkjoclddaa", sum := "db3c00cde67c3ca2eba6b6c63cbcb162f597d0b24e17aacc5109f1fc70c34a47", func := "loop.example/g03405/laws.FnExactCornerOf", spec := "fnExactCornerOf", apart := false, narrowed := true }
def FnExactCornerOfUptoSaid : Prop := fnExactCornerOfUptoRow.holds Try.pinned (OpenSpec.upto fnExactCornerOfSpec)

/-- 'laws.FnExactCapacityOf', WHERE WHAT IT READS IS OF BULK AT MOST 1048576: true; the input reads as it did. -/
def fnExactCapacityOfUptoRow : OpenClaim := { program := "ythlpmnkjoclddaa", sum := "db3c00cde67c3ca2eba6b6c63cbcb162f597d0b24e17aacc5109f1fc70c34a47", func := "loop.example/g03405/laws.FnExactCapacityOf", spec := "fnExactCapacityOf", unfollowed := true, recurses := true, apart := false, narrowed := true }
def FnExactCapacityOfUptoSaid : Prop := fnExactCapacityOfUptoRow.holds Try.pinned (OpenSpec.upto fnExactCapacityOfSpec)

/-- 'laws.FnExactExchangeCapacity', WHERE WHAT IT READS IS OF BULK AT MOST 1048576: true; the input reads as it did. -/
def fnExactExchangeCapacityUptoRow : OpenClaim := { program := "ythlpmnkjoclddaa", sum := "db3c00cde67c3ca2eba6b6c63cbcb162f597d0b24e17aacc5109f1fc70c34a47", func := "loop.example/g03405/laws.FnExactExchangeCapacity", spec := "fnExactExchangeCapacity", unfollowed := true, recurses := true, apart := false, narrowed := true }
def FnExactExchangeCapacityUptoSaid : Prop := fnExactExchangeCapacityUptoRow.holds Try.pinned (OpenSpec.upto fnExactExchangeCapacitySpec)

/-- 'laws.FnExactTightSets', WHERE WHAT IT READS IS OF BULK AT MOST 1048576: true; the input reads as it did. -/
def fnExactTightSetsUptoRow : OpenClaim := { program := "ythlpmnkjoclddaa", sum := "db3c00cde67c3ca2eba6b6c63cbcb162f597d0b24e17aacc5109f1fc70c34a47", func := "loop.example/g03405/laws.FnExactTightSets", spec := "fnExactTightSets", apart := false, narrowed := true }
def FnExactTightSetsUptoSaid : Prop := fnExactTightSetsUptoRow.holds Try.pinned (OpenSpec.upto fnExactTightSetsSpec)

/-- 'laws.FnExactIsDualVector', WHERE WHAT IT READS IS OF BULK AT MOST 1048576: true; the input reads as it did. -/
def fnExactIsDualVectorUptoRow : OpenClaim := { program := "ythlpmnkjoclddaa", sum := "db3c00cde67c3ca2eba6b6c63cbcb162f597d0b24e17aacc5109f1fc70c34a47", func := "loop.example/g03405/laws.FnExactIsDualVector", spec := "fnExactIsDualVector", apart := false, narrowed := true }
def FnExactIsDualVectorUptoSaid : Prop := fnExactIsDualVectorUptoRow.holds Try.pinned (OpenSpec.upto fnExactIsDualVectorSpec)

end Rows
end Go.Proofs.Ythlpmnkjoclddaa
