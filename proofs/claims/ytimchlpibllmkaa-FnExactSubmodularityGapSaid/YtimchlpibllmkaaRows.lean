/-
  No cell of these rows narrows 'for every input' (looked for: loops, veiled, ifaces, maps, wideKeys, modest, calm, conditions, laid).
  DERIVED. THE GIVEN ROWS OF THIS SEAT. 12 by the template 'for every input the law returns true; each argument reads behind the call as it read before'; 0 by the template 'total and deterministic' (their statements: YtimchlpibllmkaaTotals.lean).
  GIVEN WITH THE SEED: the statements are not yours to turn. If you find one false, say at which input.
  Laid BY PROGRAM, IN A SANDBOX (cutbox-rows.mjs): the forced cells as the released guide's own fill.sh prints them over the translation d941de8dd2e11003… (all of the seat's roots in one cut). By AI agents, Wed Nov 11 2026. No macro, syntax, notation, axiom, sorry.
-/
import Derived.Test.YtimchlpibllmkaaChecked
import GoSem.Claim
import GoSem.ClaimJoined
import GoSem.ClaimMapViews
import Derived.JoinedTies
import Derived.KernelRfl
namespace Go.Proofs.Ytimchlpibllmkaa
/- THE CELL 'sum', in the pinned program and in every row, IS THE sha256 OF THE DUMP (.gsa) THAT YtimchlpibllmkaaProg.lean LOADS. Nothing in Lean hashes anything: it is a label: what it is worth is what the hold of that sum in a sandbox is worth. -/
noncomputable def Try.pinned : Pinned := { name := "ytimchlpibllmkaa", sum := "d941de8dd2e110034fc202960899b83ed015a8ecb87d10b9d1441c1338fcc98a", checked := Try.checked }
namespace Rows
def none {H : Type} : Left H := { results := [], args := [] }

/-- 'laws.FnExactCompareRatios': WHATEVER THE INPUT: true; the input reads as it did. -/
def fnExactCompareRatiosSpec : ChangeSpec := { name := "fnExactCompareRatios", fn := fun _ => fun
  | [d1, d2, d3, d4] => { results := [.lit (.bool true)], args := [d1, d2, d3, d4] }
  | _ => none }
def fnExactCompareRatiosRow : OpenClaim := { program := "ytimchlpibllmkaa", sum := "d941de8dd2e110034fc202960899b83ed015a8ecb87d10b9d1441c1338fcc98a", func := "loop.example/g03405/laws.FnExactCompareRatios", spec := "fnExactCompareRatios", apart := false }
def FnExactCompareRatiosSaid : Prop := fnExactCompareRatiosRow.holds Try.pinned (OpenSpec.ofChange fnExactCompareRatiosSpec)

/-- ITS FALSE NEIGHBOUR: 'it returns false'. Refute it at one input. -/
def fnExactCompareRatiosWrong : ChangeSpec := { name := "fnExactCompareRatios", fn := fun _ => fun
  | [d1, d2, d3, d4] => { results := [.lit (.bool false)], args := [d1, d2, d3, d4] }
  | _ => none }
def FnExactCompareRatiosWrongFalsely : Prop := fnExactCompareRatiosRow.holds Try.pinned (OpenSpec.ofChange fnExactCompareRatiosWrong)

/-- 'laws.FnExactNegativePart': WHATEVER THE INPUT: true; the input reads as it did. -/
def fnExactNegativePartSpec : ChangeSpec := { name := "fnExactNegativePart", fn := fun _ => fun
  | [d] => { results := [.lit (.bool true)], args := [d] }
  | _ => none }
def fnExactNegativePartRow : OpenClaim := { program := "ytimchlpibllmkaa", sum := "d941de8dd2e110034fc202960899b83ed015a8ecb87d10b9d1441c1338fcc98a", func := "loop.example/g03405/laws.FnExactNegativePart", spec := "fnExactNegativePart", apart := false }
def FnExactNegativePartSaid : Prop := fnExactNegativePartRow.holds Try.pinned (OpenSpec.ofChange fnExactNegativePartSpec)

/-- ITS FALSE NEIGHBOUR: 'it returns false'. Refute it at one input. -/
def fnExactNegativePartWrong : ChangeSpec := { name := "fnExactNegativePart", fn := fun _ => fun
  | [d] => { results := [.lit (.bool false)], args := [d] }
  | _ => none }
def FnExactNegativePartWrongFalsely : Prop := fnExactNegativePartRow.holds Try.pinned (OpenSpec.ofChange fnExactNegativePartWrong)

/-- 'laws.FnExactIsLattice': WHATEVER THE INPUT: true; the input reads as it did. -/
def fnExactIsLatticeSpec : ChangeSpec := { name := "fnExactIsLattice", fn := fun _ => fun
  | [d] => { results := [.lit (.bool true)], args := [d] }
  | _ => none }
def fnExactIsLatticeRow : OpenClaim := { program := "ytimchlpibllmkaa", sum := "d941de8dd2e110034fc202960899b83ed015a8ecb87d10b9d1441c1338fcc98a", func := "loop.example/g03405/laws.FnExactIsLattice", spec := "fnExactIsLattice", apart := false }
def FnExactIsLatticeSaid : Prop := fnExactIsLatticeRow.holds Try.pinned (OpenSpec.ofChange fnExactIsLatticeSpec)

/-- ITS FALSE NEIGHBOUR: 'it returns false'. Refute it at one input. -/
def fnExactIsLatticeWrong : ChangeSpec := { name := "fnExactIsLattice", fn := fun _ => fun
  | [d] => { results := [.lit (.bool false)], args := [d] }
  | _ => none }
def FnExactIsLatticeWrongFalsely : Prop := fnExactIsLatticeRow.holds Try.pinned (OpenSpec.ofChange fnExactIsLatticeWrong)

/-- 'laws.FnExactLeastVector': WHATEVER THE INPUT: true; the input reads as it did. -/
def fnExactLeastVectorSpec : ChangeSpec := { name := "fnExactLeastVector", fn := fun _ => fun
  | [d1, d2] => { results := [.lit (.bool true)], args := [d1, d2] }
  | _ => none }
def fnExactLeastVectorRow : OpenClaim := { program := "ytimchlpibllmkaa", sum := "d941de8dd2e110034fc202960899b83ed015a8ecb87d10b9d1441c1338fcc98a", func := "loop.example/g03405/laws.FnExactLeastVector", spec := "fnExactLeastVector", unfollowed := true, recurses := true, apart := false }
def FnExactLeastVectorSaid : Prop := fnExactLeastVectorRow.holds Try.pinned (OpenSpec.ofChange fnExactLeastVectorSpec)

/-- ITS FALSE NEIGHBOUR: 'it returns false'. Refute it at one input. -/
def fnExactLeastVectorWrong : ChangeSpec := { name := "fnExactLeastVector", fn := fun _ => fun
  | [d1, d2] => { results := [.lit (.bool false)], args := [d1, d2] }
  | _ => none }
def FnExactLeastVectorWrongFalsely : Prop := fnExactLeastVectorRow.holds Try.pinned (OpenSpec.ofChange fnExactLeastVectorWrong)

/-- 'laws.FnExactTotalGain': WHATEVER THE INPUT: true; the input reads as it did. -/
def fnExactTotalGainSpec : ChangeSpec := { name := "fnExactTotalGain", fn := fun _ => fun
  | [d] => { results := [.lit (.bool true)], args := [d] }
  | _ => none }
def fnExactTotalGainRow : OpenClaim := { program := "ytimchlpibllmkaa", sum := "d941de8dd2e110034fc202960899b83ed015a8ecb87d10b9d1441c1338fcc98a", func := "loop.example/g03405/laws.FnExactTotalGain", spec := "fnExactTotalGain", apart := false }
def FnExactTotalGainSaid : Prop := fnExactTotalGainRow.holds Try.pinned (OpenSpec.ofChange fnExactTotalGainSpec)

/-- ITS FALSE NEIGHBOUR: 'it returns false'. Refute it at one input. -/
def fnExactTotalGainWrong : ChangeSpec := { name := "fnExactTotalGain", fn := fun _ => fun
  | [d] => { results := [.lit (.bool false)], args := [d] }
  | _ => none }
def FnExactTotalGainWrongFalsely : Prop := fnExactTotalGainRow.holds Try.pinned (OpenSpec.ofChange fnExactTotalGainWrong)

/-- 'laws.FnExactMinimumOf': WHATEVER THE INPUT: true; the input reads as it did. -/
def fnExactMinimumOfSpec : ChangeSpec := { name := "fnExactMinimumOf", fn := fun _ => fun
  | [d] => { results := [.lit (.bool true)], args := [d] }
  | _ => none }
def fnExactMinimumOfRow : OpenClaim := { program := "ytimchlpibllmkaa", sum := "d941de8dd2e110034fc202960899b83ed015a8ecb87d10b9d1441c1338fcc98a", func := "loop.example/g03405/laws.FnExactMinimumOf", spec := "fnExactMinimumOf", apart := false }
def FnExactMinimumOfSaid : Prop := fnExactMinimumOfRow.holds Try.pinned (OpenSpec.ofChange fnExactMinimumOfSpec)

/-- ITS FALSE NEIGHBOUR: 'it returns false'. Refute it at one input. -/
def fnExactMinimumOfWrong : ChangeSpec := { name := "fnExactMinimumOf", fn := fun _ => fun
  | [d] => { results := [.lit (.bool false)], args := [d] }
  | _ => none }
def FnExactMinimumOfWrongFalsely : Prop := fnExactMinimumOfRow.holds Try.pinned (OpenSpec.ofChange fnExactMinimumOfWrong)

/-- 'laws.FnExactMinimumBetween': WHATEVER THE INPUT: true; the input reads as it did. -/
def fnExactMinimumBetweenSpec : ChangeSpec := { name := "fnExactMinimumBetween", fn := fun _ => fun
  | [d1, d2, d3] => { results := [.lit (.bool true)], args := [d1, d2, d3] }
  | _ => none }
def fnExactMinimumBetweenRow : OpenClaim := { program := "ytimchlpibllmkaa", sum := "d941de8dd2e110034fc202960899b83ed015a8ecb87d10b9d1441c1338fcc98a", func := "loop.example/g03405/laws.FnExactMinimumBetween", spec := "fnExactMinimumBetween", apart := false }
def FnExactMinimumBetweenSaid : Prop := fnExactMinimumBetweenRow.holds Try.pinned (OpenSpec.ofChange fnExactMinimumBetweenSpec)

/-- ITS FALSE NEIGHBOUR: 'it returns false'. Refute it at one input. -/
def fnExactMinimumBetweenWrong : ChangeSpec := { name := "fnExactMinimumBetween", fn := fun _ => fun
  | [d1, d2, d3] => { results := [.lit (.bool false)], args := [d1, d2, d3] }
  | _ => none }
def FnExactMinimumBetweenWrongFalsely : Prop := fnExactMinimumBetweenRow.holds Try.pinned (OpenSpec.ofChange fnExactMinimumBetweenWrong)

/-- 'laws.FnExactIsLocalMaximum': WHATEVER THE INPUT: true; the input reads as it did. -/
def fnExactIsLocalMaximumSpec : ChangeSpec := { name := "fnExactIsLocalMaximum", fn := fun _ => fun
  | [d1, d2] => { results := [.lit (.bool true)], args := [d1, d2] }
  | _ => none }
def fnExactIsLocalMaximumRow : OpenClaim := { program := "ytimchlpibllmkaa", sum := "d941de8dd2e110034fc202960899b83ed015a8ecb87d10b9d1441c1338fcc98a", func := "loop.example/g03405/laws.FnExactIsLocalMaximum", spec := "fnExactIsLocalMaximum", apart := false }
def FnExactIsLocalMaximumSaid : Prop := fnExactIsLocalMaximumRow.holds Try.pinned (OpenSpec.ofChange fnExactIsLocalMaximumSpec)

/-- ITS FALSE NEIGHBOUR: 'it returns false'. Refute it at one input. -/
def fnExactIsLocalMaximumWrong : ChangeSpec := { name := "fnExactIsLocalMaximum", fn := fun _ => fun
  | [d1, d2] => { results := [.lit (.bool false)], args := [d1, d2] }
  | _ => none }
def FnExactIsLocalMaximumWrongFalsely : Prop := fnExactIsLocalMaximumRow.holds Try.pinned (OpenSpec.ofChange fnExactIsLocalMaximumWrong)

/-- 'laws.FnExactDoubleGreedy': WHATEVER THE INPUT: true; the input reads as it did. -/
def fnExactDoubleGreedySpec : ChangeSpec := { name := "fnExactDoubleGreedy", fn := fun _ => fun
  | [d] => { results := [.lit (.bool true)], args := [d] }
  | _ => none }
def fnExactDoubleGreedyRow : OpenClaim := { program := "ytimchlpibllmkaa", sum := "d941de8dd2e110034fc202960899b83ed015a8ecb87d10b9d1441c1338fcc98a", func := "loop.example/g03405/laws.FnExactDoubleGreedy", spec := "fnExactDoubleGreedy", apart := false }
def FnExactDoubleGreedySaid : Prop := fnExactDoubleGreedyRow.holds Try.pinned (OpenSpec.ofChange fnExactDoubleGreedySpec)

/-- ITS FALSE NEIGHBOUR: 'it returns false'. Refute it at one input. -/
def fnExactDoubleGreedyWrong : ChangeSpec := { name := "fnExactDoubleGreedy", fn := fun _ => fun
  | [d] => { results := [.lit (.bool false)], args := [d] }
  | _ => none }
def FnExactDoubleGreedyWrongFalsely : Prop := fnExactDoubleGreedyRow.holds Try.pinned (OpenSpec.ofChange fnExactDoubleGreedyWrong)

/-- 'laws.FnExactLocalMaximum': WHATEVER THE INPUT: true; the input reads as it did. -/
def fnExactLocalMaximumSpec : ChangeSpec := { name := "fnExactLocalMaximum", fn := fun _ => fun
  | [d1, d2] => { results := [.lit (.bool true)], args := [d1, d2] }
  | _ => none }
def fnExactLocalMaximumRow : OpenClaim := { program := "ytimchlpibllmkaa", sum := "d941de8dd2e110034fc202960899b83ed015a8ecb87d10b9d1441c1338fcc98a", func := "loop.example/g03405/laws.FnExactLocalMaximum", spec := "fnExactLocalMaximum", apart := false }
def FnExactLocalMaximumSaid : Prop := fnExactLocalMaximumRow.holds Try.pinned (OpenSpec.ofChange fnExactLocalMaximumSpec)

/-- ITS FALSE NEIGHBOUR: 'it returns false'. Refute it at one input. -/
def fnExactLocalMaximumWrong : ChangeSpec := { name := "fnExactLocalMaximum", fn := fun _ => fun
  | [d1, d2] => { results := [.lit (.bool false)], args := [d1, d2] }
  | _ => none }
def FnExactLocalMaximumWrongFalsely : Prop := fnExactLocalMaximumRow.holds Try.pinned (OpenSpec.ofChange fnExactLocalMaximumWrong)

/-- 'laws.FnExactSubmodularityGap': WHATEVER THE INPUT: true; the input reads as it did. -/
def fnExactSubmodularityGapSpec : ChangeSpec := { name := "fnExactSubmodularityGap", fn := fun _ => fun
  | [d] => { results := [.lit (.bool true)], args := [d] }
  | _ => none }
def fnExactSubmodularityGapRow : OpenClaim := { program := "ytimchlpibllmkaa", sum := "d941de8dd2e110034fc202960899b83ed015a8ecb87d10b9d1441c1338fcc98a", func := "loop.example/g03405/laws.FnExactSubmodularityGap", spec := "fnExactSubmodularityGap", unfollowed := true, recurses := true, apart := false }
def FnExactSubmodularityGapSaid : Prop := fnExactSubmodularityGapRow.holds Try.pinned (OpenSpec.ofChange fnExactSubmodularityGapSpec)

/-- ITS FALSE NEIGHBOUR: 'it returns false'. Refute it at one input. -/
def fnExactSubmodularityGapWrong : ChangeSpec := { name := "fnExactSubmodularityGap", fn := fun _ => fun
  | [d] => { results := [.lit (.bool false)], args := [d] }
  | _ => none }
def FnExactSubmodularityGapWrongFalsely : Prop := fnExactSubmodularityGapRow.holds Try.pinned (OpenSpec.ofChange fnExactSubmodularityGapWrong)

/-- 'laws.FnExactRankOfVector': WHATEVER THE INPUT: true; the input reads as it did. -/
def fnExactRankOfVectorSpec : ChangeSpec := { name := "fnExactRankOfVector", fn := fun _ => fun
  | [d1, d2] => { results := [.lit (.bool true)], args := [d1, d2] }
  | _ => none }
def fnExactRankOfVectorRow : OpenClaim := { program := "ytimchlpibllmkaa", sum := "d941de8dd2e110034fc202960899b83ed015a8ecb87d10b9d1441c1338fcc98a", func := "loop.example/g03405/laws.FnExactRankOfVector", spec := "fnExactRankOfVector", apart := false }
def FnExactRankOfVectorSaid : Prop := fnExactRankOfVectorRow.holds Try.pinned (OpenSpec.ofChange fnExactRankOfVectorSpec)

/-- ITS FALSE NEIGHBOUR: 'it returns false'. Refute it at one input. -/
def fnExactRankOfVectorWrong : ChangeSpec := { name := "fnExactRankOfVector", fn := fun _ => fun
  | [d1, d2] => { results := [.lit (.bool false)], args := [d1, d2] }
  | _ => none }
def FnExactRankOfVectorWrongFalsely : Prop := fnExactRankOfVectorRow.holds Try.pinned (OpenSpec.ofChange fnExactRankOfVectorWrong)

/- THE SECOND FORM. 'bulk': how many values and letters a reading holds, each counted each time it is reached (what is shared counts as often as it is met; a slice's spare places count too). A statement '..UptoSaid' is the law's where the arguments, and the package variables that the reading takes, are together of bulk at most 1048576: NARROWER than '..Said'. Prove '..Said' where nothing that the law and all that it calls make is longer than what came in: it says more and counts as full. Else prove '..UptoSaid'. A law counts once. -/
mutual
def uptoBulk {H : Type} : DataW H → Nat
  | .lit (.string bytes) => bytes.length + 1
  | .lit _ => 1
  | .nil => 1
  | .ptr d => uptoBulk d + 1
  | .slice elems spare => uptoBulkAll elems + uptoBulkAll spare + 1
  | .agg parts => uptoBulkAll parts + 1
  | .iface _ d => uptoBulk d + 1
  | .map entries => uptoBulkEntries entries + 1
  | .held _ => 1
def uptoBulkAll {H : Type} : List (DataW H) → Nat
  | [] => 0
  | d :: r => uptoBulk d + uptoBulkAll r
def uptoBulkEntries {H : Type} : List (Lit × DataW H) → Nat
  | [] => 0
  | x :: r => uptoBulkEntry x + uptoBulkEntries r
def uptoBulkEntry {H : Type} : Lit × DataW H → Nat
  | (.string bytes, d) => bytes.length + uptoBulk d + 1
  | (_, d) => uptoBulk d + 1
 end
def uptoSmall : (H : Type) → List (DataW H) → Bool := fun _ ds => decide (uptoBulkAll ds ≤ 1048576)
def OpenSpec.upto (s : _root_.Go.ChangeSpec) : _root_.Go.OpenSpec := { _root_.Go.OpenSpec.ofChange s with cond := some uptoSmall }

/-- 'laws.FnExactCompareRatios', WHERE WHAT IT READS IS OF BULK AT MOST 1048576: true; the input reads as it did. -/
def fnExactCompareRatiosUptoRow : OpenClaim := { program := "ytimchlpibllmkaa", sum := "d941de8dd2e110034fc202960899b83ed015a8ecb87d10b9d1441c1338fcc98a", func := "loop.example/g03405/laws.FnExactCompareRatios", spec := "fnExactCompareRatios", apart := false, narrowed := true }
def FnExactCompareRatiosUptoSaid : Prop := fnExactCompareRatiosUptoRow.holds Try.pinned (OpenSpec.upto fnExactCompareRatiosSpec)

/-- 'laws.FnExactNegativePart', WHERE WHAT IT READS IS OF BULK AT MOST 1048576: true; the input reads as it did. -/
def fnExactNegativePartUptoRow : OpenClaim := { program := "ytimchlpibllmkaa", sum := "d941de8dd2e110034fc202960899b83ed015a8ecb87d10b9d1441c1338fcc98a", func := "loop.example/g03405/laws.FnExactNegativePart", spec := "fnExactNegativePart", apart := false, narrowed := true }
def FnExactNegativePartUptoSaid : Prop := fnExactNegativePartUptoRow.holds Try.pinned (OpenSpec.upto fnExactNegativePartSpec)

/-- 'laws.FnExactIsLattice', WHERE WHAT IT READS IS OF BULK AT MOST 1048576: true; the input reads as it did. -/
def fnExactIsLatticeUptoRow : OpenClaim := { program := "ytimchlpibllmkaa", sum := "d941de8dd2e110034fc202960899b83ed015a8ecb87d10b9d1441c1338fcc98a", func := "loop.example/g03405/laws.FnExactIsLattice", spec := "fnExactIsLattice", apart := false, narrowed := true }
def FnExactIsLatticeUptoSaid : Prop := fnExactIsLatticeUptoRow.holds Try.pinned (OpenSpec.upto fnExactIsLatticeSpec)

/-- 'laws.FnExactLeastVector', WHERE WHAT IT READS IS OF BULK AT MOST 1048576: true; the input reads as it did. -/
def fnExactLeastVectorUptoRow : OpenClaim := { program := "ytimchlpibllmkaa", sum := "d941de8dd2e110034fc202960899b83ed015a8ecb87d10b9d1441c1338fcc98a", func := "loop.example/g03405/laws.FnExactLeastVector", spec := "fnExactLeastVector", unfollowed := true, recurses := true, apart := false, narrowed := true }
def FnExactLeastVectorUptoSaid : Prop := fnExactLeastVectorUptoRow.holds Try.pinned (OpenSpec.upto fnExactLeastVectorSpec)

/-- 'laws.FnExactTotalGain', WHERE WHAT IT READS IS OF BULK AT MOST 1048576: true; the input reads as it did. -/
def fnExactTotalGainUptoRow : OpenClaim := { program := "ytimchlpibllmkaa", sum := "d941de8dd2e110034fc202960899b83ed015a8ecb87d10b9d1441c1338fcc98a", func := "loop.example/g03405/laws.FnExactTotalGain", spec := "fnExactTotalGain", apart := false, narrowed := true }
def FnExactTotalGainUptoSaid : Prop := fnExactTotalGainUptoRow.holds Try.pinned (OpenSpec.upto fnExactTotalGainSpec)

/-- 'laws.FnExactMinimumOf', WHERE WHAT IT READS IS OF BULK AT MOST 1048576: true; the input reads as it did. -/
def fnExactMinimumOfUptoRow : OpenClaim := { program := "ytimchlpibllmkaa", sum := "d941de8dd2e110034fc202960899b83ed015a8ecb87d10b9d1441c1338fcc98a", func := "loop.example/g03405/laws.FnExactMinimumOf", spec := "fnExactMinimumOf", apart := false, narrowed := true }
def FnExactMinimumOfUptoSaid : Prop := fnExactMinimumOfUptoRow.holds Try.pinned (OpenSpec.upto fnExactMinimumOfSpec)

/-- 'laws.FnExactMinimumBetween', WHERE WHAT IT READS IS OF BULK AT MOST 1048576: true; the input reads as it did. -/
def fnExactMinimumBetweenUptoRow : OpenClaim := { program := "ytimchlpibllmkaa", sum := "d941de8dd2e110034fc202960899b83ed015a8ecb87d10b9d1441c1338fcc98a", func := "loop.example/g03405/laws.FnExactMinimumBetween", spec := "fnExactMinimumBetween", apart := false, narrowed := true }
def FnExactMinimumBetweenUptoSaid : Prop := fnExactMinimumBetweenUptoRow.holds Try.pinned (OpenSpec.upto fnExactMinimumBetweenSpec)

/-- 'laws.FnExactIsLocalMaximum', WHERE WHAT IT READS IS OF BULK AT MOST 1048576: true; the input reads as it did. -/
def fnExactIsLocalMaximumUptoRow : OpenClaim := { program := "ytimchlpibllmkaa", sum := "d941de8dd2e110034fc202960899b83ed015a8ecb87d10b9d1441c1338fcc98a", func := "loop.example/g03405/laws.FnExactIsLocalMaximum", spec := "fnExactIsLocalMaximum", apart := false, narrowed := true }
def FnExactIsLocalMaximumUptoSaid : Prop := fnExactIsLocalMaximumUptoRow.holds Try.pinned (OpenSpec.upto fnExactIsLocalMaximumSpec)

/-- 'laws.FnExactDoubleGreedy', WHERE WHAT IT READS IS OF BULK AT MOST 1048576: true; the input reads as it did. -/
def fnExactDoubleGreedyUptoRow : OpenClaim := { program := "ytimchlpibllmkaa", sum := "d941de8dd2e110034fc202960899b83ed015a8ecb87d10b9d1441c1338fcc98a", func := "loop.example/g03405/laws.FnExactDoubleGreedy", spec := "fnExactDoubleGreedy", apart := false, narrowed := true }
def FnExactDoubleGreedyUptoSaid : Prop := fnExactDoubleGreedyUptoRow.holds Try.pinned (OpenSpec.upto fnExactDoubleGreedySpec)

/-- 'laws.FnExactLocalMaximum', WHERE WHAT IT READS IS OF BULK AT MOST 1048576: true; the input reads as it did. -/
def fnExactLocalMaximumUptoRow : OpenClaim := { program := "ytimchlpibllmkaa", sum := "d941de8dd2e110034fc202960899b83ed015a8ecb87d10b9d1441c1338fcc98a", func := "loop.example/g03405/laws.FnExactLocalMaximum", spec := "fnExactLocalMaximum", apart := false, narrowed := true }
def FnExactLocalMaximumUptoSaid : Prop := fnExactLocalMaximumUptoRow.holds Try.pinned (OpenSpec.upto fnExactLocalMaximumSpec)

/-- 'laws.FnExactSubmodularityGap', WHERE WHAT IT READS IS OF BULK AT MOST 1048576: true; the input reads as it did. -/
def fnExactSubmodularityGapUptoRow : OpenClaim := { program := "ytimchlpibllmkaa", sum := "d941de8dd2e110034fc202960899b83ed015a8ecb87d10b9d1441c1338fcc98a", func := "loop.example/g03405/laws.FnExactSubmodularityGap", spec := "fnExactSubmodularityGap", unfollowed := true, recurses := true, apart := false, narrowed := true }
def FnExactSubmodularityGapUptoSaid : Prop := fnExactSubmodularityGapUptoRow.holds Try.pinned (OpenSpec.upto fnExactSubmodularityGapSpec)

/-- 'laws.FnExactRankOfVector', WHERE WHAT IT READS IS OF BULK AT MOST 1048576: true; the input reads as it did. -/
def fnExactRankOfVectorUptoRow : OpenClaim := { program := "ytimchlpibllmkaa", sum := "d941de8dd2e110034fc202960899b83ed015a8ecb87d10b9d1441c1338fcc98a", func := "loop.example/g03405/laws.FnExactRankOfVector", spec := "fnExactRankOfVector", apart := false, narrowed := true }
def FnExactRankOfVectorUptoSaid : Prop := fnExactRankOfVectorUptoRow.holds Try.pinned (OpenSpec.upto fnExactRankOfVectorSpec)

end Rows
end Go.Proofs.Ytimchlpibllmkaa
