/-
  No cell of these rows narrows 'for every input' (looked for: loops, veiled, ifaces, maps, wideKeys, modest, calm, conditions, laid).
  DERIVED. THE GIVEN ROWS OF THIS SEAT. 7 by the template 'for every input the law returns true; each argument reads behind the call as it read before'; 0 by the template 'total and deterministic' (their statements: YtfmibekefllhjaaTotals.lean).
  GIVEN WITH THE SEED: the statements are not yours to turn. If you find one false, say at which input.
  Laid BY PROGRAM, IN A SANDBOX (cutbox-rows.mjs): the forced cells as the released guide's own fill.sh prints them over the translation 35bf8f442bad18de… (all of the seat's roots in one cut). By AI agents, Wed Nov 11 2026. No macro, syntax, notation, axiom, sorry.
-/
import Derived.Test.YtfmibekefllhjaaChecked
import GoSem.Claim
import GoSem.ClaimJoined
import GoSem.ClaimMapViews
import Derived.JoinedTies
import Derived.KernelRfl
namespace Go.Proofs.Ytfmibekefllhjaa
/- THE CELL 'sum', in the pinned program and in every row, IS THE sha256 OF THE DUMP (.gsa) THAT YtfmibekefllhjaaProg.lean LOADS. Nothing in Lean hashes anything: it is a label: what it is worth is what the hold of that sum in a sandbox is worth. -/
noncomputable def Try.pinned : Pinned := { name := "ytfmibekefllhjaa", sum := "35bf8f442bad18deadf790c6850a82cecfc8fbdffddd7af26bb531dbb15bb2c2", checked := Try.checked }
namespace Rows
def none {H : Type} : Left H := { results := [], args := [] }

/-- 'laws.FnExactIsSymmetricFunction': WHATEVER THE INPUT: true; the input reads as it did. -/
def fnExactIsSymmetricFunctionSpec : ChangeSpec := { name := "fnExactIsSymmetricFunction", fn := fun _ => fun
  | [d] => { results := [.lit (.bool true)], args := [d] }
  | _ => none }
def fnExactIsSymmetricFunctionRow : OpenClaim := { program := "ytfmibekefllhjaa", sum := "35bf8f442bad18deadf790c6850a82cecfc8fbdffddd7af26bb531dbb15bb2c2", func := "loop.example/g03405/laws.FnExactIsSymmetricFunction", spec := "fnExactIsSymmetricFunction", unfollowed := true, recurses := true, apart := false }
def FnExactIsSymmetricFunctionSaid : Prop := fnExactIsSymmetricFunctionRow.holds Try.pinned (OpenSpec.ofChange fnExactIsSymmetricFunctionSpec)

/-- ITS FALSE NEIGHBOUR: 'it returns false'. Refute it at one input. -/
def fnExactIsSymmetricFunctionWrong : ChangeSpec := { name := "fnExactIsSymmetricFunction", fn := fun _ => fun
  | [d] => { results := [.lit (.bool false)], args := [d] }
  | _ => none }
def FnExactIsSymmetricFunctionWrongFalsely : Prop := fnExactIsSymmetricFunctionRow.holds Try.pinned (OpenSpec.ofChange fnExactIsSymmetricFunctionWrong)

/-- 'laws.FnExactMergeElements': WHATEVER THE INPUT: true; the input reads as it did. -/
def fnExactMergeElementsSpec : ChangeSpec := { name := "fnExactMergeElements", fn := fun _ => fun
  | [d1, d2, d3] => { results := [.lit (.bool true)], args := [d1, d2, d3] }
  | _ => none }
def fnExactMergeElementsRow : OpenClaim := { program := "ytfmibekefllhjaa", sum := "35bf8f442bad18deadf790c6850a82cecfc8fbdffddd7af26bb531dbb15bb2c2", func := "loop.example/g03405/laws.FnExactMergeElements", spec := "fnExactMergeElements", unfollowed := true, recurses := true, apart := false }
def FnExactMergeElementsSaid : Prop := fnExactMergeElementsRow.holds Try.pinned (OpenSpec.ofChange fnExactMergeElementsSpec)

/-- ITS FALSE NEIGHBOUR: 'it returns false'. Refute it at one input. -/
def fnExactMergeElementsWrong : ChangeSpec := { name := "fnExactMergeElements", fn := fun _ => fun
  | [d1, d2, d3] => { results := [.lit (.bool false)], args := [d1, d2, d3] }
  | _ => none }
def FnExactMergeElementsWrongFalsely : Prop := fnExactMergeElementsRow.holds Try.pinned (OpenSpec.ofChange fnExactMergeElementsWrong)

/-- 'laws.FnExactMinimumCut': WHATEVER THE INPUT: true; the input reads as it did. -/
def fnExactMinimumCutSpec : ChangeSpec := { name := "fnExactMinimumCut", fn := fun _ => fun
  | [d] => { results := [.lit (.bool true)], args := [d] }
  | _ => none }
def fnExactMinimumCutRow : OpenClaim := { program := "ytfmibekefllhjaa", sum := "35bf8f442bad18deadf790c6850a82cecfc8fbdffddd7af26bb531dbb15bb2c2", func := "loop.example/g03405/laws.FnExactMinimumCut", spec := "fnExactMinimumCut", unfollowed := true, recurses := true, apart := false }
def FnExactMinimumCutSaid : Prop := fnExactMinimumCutRow.holds Try.pinned (OpenSpec.ofChange fnExactMinimumCutSpec)

/-- ITS FALSE NEIGHBOUR: 'it returns false'. Refute it at one input. -/
def fnExactMinimumCutWrong : ChangeSpec := { name := "fnExactMinimumCut", fn := fun _ => fun
  | [d] => { results := [.lit (.bool false)], args := [d] }
  | _ => none }
def FnExactMinimumCutWrongFalsely : Prop := fnExactMinimumCutRow.holds Try.pinned (OpenSpec.ofChange fnExactMinimumCutWrong)

/-- 'laws.FnExactIsPendantPair': WHATEVER THE INPUT: true; the input reads as it did. -/
def fnExactIsPendantPairSpec : ChangeSpec := { name := "fnExactIsPendantPair", fn := fun _ => fun
  | [d1, d2, d3] => { results := [.lit (.bool true)], args := [d1, d2, d3] }
  | _ => none }
def fnExactIsPendantPairRow : OpenClaim := { program := "ytfmibekefllhjaa", sum := "35bf8f442bad18deadf790c6850a82cecfc8fbdffddd7af26bb531dbb15bb2c2", func := "loop.example/g03405/laws.FnExactIsPendantPair", spec := "fnExactIsPendantPair", unfollowed := true, recurses := true, apart := false }
def FnExactIsPendantPairSaid : Prop := fnExactIsPendantPairRow.holds Try.pinned (OpenSpec.ofChange fnExactIsPendantPairSpec)

/-- ITS FALSE NEIGHBOUR: 'it returns false'. Refute it at one input. -/
def fnExactIsPendantPairWrong : ChangeSpec := { name := "fnExactIsPendantPair", fn := fun _ => fun
  | [d1, d2, d3] => { results := [.lit (.bool false)], args := [d1, d2, d3] }
  | _ => none }
def FnExactIsPendantPairWrongFalsely : Prop := fnExactIsPendantPairRow.holds Try.pinned (OpenSpec.ofChange fnExactIsPendantPairWrong)

/-- 'laws.FnExactPendantPair': WHATEVER THE INPUT: true; the input reads as it did. -/
def fnExactPendantPairSpec : ChangeSpec := { name := "fnExactPendantPair", fn := fun _ => fun
  | [d] => { results := [.lit (.bool true)], args := [d] }
  | _ => none }
def fnExactPendantPairRow : OpenClaim := { program := "ytfmibekefllhjaa", sum := "35bf8f442bad18deadf790c6850a82cecfc8fbdffddd7af26bb531dbb15bb2c2", func := "loop.example/g03405/laws.FnExactPendantPair", spec := "fnExactPendantPair", unfollowed := true, recurses := true, apart := false }
def FnExactPendantPairSaid : Prop := fnExactPendantPairRow.holds Try.pinned (OpenSpec.ofChange fnExactPendantPairSpec)

/-- ITS FALSE NEIGHBOUR: 'it returns false'. Refute it at one input. -/
def fnExactPendantPairWrong : ChangeSpec := { name := "fnExactPendantPair", fn := fun _ => fun
  | [d] => { results := [.lit (.bool false)], args := [d] }
  | _ => none }
def FnExactPendantPairWrongFalsely : Prop := fnExactPendantPairRow.holds Try.pinned (OpenSpec.ofChange fnExactPendantPairWrong)

/-- 'laws.FnExactLegalOrder': WHATEVER THE INPUT: true; the input reads as it did. -/
def fnExactLegalOrderSpec : ChangeSpec := { name := "fnExactLegalOrder", fn := fun _ => fun
  | [d1, d2] => { results := [.lit (.bool true)], args := [d1, d2] }
  | _ => none }
def fnExactLegalOrderRow : OpenClaim := { program := "ytfmibekefllhjaa", sum := "35bf8f442bad18deadf790c6850a82cecfc8fbdffddd7af26bb531dbb15bb2c2", func := "loop.example/g03405/laws.FnExactLegalOrder", spec := "fnExactLegalOrder", unfollowed := true, recurses := true, apart := false }
def FnExactLegalOrderSaid : Prop := fnExactLegalOrderRow.holds Try.pinned (OpenSpec.ofChange fnExactLegalOrderSpec)

/-- ITS FALSE NEIGHBOUR: 'it returns false'. Refute it at one input. -/
def fnExactLegalOrderWrong : ChangeSpec := { name := "fnExactLegalOrder", fn := fun _ => fun
  | [d1, d2] => { results := [.lit (.bool false)], args := [d1, d2] }
  | _ => none }
def FnExactLegalOrderWrongFalsely : Prop := fnExactLegalOrderRow.holds Try.pinned (OpenSpec.ofChange fnExactLegalOrderWrong)

/-- 'laws.FnExactCornersOf': WHATEVER THE INPUT: true; the input reads as it did. -/
def fnExactCornersOfSpec : ChangeSpec := { name := "fnExactCornersOf", fn := fun _ => fun
  | [d] => { results := [.lit (.bool true)], args := [d] }
  | _ => none }
def fnExactCornersOfRow : OpenClaim := { program := "ytfmibekefllhjaa", sum := "35bf8f442bad18deadf790c6850a82cecfc8fbdffddd7af26bb531dbb15bb2c2", func := "loop.example/g03405/laws.FnExactCornersOf", spec := "fnExactCornersOf", unfollowed := true, recurses := true, apart := false }
def FnExactCornersOfSaid : Prop := fnExactCornersOfRow.holds Try.pinned (OpenSpec.ofChange fnExactCornersOfSpec)

/-- ITS FALSE NEIGHBOUR: 'it returns false'. Refute it at one input. -/
def fnExactCornersOfWrong : ChangeSpec := { name := "fnExactCornersOf", fn := fun _ => fun
  | [d] => { results := [.lit (.bool false)], args := [d] }
  | _ => none }
def FnExactCornersOfWrongFalsely : Prop := fnExactCornersOfRow.holds Try.pinned (OpenSpec.ofChange fnExactCornersOfWrong)

/- THE SECOND FORM. 'bulk': how many values and letters a reading holds, each counted each time it is reached (what is shared counts as often as it is met; a slice's spare places count too). A statement '..UptoSaid' is the law's where the arguments, and the package variables that the reading takes, are together of bulk at most 1048576: NARROWER than '..Said'. Prove '..Said' where nothing that the law and all that it calls make is longer than what came in: it says more and counts as full. Else prove '..UptoSaid'. A law counts once. -/
mutual
def uptoBulk {H : Type} : DataW H → Nat
  | .lit (.string bytes) => bytes.length + 1
  | .lit _ => 1
  | .nil => 1
  | .ptr d => uptoBulk d + 1
  | .slice elems spare => uptoBulkAll elems + uptoBulkAll spare + 1
  | .agg parts => uptoBulkAll parts + 1
  | .iface _ d => uptoBulk d + 1
  | .map entries => uptoBulkEntries entries + 1
  | .held _ => 1
def uptoBulkAll {H : Type} : List (DataW H) → Nat
  | [] => 0
  | d :: r => uptoBulk d + uptoBulkAll r
def uptoBulkEntries {H : Type} : List (Lit × DataW H) → Nat
  | [] => 0
  | x :: r => uptoBulkEntry x + uptoBulkEntries r
def uptoBulkEntry {H : Type} : Lit × DataW H → Nat
  | (.string bytes, d) => bytes.length + uptoBulk d + 1
  | (_, d) => uptoBulk d + 1
 end
def uptoSmall : (H : Type) → List (DataW H) → Bool := fun _ ds => decide (uptoBulkAll ds ≤ 1048576)
def OpenSpec.upto (s : _root_.Go.ChangeSpec) : _root_.Go.OpenSpec := { _root_.Go.OpenSpec.ofChange s with cond := some uptoSmall }

/-- 'laws.FnExactIsSymmetricFunction', WHERE WHAT IT READS IS OF BULK AT MOST 1048576: true; the input reads as it did. -/
def fnExactIsSymmetricFunctionUptoRow : OpenClaim := { program := "ytfmibekefllhjaa", sum := "35bf8f442bad18deadf790c6850a82cecfc8fbdffddd7af26bb531dbb15bb2c2", func := "loop.example/g03405/laws.FnExactIsSymmetricFunction", spec := "fnExactIsSymmetricFunction", unfollowed := true, recurses := true, apart := false, narrowed := true }
def FnExactIsSymmetricFunctionUptoSaid : Prop := fnExactIsSymmetricFunctionUptoRow.holds Try.pinned (OpenSpec.upto fnExactIsSymmetricFunctionSpec)

/-- 'laws.FnExactMergeElements', WHERE WHAT IT READS IS OF BULK AT MOST 1048576: true; the input reads as it did. -/
def fnExactMergeElementsUptoRow : OpenClaim := { program := "ytfmibekefllhjaa", sum := "35bf8f442bad18deadf790c6850a82cecfc8fbdffddd7af26bb531dbb15bb2c2", func := "loop.example/g03405/laws.FnExactMergeElements", spec := "fnExactMergeElements", unfollowed := true, recurses := true, apart := false, narrowed := true }
def FnExactMergeElementsUptoSaid : Prop := fnExactMergeElementsUptoRow.holds Try.pinned (OpenSpec.upto fnExactMergeElementsSpec)

/-- 'laws.FnExactMinimumCut', WHERE WHAT IT READS IS OF BULK AT MOST 1048576: true; the input reads as it did. -/
def fnExactMinimumCutUptoRow : OpenClaim := { program := "ytfmibekefllhjaa", sum := "35bf8f442bad18deadf790c6850a82cecfc8fbdffddd7af26bb531dbb15bb2c2", func := "loop.example/g03405/laws.FnExactMinimumCut", spec := "fnExactMinimumCut", unfollowed := true, recurses := true, apart := false, narrowed := true }
def FnExactMinimumCutUptoSaid : Prop := fnExactMinimumCutUptoRow.holds Try.pinned (OpenSpec.upto fnExactMinimumCutSpec)

/-- 'laws.FnExactIsPendantPair', WHERE WHAT IT READS IS OF BULK AT MOST 1048576: true; the input reads as it did. -/
def fnExactIsPendantPairUptoRow : OpenClaim := { program := "ytfmibekefllhjaa", sum := "35bf8f442bad18deadf790c6850a82cecfc8fbdffddd7af26bb531dbb15bb2c2", func := "loop.example/g03405/laws.FnExactIsPendantPair", spec := "fnExactIsPendantPair", unfollowed := true, recurses := true, apart := false, narrowed := true }
def FnExactIsPendantPairUptoSaid : Prop := fnExactIsPendantPairUptoRow.holds Try.pinned (OpenSpec.upto fnExactIsPendantPairSpec)

/-- 'laws.FnExactPendantPair', WHERE WHAT IT READS IS OF BULK AT MOST 1048576: true; the input reads as it did. -/
def fnExactPendantPairUptoRow : OpenClaim := { program := "ytfmibekefllhjaa", sum := "35bf8f442bad18deadf790c6850a82cecfc8fbdffddd7af26bb531dbb15bb2c2", func := "loop.example/g03405/laws.FnExactPendantPair", spec := "fnExactPendantPair", unfollowed := true, recurses := true, apart := false, narrowed := true }
def FnExactPendantPairUptoSaid : Prop := fnExactPendantPairUptoRow.holds Try.pinned (OpenSpec.upto fnExactPendantPairSpec)

/-- 'laws.FnExactLegalOrder', WHERE WHAT IT READS IS OF BULK AT MOST 1048576: true; the input reads as it did. -/
def fnExactLegalOrderUptoRow : OpenClaim := { program := "ytfmibekefllhjaa", sum := "35bf8f442bad18deadf790c6850a82cecfc8fbdffddd7af26bb531dbb15bb2c2", func := "loop.example/g03405/laws.FnExactLegalOrder", spec := "fnExactLegalOrder", unfollowed := true, recurses := true, apart := false, narrowed := true }
def FnExactLegalOrderUptoSaid : Prop := fnExactLegalOrderUptoRow.holds Try.pinned (OpenSpec.upto fnExactLegalOrderSpec)

/-- 'laws.FnExactCornersOf', WHERE WHAT IT READS IS OF BULK AT MOST 1048576: true; the input reads as it did. -/
def fnExactCornersOfUptoRow : OpenClaim := { program := "ytfmibekefllhjaa", sum := "35bf8f442bad18deadf790c6850a82cecfc8fbdffddd7af26bb531dbb15bb2c2", func := "loop.example/g03405/laws.FnExactCornersOf", spec := "fnExactCornersOf", unfollowed := true, recurses := true, apart := false, narrowed := true }
def FnExactCornersOfUptoSaid : Prop := fnExactCornersOfUptoRow.holds Try.pinned (OpenSpec.upto fnExactCornersOfSpec)

end Rows
end Go.Proofs.Ytfmibekefllhjaa
