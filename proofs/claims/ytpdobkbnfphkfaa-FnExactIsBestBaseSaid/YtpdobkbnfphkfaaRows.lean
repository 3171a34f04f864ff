/-
  No cell of these rows narrows 'for every input' (looked for: loops, veiled, ifaces, maps, wideKeys, modest, calm, conditions, laid).
  DERIVED. THE GIVEN ROWS OF THIS SEAT. 9 by the template 'for every input the law returns true; each argument reads behind the call as it read before'; 0 by the template 'total and deterministic' (their statements: YtpdobkbnfphkfaaTotals.lean).
  GIVEN WITH THE SEED: the statements are not yours to turn. If you find one false, say at which input.
  Laid BY PROGRAM, IN A SANDBOX (cutbox-rows.mjs): the forced cells as the released guide's own fill.sh prints them over the translation 30e6573dc769d1b0… (all of the seat's roots in one cut). By AI agents, Wed Nov 11 2026. No macro, syntax, notation, axiom, sorry.
-/
import Derived.Test.YtpdobkbnfphkfaaChecked
import GoSem.Claim
import GoSem.ClaimJoined
import GoSem.ClaimMapViews
import Derived.JoinedTies
import Derived.KernelRfl
namespace Go.Proofs.Ytpdobkbnfphkfaa
/- THE CELL 'sum', in the pinned program and in every row, IS THE sha256 OF THE DUMP (.gsa) THAT YtpdobkbnfphkfaaProg.lean LOADS. Nothing in Lean hashes anything: it is a label: what it is worth is what the hold of that sum in a sandbox is worth. -/
noncomputable def Try.pinned : Pinned := { name := "ytpdobkbnfphkfaa", sum := "30e6573dc769d1b0874e941c83b197f50728b032d2e74cc286420685f1389552", checked := Try.checked }
namespace Rows
def none {H : Type} : Left H := { results := [], args := [] }

/-- 'laws.FnExactExtensionAt': WHATEVER THE INPUT: true; the input reads as it did. -/
def fnExactExtensionAtSpec : ChangeSpec := { name := "fnExactExtensionAt", fn := fun _ => fun
  | [d1, d2] => { results := [.lit (.bool true)], args := [d1, d2] }
  | _ => none }
def fnExactExtensionAtRow : OpenClaim := { program := "ytpdobkbnfphkfaa", sum := "30e6573dc769d1b0874e941c83b197f50728b032d2e74cc286420685f1389552", func := "loop.example/g03405/laws.FnExactExtensionAt", spec := "fnExactExtensionAt", unfollowed := true, recurses := true, apart := false }
def FnExactExtensionAtSaid : Prop := fnExactExtensionAtRow.holds Try.pinned (OpenSpec.ofChange fnExactExtensionAtSpec)

/-- ITS FALSE NEIGHBOUR: 'it returns false'. Refute it at one input. -/
def fnExactExtensionAtWrong : ChangeSpec := { name := "fnExactExtensionAt", fn := fun _ => fun
  | [d1, d2] => { results := [.lit (.bool false)], args := [d1, d2] }
  | _ => none }
def FnExactExtensionAtWrongFalsely : Prop := fnExactExtensionAtRow.holds Try.pinned (OpenSpec.ofChange fnExactExtensionAtWrong)

/-- 'laws.FnExactDualVector': WHATEVER THE INPUT: true; the input reads as it did. -/
def fnExactDualVectorSpec : ChangeSpec := { name := "fnExactDualVector", fn := fun _ => fun
  | [d] => { results := [.lit (.bool true)], args := [d] }
  | _ => none }
def fnExactDualVectorRow : OpenClaim := { program := "ytpdobkbnfphkfaa", sum := "30e6573dc769d1b0874e941c83b197f50728b032d2e74cc286420685f1389552", func := "loop.example/g03405/laws.FnExactDualVector", spec := "fnExactDualVector", unfollowed := true, recurses := true, apart := false }
def FnExactDualVectorSaid : Prop := fnExactDualVectorRow.holds Try.pinned (OpenSpec.ofChange fnExactDualVectorSpec)

/-- ITS FALSE NEIGHBOUR: 'it returns false'. Refute it at one input. -/
def fnExactDualVectorWrong : ChangeSpec := { name := "fnExactDualVector", fn := fun _ => fun
  | [d] => { results := [.lit (.bool false)], args := [d] }
  | _ => none }
def FnExactDualVectorWrongFalsely : Prop := fnExactDualVectorRow.holds Try.pinned (OpenSpec.ofChange fnExactDualVectorWrong)

/-- 'laws.FnExactGreedyReaches': WHATEVER THE INPUT: true; the input reads as it did. -/
def fnExactGreedyReachesSpec : ChangeSpec := { name := "fnExactGreedyReaches", fn := fun _ => fun
  | [d1, d2] => { results := [.lit (.bool true)], args := [d1, d2] }
  | _ => none }
def fnExactGreedyReachesRow : OpenClaim := { program := "ytpdobkbnfphkfaa", sum := "30e6573dc769d1b0874e941c83b197f50728b032d2e74cc286420685f1389552", func := "loop.example/g03405/laws.FnExactGreedyReaches", spec := "fnExactGreedyReaches", unfollowed := true, recurses := true, apart := false }
def FnExactGreedyReachesSaid : Prop := fnExactGreedyReachesRow.holds Try.pinned (OpenSpec.ofChange fnExactGreedyReachesSpec)

/-- ITS FALSE NEIGHBOUR: 'it returns false'. Refute it at one input. -/
def fnExactGreedyReachesWrong : ChangeSpec := { name := "fnExactGreedyReaches", fn := fun _ => fun
  | [d1, d2] => { results := [.lit (.bool false)], args := [d1, d2] }
  | _ => none }
def FnExactGreedyReachesWrongFalsely : Prop := fnExactGreedyReachesRow.holds Try.pinned (OpenSpec.ofChange fnExactGreedyReachesWrong)

/-- 'laws.FnExactRatioOf': WHATEVER THE INPUT: true; the input reads as it did. -/
def fnExactRatioOfSpec : ChangeSpec := { name := "fnExactRatioOf", fn := fun _ => fun
  | [d1, d2] => { results := [.lit (.bool true)], args := [d1, d2] }
  | _ => none }
def fnExactRatioOfRow : OpenClaim := { program := "ytpdobkbnfphkfaa", sum := "30e6573dc769d1b0874e941c83b197f50728b032d2e74cc286420685f1389552", func := "loop.example/g03405/laws.FnExactRatioOf", spec := "fnExactRatioOf", unfollowed := true, recurses := true, apart := false }
def FnExactRatioOfSaid : Prop := fnExactRatioOfRow.holds Try.pinned (OpenSpec.ofChange fnExactRatioOfSpec)

/-- ITS FALSE NEIGHBOUR: 'it returns false'. Refute it at one input. -/
def fnExactRatioOfWrong : ChangeSpec := { name := "fnExactRatioOf", fn := fun _ => fun
  | [d1, d2] => { results := [.lit (.bool false)], args := [d1, d2] }
  | _ => none }
def FnExactRatioOfWrongFalsely : Prop := fnExactRatioOfRow.holds Try.pinned (OpenSpec.ofChange fnExactRatioOfWrong)

/-- 'laws.FnExactIsConvexAt': WHATEVER THE INPUT: true; the input reads as it did. -/
def fnExactIsConvexAtSpec : ChangeSpec := { name := "fnExactIsConvexAt", fn := fun _ => fun
  | [d1, d2, d3] => { results := [.lit (.bool true)], args := [d1, d2, d3] }
  | _ => none }
def fnExactIsConvexAtRow : OpenClaim := { program := "ytpdobkbnfphkfaa", sum := "30e6573dc769d1b0874e941c83b197f50728b032d2e74cc286420685f1389552", func := "loop.example/g03405/laws.FnExactIsConvexAt", spec := "fnExactIsConvexAt", unfollowed := true, recurses := true, apart := false }
def FnExactIsConvexAtSaid : Prop := fnExactIsConvexAtRow.holds Try.pinned (OpenSpec.ofChange fnExactIsConvexAtSpec)

/-- ITS FALSE NEIGHBOUR: 'it returns false'. Refute it at one input. -/
def fnExactIsConvexAtWrong : ChangeSpec := { name := "fnExactIsConvexAt", fn := fun _ => fun
  | [d1, d2, d3] => { results := [.lit (.bool false)], args := [d1, d2, d3] }
  | _ => none }
def FnExactIsConvexAtWrongFalsely : Prop := fnExactIsConvexAtRow.holds Try.pinned (OpenSpec.ofChange fnExactIsConvexAtWrong)

/-- 'laws.FnExactBestOrder': WHATEVER THE INPUT: true; the input reads as it did. -/
def fnExactBestOrderSpec : ChangeSpec := { name := "fnExactBestOrder", fn := fun _ => fun
  | [d1, d2] => { results := [.lit (.bool true)], args := [d1, d2] }
  | _ => none }
def fnExactBestOrderRow : OpenClaim := { program := "ytpdobkbnfphkfaa", sum := "30e6573dc769d1b0874e941c83b197f50728b032d2e74cc286420685f1389552", func := "loop.example/g03405/laws.FnExactBestOrder", spec := "fnExactBestOrder", unfollowed := true, recurses := true, apart := false }
def FnExactBestOrderSaid : Prop := fnExactBestOrderRow.holds Try.pinned (OpenSpec.ofChange fnExactBestOrderSpec)

/-- ITS FALSE NEIGHBOUR: 'it returns false'. Refute it at one input. -/
def fnExactBestOrderWrong : ChangeSpec := { name := "fnExactBestOrder", fn := fun _ => fun
  | [d1, d2] => { results := [.lit (.bool false)], args := [d1, d2] }
  | _ => none }
def FnExactBestOrderWrongFalsely : Prop := fnExactBestOrderRow.holds Try.pinned (OpenSpec.ofChange fnExactBestOrderWrong)

/-- 'laws.FnExactMaximumFor': WHATEVER THE INPUT: true; the input reads as it did. -/
def fnExactMaximumForSpec : ChangeSpec := { name := "fnExactMaximumFor", fn := fun _ => fun
  | [d1, d2] => { results := [.lit (.bool true)], args := [d1, d2] }
  | _ => none }
def fnExactMaximumForRow : OpenClaim := { program := "ytpdobkbnfphkfaa", sum := "30e6573dc769d1b0874e941c83b197f50728b032d2e74cc286420685f1389552", func := "loop.example/g03405/laws.FnExactMaximumFor", spec := "fnExactMaximumFor", unfollowed := true, recurses := true, apart := false }
def FnExactMaximumForSaid : Prop := fnExactMaximumForRow.holds Try.pinned (OpenSpec.ofChange fnExactMaximumForSpec)

/-- ITS FALSE NEIGHBOUR: 'it returns false'. Refute it at one input. -/
def fnExactMaximumForWrong : ChangeSpec := { name := "fnExactMaximumFor", fn := fun _ => fun
  | [d1, d2] => { results := [.lit (.bool false)], args := [d1, d2] }
  | _ => none }
def FnExactMaximumForWrongFalsely : Prop := fnExactMaximumForRow.holds Try.pinned (OpenSpec.ofChange fnExactMaximumForWrong)

/-- 'laws.FnExactMinimumFor': WHATEVER THE INPUT: true; the input reads as it did. -/
def fnExactMinimumForSpec : ChangeSpec := { name := "fnExactMinimumFor", fn := fun _ => fun
  | [d1, d2] => { results := [.lit (.bool true)], args := [d1, d2] }
  | _ => none }
def fnExactMinimumForRow : OpenClaim := { program := "ytpdobkbnfphkfaa", sum := "30e6573dc769d1b0874e941c83b197f50728b032d2e74cc286420685f1389552", func := "loop.example/g03405/laws.FnExactMinimumFor", spec := "fnExactMinimumFor", unfollowed := true, recurses := true, apart := false }
def FnExactMinimumForSaid : Prop := fnExactMinimumForRow.holds Try.pinned (OpenSpec.ofChange fnExactMinimumForSpec)

/-- ITS FALSE NEIGHBOUR: 'it returns false'. Refute it at one input. -/
def fnExactMinimumForWrong : ChangeSpec := { name := "fnExactMinimumFor", fn := fun _ => fun
  | [d1, d2] => { results := [.lit (.bool false)], args := [d1, d2] }
  | _ => none }
def FnExactMinimumForWrongFalsely : Prop := fnExactMinimumForRow.holds Try.pinned (OpenSpec.ofChange fnExactMinimumForWrong)

/-- 'laws.FnExactIsBestBase': WHATEVER THE INPUT: true; the input reads as it did. -/
def fnExactIsBestBaseSpec : ChangeSpec := { name := "fnExactIsBestBase", fn := fun _ => fun
  | [d1, d2, d3] => { results := [.lit (.bool true)], args := [d1, d2, d3] }
  | _ => none }
def fnExactIsBestBaseRow : OpenClaim := { program := "ytpdobkbnfphkfaa", sum := "30e6573dc769d1b0874e941c83b197f50728b032d2e74cc286420685f1389552", func := "loop.example/g03405/laws.FnExactIsBestBase", spec := "fnExactIsBestBase", unfollowed := true, recurses := true, apart := false }
def FnExactIsBestBaseSaid : Prop := fnExactIsBestBaseRow.holds Try.pinned (OpenSpec.ofChange fnExactIsBestBaseSpec)

/-- ITS FALSE NEIGHBOUR: 'it returns false'. Refute it at one input. -/
def fnExactIsBestBaseWrong : ChangeSpec := { name := "fnExactIsBestBase", fn := fun _ => fun
  | [d1, d2, d3] => { results := [.lit (.bool false)], args := [d1, d2, d3] }
  | _ => none }
def FnExactIsBestBaseWrongFalsely : Prop := fnExactIsBestBaseRow.holds Try.pinned (OpenSpec.ofChange fnExactIsBestBaseWrong)

/- THE SECOND FORM. 'bulk': how many values and letters a reading holds, each counted each time it is reached (what is shared counts as often as it is met; a slice's spare places count too). A statement '..UptoSaid' is the law's where the arguments, and the package variables that the reading takes, are together of bulk at most 1048576: NARROWER than '..Said'. Prove '..Said' where nothing that the law and all that it calls make is longer than what came in: it says more and counts as full. Else prove '..UptoSaid'. A law counts once. -/
mutual
def uptoBulk {H : Type} : DataW H → Nat
  | .lit (.string bytes) => bytes.length + 1
  | .lit _ => 1
  | .nil => 1
  | .ptr d => uptoBulk d + 1
  | .slice elems spare => uptoBulkAll elems + uptoBulkAll spare + 1
  | .agg parts => uptoBulkAll parts + 1
  | .iface _ d => uptoBulk d + 1
  | .map entries => uptoBulkEntries entries + 1
  | .held _ => 1
def uptoBulkAll {H : Type} : List (DataW H) → Nat
  | [] => 0
  | d :: r => uptoBulk d + uptoBulkAll r
def uptoBulkEntries {H : Type} : List (Lit × DataW H) → Nat
  | [] => 0
  | x :: r => uptoBulkEntry x + uptoBulkEntries r
def uptoBulkEntry {H : Type} : Lit × DataW H → Nat
  | (.string bytes, d) => bytes.length + uptoBulk d + 1
  | (_, d) => uptoBulk d + 1
 end
def uptoSmall : (H : Type) → List (DataW H) → Bool := fun _ ds => decide (uptoBulkAll ds ≤ 1048576)
def OpenSpec.upto (s : _root_.Go.ChangeSpec) : _root_.Go.OpenSpec := { _root_.Go.OpenSpec.ofChange s with cond := some uptoSmall }

/-- 'laws.FnExactExtensionAt', WHERE WHAT IT READS IS OF BULK AT MOST 1048576: true; the input reads as it did. -/
def fnExactExtensionAtUptoRow : OpenClaim := { program := "ytpdobkbnfphkfaa", sum := "30e6573dc769d1b0874e941c83b197f50728b032d2e74cc286420685f1389552", func := "loop.example/g03405/laws.FnExactExtensionAt", spec := "fnExactExtensionAt", unfollowed := true, recurses := true, apart := false, narrowed := true }
def FnExactExtensionAtUptoSaid : Prop := fnExactExtensionAtUptoRow.holds Try.pinned (OpenSpec.upto fnExactExtensionAtSpec)

/-- 'laws.FnExactDualVector', WHERE WHAT IT READS IS OF BULK AT MOST 1048576: true; the input reads as it did. -/
def fnExactDualVectorUptoRow : OpenClaim := { program := "ytpdobkbnfphkfaa", sum := "30e6573dc769d1b0874e941c83b197f50728b032d2e74cc286420685f1389552", func := "loop.example/g03405/laws.FnExactDualVector", spec := "fnExactDualVector", unfollowed := true, recurses := true, apart := false, narrowed := true }
def FnExactDualVectorUptoSaid : Prop := fnExactDualVectorUptoRow.holds Try.pinned (OpenSpec.upto fnExactDualVectorSpec)

/-- 'laws.FnExactGreedyReaches', WHERE WHAT IT READS IS OF BULK AT MOST 1048576: true; the input reads as it did. -/
def fnExactGreedyReachesUptoRow : OpenClaim := { program := "ytpdobkbnfphkfaa", sum := "30e6573dc769d1b0874e941c83b197f50728b032d2e74cc286420685f1389552", func := "loop.example/g03405/laws.FnExactGreedyReaches", spec := "fnExactGreedyReaches", unfollowed := true, recurses := true, apart := false, narrowed := true }
def FnExactGreedyReachesUptoSaid : Prop := fnExactGreedyReachesUptoRow.holds Try.pinned (OpenSpec.upto fnExactGreedyReachesSpec)

/-- 'laws.FnExactRatioOf', WHERE WHAT IT READS IS OF BULK AT MOST 1048576: true; the input reads as it did. -/
def fnExactRatioOfUptoRow : OpenClaim := { program := "ytpdobkbnfphkfaa", sum := "30e6573dc769d1b0874e941c83b197f50728b032d2e74cc286420685f1389552", func := "loop.example/g03405/laws.FnExactRatioOf", spec := "fnExactRatioOf", unfollowed := true, recurses := true, apart := false, narrowed := true }
def FnExactRatioOfUptoSaid : Prop := fnExactRatioOfUptoRow.holds Try.pinned (OpenSpec.upto fnExactRatioOfSpec)

/-- 'laws.FnExactIsConvexAt', WHERE WHAT IT READS IS OF BULK AT MOST 1048576: true; the input reads as it did. -/
def fnExactIsConvexAtUptoRow : OpenClaim := { program := "ytpdobkbnfphkfaa", sum := "30e6573dc769d1b0874e941c83b197f50728b032d2e74cc286420685f1389552", func := "loop.example/g03405/laws.FnExactIsConvexAt", spec := "fnExactIsConvexAt", unfollowed := true, recurses := true, apart := false, narrowed := true }
def FnExactIsConvexAtUptoSaid : Prop := fnExactIsConvexAtUptoRow.holds Try.pinned (OpenSpec.upto fnExactIsConvexAtSpec)

/-- 'laws.FnExactBestOrder', WHERE WHAT IT READS IS OF BULK AT MOST 1048576: true; the input reads as it did. -/
def fnExactBestOrderUptoRow : OpenClaim := { program := "ytpdobkbnfphkfaa", sum := "30e6573dc769d1b0874e941c83b197f50728b032d2e74cc286420685f1389552", func := "loop.example/g03405/laws.FnExactBestOrder", spec := "fnExactBestOrder", unfollowed := true, recurses := true, apart := false, narrowed := true }
def FnExactBestOrderUptoSaid : Prop := fnExactBestOrderUptoRow.holds Try.pinned (OpenSpec.upto fnExactBestOrderSpec)

/-- 'laws.FnExactMaximumFor', WHERE WHAT IT READS IS OF BULK AT MOST 1048576: true; the input reads as it did. -/
def fnExactMaximumForUptoRow : OpenClaim := { program := "ytpdobkbnfphkfaa", sum := "30e6573dc769d1b0874e941c83b197f50728b032d2e74cc286420685f1389552", func := "loop.example/g03405/laws.FnExactMaximumFor", spec := "fnExactMaximumFor", unfollowed := true, recurses := true, apart := false, narrowed := true }
def FnExactMaximumForUptoSaid : Prop := fnExactMaximumForUptoRow.holds Try.pinned (OpenSpec.upto fnExactMaximumForSpec)

/-- 'laws.FnExactMinimumFor', WHERE WHAT IT READS IS OF BULK AT MOST 1048576: true; the input reads as it did. -/
def fnExactMinimumForUptoRow : OpenClaim := { program := "ytpdobkbnfphkfaa", sum := "30e6573dc769d1b0874e941c83b197f50728b032d2e74cc286420685f1389552", func := "loop.example/g03405/laws.FnExactMinimumFor", spec := "fnExactMinimumFor", unfollowed := true, recurses := true, apart := false, narrowed := true }
def FnExactMinimumForUptoSaid : Prop := fnExactMinimumForUptoRow.holds Try.pinned (OpenSpec.upto fnExactMinimumForSpec)

/-- 'laws.FnExactIsBestBase', WHERE WHAT IT READS IS OF BULK AT MOST 1048576: true; the input reads as it did. -/
def fnExactIsBestBaseUptoRow : OpenClaim := { program := "ytpdobkbnfphkfaa", sum := "30e6573dc769d1b0874e941c83b197f50728b032d2e74cc286420685f1389552", func := "loop.example/g03405/laws.FnExactIsBestBase", spec := "fnExactIsBestBase", unfollowed := true, recurses := true, apart := false, narrowed := true }
def FnExactIsBestBaseUptoSaid : Prop := fnExactIsBestBaseUptoRow.holds Try.pinned (OpenSpec.upto fnExactIsBestBaseSpec)

end Rows
end Go.Proofs.Ytpdobkbnfphkfaa
