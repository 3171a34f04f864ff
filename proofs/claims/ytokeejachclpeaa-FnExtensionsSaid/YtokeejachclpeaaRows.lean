/-
  No cell of these rows narrows 'for every input' (looked for: loops, veiled, ifaces, maps, wideKeys, modest, calm, conditions, laid).
  DERIVED. THE GIVEN ROWS OF THIS SEAT. 7 by the template 'for every input the law returns true; each argument reads behind the call as it read before'; 0 by the template 'total and deterministic' (their statements: YtokeejachclpeaaTotals.lean).
  GIVEN WITH THE SEED: the statements are not yours to turn. If you find one false, say at which input.
  Laid BY PROGRAM, IN A SANDBOX (cutbox-rows.mjs): the forced cells as the released guide's own fill.sh prints them over the translation 31cede92d8036359… (all of the seat's roots in one cut). By AI agents, Wed Nov 11 2026. No macro, syntax, notation, axiom, sorry.
-/
import Derived.Test.YtokeejachclpeaaChecked
import GoSem.Claim
import GoSem.ClaimJoined
import GoSem.ClaimMapViews
import Derived.JoinedTies
import Derived.KernelRfl
namespace Go.Proofs.Ytokeejachclpeaa
/- THE CELL 'sum', in the pinned program and in every row, IS THE sha256 OF THE DUMP (.gsa) THAT YtokeejachclpeaaProg.lean LOADS. Nothing in Lean hashes anything: it is a label: what it is worth is what the hold of that sum in a sandbox is worth. -/
noncomputable def Try.pinned : Pinned := { name := "ytokeejachclpeaa", sum := "31cede92d8036359eac77d5e7c3932e529aaff73561f5c6d9dfb2508c4b5a9cb", checked := Try.checked }
namespace Rows
def none {H : Type} : Left H := { results := [], args := [] }

/-- 'laws.FnTop': WHATEVER THE INPUT: true; the input reads as it did. -/
def fnTopSpec : ChangeSpec := { name := "fnTop", fn := fun _ => fun
  | [d] => { results := [.lit (.bool true)], args := [d] }
  | _ => none }
def fnTopRow : OpenClaim := { program := "ytokeejachclpeaa", sum := "31cede92d8036359eac77d5e7c3932e529aaff73561f5c6d9dfb2508c4b5a9cb", func := "loop.example/g03405/laws.FnTop", spec := "fnTop", unfollowed := true, recurses := true, apart := false }
def FnTopSaid : Prop := fnTopRow.holds Try.pinned (OpenSpec.ofChange fnTopSpec)

/-- ITS FALSE NEIGHBOUR: 'it returns false'. Refute it at one input. -/
def fnTopWrong : ChangeSpec := { name := "fnTop", fn := fun _ => fun
  | [d] => { results := [.lit (.bool false)], args := [d] }
  | _ => none }
def FnTopWrongFalsely : Prop := fnTopRow.holds Try.pinned (OpenSpec.ofChange fnTopWrong)

/-- 'laws.FnBases': WHATEVER THE INPUT: true; the input reads as it did. -/
def fnBasesSpec : ChangeSpec := { name := "fnBases", fn := fun _ => fun
  | [d] => { results := [.lit (.bool true)], args := [d] }
  | _ => none }
def fnBasesRow : OpenClaim := { program := "ytokeejachclpeaa", sum := "31cede92d8036359eac77d5e7c3932e529aaff73561f5c6d9dfb2508c4b5a9cb", func := "loop.example/g03405/laws.FnBases", spec := "fnBases", unfollowed := true, recurses := true, apart := false }
def FnBasesSaid : Prop := fnBasesRow.holds Try.pinned (OpenSpec.ofChange fnBasesSpec)

/-- ITS FALSE NEIGHBOUR: 'it returns false'. Refute it at one input. -/
def fnBasesWrong : ChangeSpec := { name := "fnBases", fn := fun _ => fun
  | [d] => { results := [.lit (.bool false)], args := [d] }
  | _ => none }
def FnBasesWrongFalsely : Prop := fnBasesRow.holds Try.pinned (OpenSpec.ofChange fnBasesWrong)

/-- 'laws.FnExtensions': WHATEVER THE INPUT: true; the input reads as it did. -/
def fnExtensionsSpec : ChangeSpec := { name := "fnExtensions", fn := fun _ => fun
  | [d] => { results := [.lit (.bool true)], args := [d] }
  | _ => none }
def fnExtensionsRow : OpenClaim := { program := "ytokeejachclpeaa", sum := "31cede92d8036359eac77d5e7c3932e529aaff73561f5c6d9dfb2508c4b5a9cb", func := "loop.example/g03405/laws.FnExtensions", spec := "fnExtensions", unfollowed := true, recurses := true, apart := false }
def FnExtensionsSaid : Prop := fnExtensionsRow.holds Try.pinned (OpenSpec.ofChange fnExtensionsSpec)

/-- ITS FALSE NEIGHBOUR: 'it returns false'. Refute it at one input. -/
def fnExtensionsWrong : ChangeSpec := { name := "fnExtensions", fn := fun _ => fun
  | [d] => { results := [.lit (.bool false)], args := [d] }
  | _ => none }
def FnExtensionsWrongFalsely : Prop := fnExtensionsRow.holds Try.pinned (OpenSpec.ofChange fnExtensionsWrong)

/-- 'laws.FnMinima': WHATEVER THE INPUT: true; the input reads as it did. -/
def fnMinimaSpec : ChangeSpec := { name := "fnMinima", fn := fun _ => fun
  | [d] => { results := [.lit (.bool true)], args := [d] }
  | _ => none }
def fnMinimaRow : OpenClaim := { program := "ytokeejachclpeaa", sum := "31cede92d8036359eac77d5e7c3932e529aaff73561f5c6d9dfb2508c4b5a9cb", func := "loop.example/g03405/laws.FnMinima", spec := "fnMinima", unfollowed := true, recurses := true, apart := false }
def FnMinimaSaid : Prop := fnMinimaRow.holds Try.pinned (OpenSpec.ofChange fnMinimaSpec)

/-- ITS FALSE NEIGHBOUR: 'it returns false'. Refute it at one input. -/
def fnMinimaWrong : ChangeSpec := { name := "fnMinima", fn := fun _ => fun
  | [d] => { results := [.lit (.bool false)], args := [d] }
  | _ => none }
def FnMinimaWrongFalsely : Prop := fnMinimaRow.holds Try.pinned (OpenSpec.ofChange fnMinimaWrong)

/-- 'laws.FnConvex': WHATEVER THE INPUT: true; the input reads as it did. -/
def fnConvexSpec : ChangeSpec := { name := "fnConvex", fn := fun _ => fun
  | [d] => { results := [.lit (.bool true)], args := [d] }
  | _ => none }
def fnConvexRow : OpenClaim := { program := "ytokeejachclpeaa", sum := "31cede92d8036359eac77d5e7c3932e529aaff73561f5c6d9dfb2508c4b5a9cb", func := "loop.example/g03405/laws.FnConvex", spec := "fnConvex", unfollowed := true, recurses := true, apart := false }
def FnConvexSaid : Prop := fnConvexRow.holds Try.pinned (OpenSpec.ofChange fnConvexSpec)

/-- ITS FALSE NEIGHBOUR: 'it returns false'. Refute it at one input. -/
def fnConvexWrong : ChangeSpec := { name := "fnConvex", fn := fun _ => fun
  | [d] => { results := [.lit (.bool false)], args := [d] }
  | _ => none }
def FnConvexWrongFalsely : Prop := fnConvexRow.holds Try.pinned (OpenSpec.ofChange fnConvexWrong)

/-- 'laws.FnGreedy': WHATEVER THE INPUT: true; the input reads as it did. -/
def fnGreedySpec : ChangeSpec := { name := "fnGreedy", fn := fun _ => fun
  | [d] => { results := [.lit (.bool true)], args := [d] }
  | _ => none }
def fnGreedyRow : OpenClaim := { program := "ytokeejachclpeaa", sum := "31cede92d8036359eac77d5e7c3932e529aaff73561f5c6d9dfb2508c4b5a9cb", func := "loop.example/g03405/laws.FnGreedy", spec := "fnGreedy", unfollowed := true, recurses := true, apart := false }
def FnGreedySaid : Prop := fnGreedyRow.holds Try.pinned (OpenSpec.ofChange fnGreedySpec)

/-- ITS FALSE NEIGHBOUR: 'it returns false'. Refute it at one input. -/
def fnGreedyWrong : ChangeSpec := { name := "fnGreedy", fn := fun _ => fun
  | [d] => { results := [.lit (.bool false)], args := [d] }
  | _ => none }
def FnGreedyWrongFalsely : Prop := fnGreedyRow.holds Try.pinned (OpenSpec.ofChange fnGreedyWrong)

/-- 'laws.FnCurvature': WHATEVER THE INPUT: true; the input reads as it did. -/
def fnCurvatureSpec : ChangeSpec := { name := "fnCurvature", fn := fun _ => fun
  | [d] => { results := [.lit (.bool true)], args := [d] }
  | _ => none }
def fnCurvatureRow : OpenClaim := { program := "ytokeejachclpeaa", sum := "31cede92d8036359eac77d5e7c3932e529aaff73561f5c6d9dfb2508c4b5a9cb", func := "loop.example/g03405/laws.FnCurvature", spec := "fnCurvature", unfollowed := true, recurses := true, apart := false }
def FnCurvatureSaid : Prop := fnCurvatureRow.holds Try.pinned (OpenSpec.ofChange fnCurvatureSpec)

/-- ITS FALSE NEIGHBOUR: 'it returns false'. Refute it at one input. -/
def fnCurvatureWrong : ChangeSpec := { name := "fnCurvature", fn := fun _ => fun
  | [d] => { results := [.lit (.bool false)], args := [d] }
  | _ => none }
def FnCurvatureWrongFalsely : Prop := fnCurvatureRow.holds Try.pinned (OpenSpec.ofChange fnCurvatureWrong)

/- THE SECOND FORM. 'bulk': how many values and letters a reading holds, each counted each time it is reached (what is shared counts as often as it is met; a slice's spare places count too). A statement '..UptoSaid' is the law's where the arguments, and the package variables that the reading takes, are together of bulk at most 1048576: NARROWER than '..Said'. Prove '..Said' where nothing that the law and all that it calls make is longer than what came in: it says more and counts as full. Else prove '..UptoSaid'. A law counts once. -/
mutual
def uptoBulk {H : Type} : DataW H → Nat
  | .lit (.string bytes) => bytes.length + 1
  | .lit _ => 1
  | .nil => 1
  | .ptr d => uptoBulk d + 1
  | .slice elems spare => uptoBulkAll elems + uptoBulkAll spare + 1
  | .agg parts => uptoBulkAll parts + 1
  | .iface _ d => uptoBulk d + 1
  | .map entries => uptoBulkEntries entries + 1
  | .held _ => 1
def uptoBulkAll {H : Type} : List (DataW H) → Nat
  | [] => 0
  | d :: r => uptoBulk d + uptoBulkAll r
def uptoBulkEntries {H : Type} : List (Lit × DataW H) → Nat
  | [] => 0
  | x :: r => uptoBulkEntry x + uptoBulkEntries r
def uptoBulkEntry {H : Type} : Lit × DataW H → Nat
  | (.string bytes, d) => bytes.length + uptoBulk d + 1
  | (_, d) => uptoBulk d + 1
 end
def uptoSmall : (H : Type) → List (DataW H) → Bool := fun _ ds => decide (uptoBulkAll ds ≤ 1048576)
def OpenSpec.upto (s : _root_.Go.ChangeSpec) : _root_.Go.OpenSpec := { _root_.Go.OpenSpec.ofChange s with cond := some uptoSmall }

/-- 'laws.FnTop', WHERE WHAT IT READS IS OF BULK AT MOST 1048576: true; the input reads as it did. -/
def fnTopUptoRow : OpenClaim := { program := "ytokeejachclpeaa", sum := "31cede92d8036359eac77d5e7c3932e529aaff73561f5c6d9dfb2508c4b5a9cb", func := "loop.example/g03405/laws.FnTop", spec := "fnTop", unfollowed := true, recurses := true, apart := false, narrowed := true }
def FnTopUptoSaid : Prop := fnTopUptoRow.holds Try.pinned (OpenSpec.upto fnTopSpec)

/-- 'laws.FnBases', WHERE WHAT IT READS IS OF BULK AT MOST 1048576: true; the input reads as it did. -/
def fnBasesUptoRow : OpenClaim := { program := "ytokeejachclpeaa", sum := "31cede92d8036359eac77d5e7c3932e529aaff73561f5c6d9dfb2508c4b5a9cb", func := "loop.example/g03405/laws.FnBases", spec := "fnBases", unfollowed := true, recurses := true, apart := false, narrowed := true }
def FnBasesUptoSaid : Prop := fnBasesUptoRow.holds Try.pinned (OpenSpec.upto fnBasesSpec)

/-- 'laws.FnExtensions', WHERE WHAT IT READS IS OF BULK AT MOST 1048576: true; the input reads as it did. -/
def fnExtensionsUptoRow : OpenClaim := { program := "ytokeejachclpeaa", sum := "31cede92d8036359eac77d5e7c3932e529aaff73561f5c6d9dfb2508c4b5a9cb", func := "loop.example/g03405/laws.FnExtensions", spec := "fnExtensions", unfollowed := true, recurses := true, apart := false, narrowed := true }
def FnExtensionsUptoSaid : Prop := fnExtensionsUptoRow.holds Try.pinned (OpenSpec.upto fnExtensionsSpec)

/-- 'laws.FnMinima', WHERE WHAT IT READS IS OF BULK AT MOST 1048576: true; the input reads as it did. -/
def fnMinimaUptoRow : OpenClaim := { program := "ytokeejachclpeaa", sum := "31cede92d8036359eac77d5e7c3932e529aaff73561f5c6d9dfb2508c4b5a9cb", func := "loop.example/g03405/laws.FnMinima", spec := "fnMinima", unfollowed := true, recurses := true, apart := false, narrowed := true }
def FnMinimaUptoSaid : Prop := fnMinimaUptoRow.holds Try.pinned (OpenSpec.upto fnMinimaSpec)

/-- 'laws.FnConvex', WHERE WHAT IT READS IS OF BULK AT MOST 1048576: true; the input reads as it did. -/
def fnConvexUptoRow : OpenClaim := { program := "ytokeejachclpeaa", sum := "31cede92d8036359eac77d5e7c3932e529aaff73561f5c6d9dfb2508c4b5a9cb", func := "loop.example/g03405/laws.FnConvex", spec := "fnConvex", unfollowed := true, recurses := true, apart := false, narrowed := true }
def FnConvexUptoSaid : Prop := fnConvexUptoRow.holds Try.pinned (OpenSpec.upto fnConvexSpec)

/-- 'laws.FnGreedy', WHERE WHAT IT READS IS OF BULK AT MOST 1048576: true; the input reads as it did. -/
def fnGreedyUptoRow : OpenClaim := { program := "ytokeejachclpeaa", sum := "31cede92d8036359eac77d5e7c3932e529aaff73561f5c6d9dfb2508c4b5a9cb", func := "loop.example/g03405/laws.FnGreedy", spec := "fnGreedy", unfollowed := true, recurses := true, apart := false, narrowed := true }
def FnGreedyUptoSaid : Prop := fnGreedyUptoRow.holds Try.pinned (OpenSpec.upto fnGreedySpec)

/-- 'laws.FnCurvature', WHERE WHAT IT READS IS OF BULK AT MOST 1048576: true; the input reads as it did. -/
def fnCurvatureUptoRow : OpenClaim := { program := "ytokeejachclpeaa", sum := "31cede92d8036359eac77d5e7c3932e529aaff73561f5c6d9dfb2508c4b5a9cb", func := "loop.example/g03405/laws.FnCurvature", spec := "fnCurvature", unfollowed := true, recurses := true, apart := false, narrowed := true }
def FnCurvatureUptoSaid : Prop := fnCurvatureUptoRow.holds Try.pinned (OpenSpec.upto fnCurvatureSpec)

end Rows
end Go.Proofs.Ytokeejachclpeaa
