/-
  Walks: the minimizers of a function.
-/
import Derived.Test.YtpdobkbnfphkfaaMin
namespace Go.Proofs.Ytpdobkbnfphkfaa
open Go.RowKit

/-- The sets below k that satisfy p, as ints. -/
def selI (p : Nat → Bool) (k : Nat) : List Int := ((List.range k).filter p).map fun j : Nat => (j : Int)
theorem selI_yes {p : Nat → Bool} {k : Nat} (h : p k = true) : selI p (k + 1) = selI p k ++ [(k : Int)] := by
  unfold selI; rw [List.range_succ, List.filter_append, List.map_append]; simp [h]
theorem selI_no {p : Nat → Bool} {k : Nat} (h : p k = false) : selI p (k + 1) = selI p k := by
  unfold selI; rw [List.range_succ, List.filter_append, List.map_append]; simp [h]
theorem selI_le (p : Nat → Bool) (k : Nat) : (selI p k).length ≤ k := by
  unfold selI; rw [List.length_map]; exact Nat.le_trans (List.length_filter_le _ _) (by simp)
def minzP (v : List Int) (s : Nat) : Bool := decide (gv v s = minV v)
def minzL (E : Int) (v : List Int) : List Int := if isFn E v then selI (minzP v) v.length else []

end Go.Proofs.Ytpdobkbnfphkfaa
