/-
  Walks: the minimum of a function.
-/
import Derived.Test.YtpdobkbnfphkfaaFun
namespace Go.Proofs.Ytpdobkbnfphkfaa
open Go.RowKit

/-- The least of the first k + 1 values. -/
def minT (v : List Int) : Nat → Int
  | 0 => gv v 0
  | k + 1 => min (minT v k) (gv v (k + 1))
theorem minT_succ {v : List Int} {k : Nat} (hk : 0 < k) : minT v k = min (minT v (k - 1)) (gv v k) := by
  obtain ⟨j, rfl⟩ : ∃ j, k = j + 1 := ⟨k - 1, by omega⟩
  simp [minT]
/-- The least value. -/
def minV (v : List Int) : Int := minT v (v.length - 1)
def minR (E : Int) (v : List Int) : Int := if isFn E v then minV v else 0

end Go.Proofs.Ytpdobkbnfphkfaa
