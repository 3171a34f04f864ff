/-
  Walks: the total gain; the minimum.
-/
import Derived.Test.YtboggeipdgimdaaFun
namespace Go.Proofs.Ytboggeipdgimdaa
open Go.RowKit

/-- The gains of the first k elements to the empty set. -/
def totN (v : List Int) : Nat → Int
  | 0 => 0
  | k + 1 => totN v k + gainN v 0 k
theorem insN_zero (k : Nat) : insN 0 k = p2 k := by simp [insN, p2]
theorem FnOk.tot {N n : Nat} {v : List Int} (h : FnOk N n v) : ∀ k : Nat, k ≤ N → -2000 * (k : Int) ≤ totN v k ∧ totN v k ≤ 2000 * (k : Int)
  | 0, _ => by simp [totN]
  | k + 1, hk => by
    have h1 := FnOk.tot h k (by omega)
    have h2 := h.gain h.n0 (k := k) (by omega)
    unfold totN; omega
/-- What TotalGain gives. -/
def totR (E : Int) (v : List Int) : Int := if isFn E v then totN v E.toNat else 0

end Go.Proofs.Ytboggeipdgimdaa
