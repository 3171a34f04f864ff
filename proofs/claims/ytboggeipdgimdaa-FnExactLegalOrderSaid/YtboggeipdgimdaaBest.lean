/-
  Walks: sizes of sets; the best set.
-/
import Derived.Test.YtboggeipdgimdaaMin
import Derived.BigQuiet
namespace Go.Proofs.Ytboggeipdgimdaa
open Go.RowKit

/-- The number of elements of a set below 32. -/
def popN (s : Nat) : Nat := s % 2 + s / 2 % 2 + s / 4 % 2 + s / 8 % 2 + s / 16 % 2
theorem popN_step {s : Nat} (hs : s < 32) : popN s = s % 2 + popN (s / 2) := by unfold popN; omega
theorem popN_le {s N : Nat} (hN : N ≤ 5) (hs : s < 2 ^ N) : popN s ≤ N := by
  have h : N = 0 ∨ N = 1 ∨ N = 2 ∨ N = 3 ∨ N = 4 ∨ N = 5 := by omega
  unfold popN
  rcases h with rfl | rfl | rfl | rfl | rfl | rfl <;> simp at hs <;> omega
/-- The first of the sets below k with a greatest value among those that satisfy p; 0 counts as one of them. -/
def bestN (p : Nat → Bool) (v : List Int) : Nat → Nat
  | 0 => 0
  | k + 1 => if (p k && decide (gv v (bestN p v k) < gv v k)) = true then k else bestN p v k
theorem bestN_lt (p : Nat → Bool) (v : List Int) : ∀ k, 0 < k → bestN p v k < k
  | 0, h => by omega
  | k + 1, _ => by
    unfold bestN
    split
    · omega
    · cases k with
      | zero => simp [bestN]
      | succ j => have := bestN_lt p v (j + 1) (by omega); omega
theorem bestN_one (p : Nat → Bool) (v : List Int) : bestN p v 1 = 0 := by simp [bestN]
theorem bestN_congr {p q : Nat → Bool} (v : List Int) : ∀ k, (∀ s, s < k → p s = q s) → bestN p v k = bestN q v k
  | 0, _ => rfl
  | k + 1, h => by
    have ih := bestN_congr v k (fun s hs => h s (by omega))
    unfold bestN
    rw [ih, h k (by omega)]
def sizeP (k : Int) (s : Nat) : Bool := decide ((popN s : Int) ≤ k)
def bestOk (E : Int) (v : List Int) (k : Int) : Bool := isFn E v && inR k 0 E
def bestI (E : Int) (v : List Int) (k : Int) : Nat := if bestOk E v k then bestN (sizeP k) v v.length else 0
def bestV (E : Int) (v : List Int) (k : Int) : Int := if bestOk E v k then gv v (bestN (sizeP k) v v.length) else 0
def maxI (E : Int) (v : List Int) : Nat := if isFn E v then bestN (fun _ => true) v v.length else 0
def maxV (E : Int) (v : List Int) : Int := if isFn E v then gv v (bestN (fun _ => true) v v.length) else 0
theorem bestN_all {N n : Nat} {v : List Int} (fo : FnOk N n v) : bestN (sizeP N) v v.length = bestN (fun _ => true) v v.length := by
  apply bestN_congr
  intro s hs
  have hn : v.length = 2 ^ N := by rw [fo.hl, fo.hn]
  have := popN_le fo.hN (hn ▸ hs)
  simp [sizeP]; omega
end Go.Proofs.Ytboggeipdgimdaa
