/-
  Walks: the minimum of a function.
  Walks: the minimizers of a function.
  Walks: the total gain; the minimum.
  Walks: the least value between two sets.
  Walks: sizes of sets; the best set.
-/
import Derived.Test.YtfmibekefllhjaaCore
import Derived.BigQuiet
namespace Go.Proofs.Ytfmibekefllhjaa
open Go.RowKit

/-- The least of the first k + 1 values. -/
def minT (v : List Int) : Nat → Int
  | 0 => gv v 0
  | k + 1 => min (minT v k) (gv v (k + 1))
theorem minT_succ {v : List Int} {k : Nat} (hk : 0 < k) : minT v k = min (minT v (k - 1)) (gv v k) := by
  obtain ⟨j, rfl⟩ : ∃ j, k = j + 1 := ⟨k - 1, by omega⟩
  simp [minT]
/-- The least value. -/
def minV (v : List Int) : Int := minT v (v.length - 1)
def minR (E : Int) (v : List Int) : Int := if isFn E v then minV v else 0

end Go.Proofs.Ytfmibekefllhjaa
namespace Go.Proofs.Ytfmibekefllhjaa
open Go.RowKit

/-- The sets below k that satisfy p, as ints. -/
def selI (p : Nat → Bool) (k : Nat) : List Int := ((List.range k).filter p).map fun j : Nat => (j : Int)
theorem selI_yes {p : Nat → Bool} {k : Nat} (h : p k = true) : selI p (k + 1) = selI p k ++ [(k : Int)] := by
  unfold selI; rw [List.range_succ, List.filter_append, List.map_append]; simp [h]
theorem selI_no {p : Nat → Bool} {k : Nat} (h : p k = false) : selI p (k + 1) = selI p k := by
  unfold selI; rw [List.range_succ, List.filter_append, List.map_append]; simp [h]
theorem selI_le (p : Nat → Bool) (k : Nat) : (selI p k).length ≤ k := by
  unfold selI; rw [List.length_map]; exact Nat.le_trans (List.length_filter_le _ _) (by simp)
def minzP (v : List Int) (s : Nat) : Bool := decide (gv v s = minV v)
def minzL (E : Int) (v : List Int) : List Int := if isFn E v then selI (minzP v) v.length else []

end Go.Proofs.Ytfmibekefllhjaa
namespace Go.Proofs.Ytfmibekefllhjaa
open Go.RowKit

/-- The gains of the first k elements to the empty set. -/
def totN (v : List Int) : Nat → Int
  | 0 => 0
  | k + 1 => totN v k + gainN v 0 k
theorem insN_zero (k : Nat) : insN 0 k = p2 k := by simp [insN, p2]
theorem FnOk.tot {N n : Nat} {v : List Int} (h : FnOk N n v) : ∀ k : Nat, k ≤ N → -2000 * (k : Int) ≤ totN v k ∧ totN v k ≤ 2000 * (k : Int)
  | 0, _ => by simp [totN]
  | k + 1, hk => by
    have h1 := FnOk.tot h k (by omega)
    have h2 := h.gain h.n0 (k := k) (by omega)
    unfold totN; omega
/-- What TotalGain gives. -/
def totR (E : Int) (v : List Int) : Int := if isFn E v then totN v E.toNat else 0

end Go.Proofs.Ytfmibekefllhjaa
namespace Go.Proofs.Ytfmibekefllhjaa
open Go.RowKit

/-- Contains k the set a, and nothing of b? -/
def fitB (a b k : Nat) : Bool := decide (andN k a = a) && decide (andN k b = 0)
/-- The first set of least value that fits, among the first k. -/
def betw (v : List Int) (a b : Nat) : Nat → Nat
  | 0 => a
  | k + 1 => if fitB a b k && decide (gv v k < gv v (betw v a b k)) then k else betw v a b k
theorem betw_lt {v : List Int} {a b n : Nat} (ha : a < n) : ∀ k, k ≤ n → betw v a b k < n
  | 0, _ => ha
  | k + 1, hk => by
    unfold betw
    split
    · omega
    · exact betw_lt ha k (by omega)
theorem diff_zero (a k : Nat) : (diffN a k = 0) ↔ andN k a = a := by
  unfold diffN andN
  constructor
  · intro h
    have : a = a &&& k := by
      have h2 : a ^^^ (a &&& k) ^^^ (a &&& k) = (a &&& k) := by rw [h]; simp
      rwa [Nat.xor_assoc, Nat.xor_self, Nat.xor_zero] at h2
    rw [Nat.and_comm]; exact this.symm
  · intro h
    rw [Nat.and_comm, h, Nat.xor_self]
def betwOk (E : Int) (v : List Int) (a b : Int) : Bool := isFn E v && (inR a 0 ((v.length : Int) - 1) && (inR b 0 ((v.length : Int) - 1) && decide (andN a.toNat b.toNat = 0)))
def betwS (E : Int) (v : List Int) (a b : Int) : Int := if betwOk E v a b then (betw v a.toNat b.toNat v.length : Nat) else 0
def betwV (E : Int) (v : List Int) (a b : Int) : Int := if betwOk E v a b then gv v (betw v a.toNat b.toNat v.length) else 0

end Go.Proofs.Ytfmibekefllhjaa
namespace Go.Proofs.Ytfmibekefllhjaa
open Go.RowKit

/-- The number of elements of a set below 32. -/
def popN (s : Nat) : Nat := s % 2 + s / 2 % 2 + s / 4 % 2 + s / 8 % 2 + s / 16 % 2
theorem popN_step {s : Nat} (hs : s < 32) : popN s = s % 2 + popN (s / 2) := by unfold popN; omega
theorem popN_le {s N : Nat} (hN : N ≤ 5) (hs : s < 2 ^ N) : popN s ≤ N := by
  have h : N = 0 ∨ N = 1 ∨ N = 2 ∨ N = 3 ∨ N = 4 ∨ N = 5 := by omega
  unfold popN
  rcases h with rfl | rfl | rfl | rfl | rfl | rfl <;> simp at hs <;> omega
/-- The first of the sets below k with a greatest value among those that satisfy p; 0 counts as one of them. -/
def bestN (p : Nat → Bool) (v : List Int) : Nat → Nat
  | 0 => 0
  | k + 1 => if (p k && decide (gv v (bestN p v k) < gv v k)) = true then k else bestN p v k
theorem bestN_lt (p : Nat → Bool) (v : List Int) : ∀ k, 0 < k → bestN p v k < k
  | 0, h => by omega
  | k + 1, _ => by
    unfold bestN
    split
    · omega
    · cases k with
      | zero => simp [bestN]
      | succ j => have := bestN_lt p v (j + 1) (by omega); omega
theorem bestN_one (p : Nat → Bool) (v : List Int) : bestN p v 1 = 0 := by simp [bestN]
theorem bestN_congr {p q : Nat → Bool} (v : List Int) : ∀ k, (∀ s, s < k → p s = q s) → bestN p v k = bestN q v k
  | 0, _ => rfl
  | k + 1, h => by
    have ih := bestN_congr v k (fun s hs => h s (by omega))
    unfold bestN
    rw [ih, h k (by omega)]
def sizeP (k : Int) (s : Nat) : Bool := decide ((popN s : Int) ≤ k)
def bestOk (E : Int) (v : List Int) (k : Int) : Bool := isFn E v && inR k 0 E
def bestI (E : Int) (v : List Int) (k : Int) : Nat := if bestOk E v k then bestN (sizeP k) v v.length else 0
def bestV (E : Int) (v : List Int) (k : Int) : Int := if bestOk E v k then gv v (bestN (sizeP k) v v.length) else 0
def maxI (E : Int) (v : List Int) : Nat := if isFn E v then bestN (fun _ => true) v v.length else 0
def maxV (E : Int) (v : List Int) : Int := if isFn E v then gv v (bestN (fun _ => true) v v.length) else 0
theorem bestN_all {N n : Nat} {v : List Int} (fo : FnOk N n v) : bestN (sizeP N) v v.length = bestN (fun _ => true) v v.length := by
  apply bestN_congr
  intro s hs
  have hn : v.length = 2 ^ N := by rw [fo.hl, fo.hn]
  have := popN_le fo.hN (hn ▸ hs)
  simp [sizeP]; omega
end Go.Proofs.Ytfmibekefllhjaa
