/-
  Walks: weights of sets; the rank of a vector.
  Walks: the rank of a vector.
-/
import Derived.Test.YtfmibekefllhjaaCore
namespace Go.Proofs.Ytfmibekefllhjaa
open Go.RowKit

/-- The weight of what the set has among the first k elements. -/
def wtN (x : List Int) (s : Nat) : Nat → Int
  | 0 => 0
  | k + 1 => if hasB s k then wtN x s k + gv x k else wtN x s k
def weigh (x : List Int) (s : Nat) : Int := wtN x s x.length
theorem wtN_bd {x : List Int} (hx : allIn x (-5000) 5000 = true) (s : Nat) : ∀ k : Nat, k ≤ x.length → -5000 * (k : Int) ≤ wtN x s k ∧ wtN x s k ≤ 5000 * (k : Int)
  | 0, _ => by simp [wtN]
  | k + 1, hk => by
    have h1 := wtN_bd hx s k (by omega)
    have h2 := allIn_gv (k := k) (by omega) hx
    unfold wtN; split <;> omega
theorem weigh_bd {x : List Int} (hx : vecOk 5000 x = true) (s : Nat) : -25000 ≤ weigh x s ∧ weigh x s ≤ 25000 := by
  obtain ⟨h1, h2⟩ := vecOk_true hx
  have := wtN_bd h2 s x.length (Nat.le_refl _)
  unfold weigh; omega
theorem allIn_mono {x : List Int} {r q : Int} (h : allIn x (-r) r = true) (hr : r ≤ q) : allIn x (-q) q = true := by
  unfold allIn at *
  rw [List.all_eq_true] at *
  intro y hy
  have := inR_true (h y hy)
  simp [inR]; omega
theorem vecOk_mono {x : List Int} (h : vecOk 1000 x = true) : vecOk 5000 x = true := by
  obtain ⟨h1, h2⟩ := vecOk_true h
  simp [vecOk, h1, allIn_mono (q := 5000) h2 (by omega)]
theorem wtN_zero (x : List Int) : ∀ k, wtN x 0 k = 0
  | 0 => rfl
  | k + 1 => by unfold wtN; simp [hasB, wtN_zero x k]
theorem weigh_zero (x : List Int) : weigh x 0 = 0 := wtN_zero x _

end Go.Proofs.Ytfmibekefllhjaa
namespace Go.Proofs.Ytfmibekefllhjaa
open Go.RowKit

/-- The least of b and of the first k values of c. -/
def mins (c : Nat → Int) (b : Int) : Nat → Int
  | 0 => b
  | k + 1 => min (mins c b k) (c k)
theorem mins_le (c : Nat → Int) (b : Int) : ∀ k, mins c b k ≤ b ∧ ∀ j, j < k → mins c b k ≤ c j
  | 0 => ⟨Int.le_refl _, fun _ h => absurd h (by omega)⟩
  | k + 1 => by
    obtain ⟨h1, h2⟩ := mins_le c b k
    unfold mins
    refine ⟨by omega, fun j hj => ?_⟩
    by_cases e : j = k
    · subst e; omega
    · have := h2 j (by omega); omega
theorem mins_mem (c : Nat → Int) (b : Int) : ∀ k, mins c b k = b ∨ ∃ j, j < k ∧ mins c b k = c j
  | 0 => .inl rfl
  | k + 1 => by
    unfold mins
    rcases Int.le_total (mins c b k) (c k) with h | h
    · rw [Int.min_eq_left h]
      rcases mins_mem c b k with h2 | ⟨j, hj, h2⟩
      · exact .inl h2
      · exact .inr ⟨j, by omega, h2⟩
    · rw [Int.min_eq_right h]; exact .inr ⟨k, by omega, rfl⟩
theorem mins_eq {c : Nat → Int} {b b' : Int} {k j : Nat} (hj : j < k) (h : c j ≤ b) (h' : c j ≤ b') : mins c b k = mins c b' k := by
  have h1 := mins_le c b k
  have h2 := mins_le c b' k
  have h3 := h1.2 j hj
  have h4 := h2.2 j hj
  rcases mins_mem c b k with e | ⟨i, hi, e⟩ <;> rcases mins_mem c b' k with e' | ⟨i', hi', e'⟩
  · omega
  · have := h1.2 i' hi'; omega
  · have := h2.2 i hi; omega
  · have := h1.2 i' hi'; have := h2.2 i hi; omega
def rkC (v x : List Int) (n s : Nat) : Int := gv v s + weigh x (n - 1 - s)
def rankOk (E : Int) (v x : List Int) : Bool := isFn E v && (vecOk 1000 x && decide ((x.length : Int) = E))
def rankR (E : Int) (v x : List Int) : Int := if rankOk E v x then mins (rkC v x v.length) 100000 v.length else 0
theorem full_diff : ∀ N : Fin 6, ∀ s : Fin 32, s.val < 2 ^ N.val → (2 ^ N.val - 1) ^^^ ((2 ^ N.val - 1) &&& s.val) = 2 ^ N.val - 1 - s.val := by decide +kernel
theorem FnOk.diff {N n : Nat} {v : List Int} (h : FnOk N n v) {s : Nat} (hs : s < n) : diffN (n - 1) s = n - 1 - s := by
  have hN := h.hN
  have h32 := h.n32
  rw [h.hn] at *
  exact full_diff ⟨N, by omega⟩ ⟨s, by omega⟩ hs
theorem fn_full {N n : Nat} {v : List Int} (h : FnOk N n v) : ((p2 N : Nat) : Int) - 1 = ((n - 1 : Nat) : Int) := by
  have := h.hn; have := h.n0; unfold p2; omega
theorem rkC_full {v x : List Int} {n : Nat} : rkC v x n (n - 1) = gv v (n - 1) := by unfold rkC; rw [Nat.sub_self, weigh_zero]; omega

end Go.Proofs.Ytfmibekefllhjaa
