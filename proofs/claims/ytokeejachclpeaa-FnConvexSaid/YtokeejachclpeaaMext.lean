/-
  The greatest pairing (Edmonds), the sum over the levels. Plain mathematics: no program in sight.
-/
import Derived.Test.YtokeejachclpeaaMord
namespace Go.Proofs.Ytokeejachclpeaa.M

theorem wt_full (g : Nat → Int) : ∀ N, wt g (2 ^ N - 1) N = sumN g N := by
  have key : ∀ M N, N ≤ M → wt g (2 ^ M - 1) N = sumN g N := by
    intro M N
    induction N with
    | zero => intro _; rfl
    | succ N ih =>
      intro h
      unfold wt sumN
      rw [ih (by omega), Nat.testBit_two_pow_sub_one]
      have : N < M := by omega
      simp [this]
  intro N; exact key N N (Nat.le_refl _)
theorem sumN_sub (g h : Nat → Int) : ∀ k, sumN (fun j => g j - h j) k = sumN g k - sumN h k
  | 0 => rfl
  | k + 1 => by have := sumN_sub g h k; unfold sumN; omega
/-- The pairing of two vectors. -/
def dot (x c : Nat → Int) (N : Nat) : Int := sumN (fun k => x k * c k) N

section
variable {N : Nat} {o S : Nat → Nat} {f : Nat → Int} {c d x : Nat → Int}
theorem mul_nonneg' {a b : Int} (ha : 0 ≤ a) (hb : 0 ≤ b) : 0 ≤ a * b := Int.mul_nonneg ha hb
/-- How far the corner's pairing is above another base's. -/
theorem Ord.gap (h : Ord N o S) (hc : Corn f N o S c) (f0 : f 0 = 0) (hd : wt d (2 ^ N - 1) N = f (2 ^ N - 1)) :
    dot x c N - dot x d N = sumN (fun j => (x (o j) - x (o (j + 1))) * (f (S (j + 1)) - wt d (S (j + 1)) N)) (N - 1) := by
  have e : dot x c N - dot x d N = wt (fun k => x k * (c k - d k)) (2 ^ N - 1) N := by
    rw [wt_full]; unfold dot; rw [← sumN_sub]
    apply sumN_congr; intro j _; rw [Int.mul_sub]
  rw [e]
  cases N with
  | zero => rfl
  | succ M =>
    have h1 := h.abel hc f0 x d (i := M) (by omega)
    have hS := h.full
    rw [hS, hd] at h1
    rw [h1]
    simp
/-- The corner of an order that descends is the best. -/
theorem Ord.edmonds (h : Ord N o S) (hc : Corn f N o S c) (f0 : f 0 = 0) (hx : ∀ i, i + 1 < N → x (o (i + 1)) ≤ x (o i)) (hb : ∀ s, s < 2 ^ N → wt d s N ≤ f s) (hd : wt d (2 ^ N - 1) N = f (2 ^ N - 1)) : dot x d N ≤ dot x c N := by
  have h1 := h.gap (x := x) hc f0 hd
  have h2 : 0 ≤ sumN (fun j => (x (o j) - x (o (j + 1))) * (f (S (j + 1)) - wt d (S (j + 1)) N)) (N - 1) := by
    apply sumN_nonneg
    intro j hj
    apply Int.mul_nonneg
    · have := hx j (by omega); omega
    · have := hb (S (j + 1)) (h.set_lt (by omega)); omega
  omega
/-- Another base is as good exactly if the sets at which the order steps down are tight. -/
theorem Ord.best (h : Ord N o S) (hc : Corn f N o S c) (f0 : f 0 = 0) (hx : ∀ i, i + 1 < N → x (o (i + 1)) ≤ x (o i)) (hb : ∀ s, s < 2 ^ N → wt d s N ≤ f s) (hd : wt d (2 ^ N - 1) N = f (2 ^ N - 1)) :
    dot x d N = dot x c N ↔ ∀ i, i + 1 < N → x (o (i + 1)) < x (o i) → wt d (S (i + 1)) N = f (S (i + 1)) := by
  have h1 := h.gap (x := x) hc f0 hd
  have h2 : ∀ j, j < N - 1 → 0 ≤ (x (o j) - x (o (j + 1))) * (f (S (j + 1)) - wt d (S (j + 1)) N) := by
    intro j hj
    apply Int.mul_nonneg
    · have := hx j (by omega); omega
    · have := hb (S (j + 1)) (h.set_lt (by omega)); omega
  constructor
  · intro he i hi hlt
    have := sumN_zero h2 (by omega) i (by omega)
    rcases Int.mul_eq_zero.1 this with h3 | h3
    · omega
    · omega
  · intro ht
    have : sumN (fun j => (x (o j) - x (o (j + 1))) * (f (S (j + 1)) - wt d (S (j + 1)) N)) (N - 1) = sumN (fun _ => 0) (N - 1) := by
      apply sumN_congr
      intro j hj
      by_cases hlt : x (o (j + 1)) < x (o j)
      · rw [ht j (by omega) hlt]; simp
      · have : x (o j) - x (o (j + 1)) = 0 := by have := hx j (by omega); omega
        rw [this]; simp
    have e0 : ∀ k, sumN (fun _ => 0) k = 0 := by
      intro k; induction k with
      | zero => rfl
      | succ k ih => unfold sumN; omega
    rw [e0] at this
    omega

/-- The elements with at least t. -/
def lev (x : Nat → Int) (t : Int) : Nat → Nat
  | 0 => 0
  | k + 1 => if t ≤ x k then lev x t k ||| 2 ^ k else lev x t k
theorem lev_bit (x : Nat → Int) (t : Int) (k : Nat) : ∀ N, (lev x t N).testBit k = (decide (k < N) && decide (t ≤ x k))
  | 0 => by simp [lev]
  | N + 1 => by
    unfold lev
    by_cases h : t ≤ x N
    · rw [if_pos h, ins_bit, lev_bit x t k N]
      by_cases h1 : N = k
      · subst h1; simp [h]
      · by_cases h2 : k < N
        · have : k < N + 1 := by omega
          simp [h1, h2, this]
        · have : ¬ k < N + 1 := by omega
          simp [h1, h2, this]
    · rw [if_neg h, lev_bit x t k N]
      by_cases h1 : N = k
      · subst h1; simp [h]
      · by_cases h2 : k < N
        · have : k < N + 1 := by omega
          simp [h2, this]
        · have : ¬ k < N + 1 := by omega
          simp [h2, this]
theorem lev_lt (x : Nat → Int) (t : Int) (N : Nat) : lev x t N < 2 ^ N := by
  apply Nat.lt_pow_two_of_testBit
  intro i hi
  rw [lev_bit]
  have : ¬ i < N := by omega
  simp [this]
theorem lev_min (x y : Nat → Int) (t : Int) (N : Nat) : lev (fun k => min (x k) (y k)) t N = lev x t N &&& lev y t N := by
  apply Nat.eq_of_testBit_eq; intro k
  rw [Nat.testBit_and, lev_bit, lev_bit, lev_bit]
  by_cases hk : k < N
  · by_cases h1 : t ≤ x k <;> by_cases h2 : t ≤ y k <;> simp [hk, h1, h2] <;> omega
  · simp [hk]
theorem lev_max (x y : Nat → Int) (t : Int) (N : Nat) : lev (fun k => max (x k) (y k)) t N = lev x t N ||| lev y t N := by
  apply Nat.eq_of_testBit_eq; intro k
  rw [Nat.testBit_or, lev_bit, lev_bit, lev_bit]
  by_cases hk : k < N
  · by_cases h1 : t ≤ x k <;> by_cases h2 : t ≤ y k <;> simp [hk, h1, h2] <;> omega
  · simp [hk]
theorem sum_step (X G T : Int) : ∀ n : Nat, sumN (fun j => if -T + 1 + (j : Int) ≤ X then G else 0) n = (if X + T ≤ 0 then 0 else if X + T ≤ n then X + T else n) * G
  | 0 => by
    have : (if X + T ≤ 0 then 0 else if X + T ≤ ((0 : Nat) : Int) then X + T else ((0 : Nat) : Int)) = 0 := by split <;> (try split) <;> omega
    rw [this]; simp [sumN]
  | n + 1 => by
    have ih := sum_step X G T n
    unfold sumN
    rw [ih]
    by_cases h1 : X + T ≤ 0
    · have : ¬ -T + 1 + (n : Int) ≤ X := by omega
      simp [h1, this]
    · by_cases h2 : X + T ≤ n
      · have h3 : ¬ -T + 1 + (n : Int) ≤ X := by omega
        have h4 : X + T ≤ ((n + 1 : Nat) : Int) := by omega
        rw [if_neg h1, if_neg h3, if_pos h2, if_neg h1, if_pos h4, Int.add_zero]
      · have h3 : -T + 1 + (n : Int) ≤ X := by omega
        rw [if_neg h1, if_neg h2, if_pos h3, if_neg h1]
        have e : (if X + T ≤ ((n + 1 : Nat) : Int) then X + T else ((n + 1 : Nat) : Int)) = (n : Int) + 1 := by split <;> omega
        rw [e]; grind
/-- The sum over the levels. -/
theorem Ord.levels (h : Ord N o S) (hx : ∀ i, i + 1 < N → x (o (i + 1)) ≤ x (o i)) (T : Nat) (hT : ∀ k, k < N → -(T : Int) ≤ x k ∧ x k ≤ T) :
    sumN (fun j => f (lev x (-(T : Int) + 1 + j) N) - f 0) (2 * T) = sumN (fun i => (x (o i) + T) * (f (S (i + 1)) - f (S i))) N := by
  have hle : ∀ i, i < N → ∀ j, j ≤ i → x (o i) ≤ x (o j) := by
    intro i
    induction i with
    | zero => intro _ j hj; obtain rfl : j = 0 := by omega
              exact Int.le_refl _
    | succ i ih =>
      intro hi j hj
      by_cases he : j = i + 1
      · rw [he]; exact Int.le_refl _
      · exact Int.le_trans (hx i hi) (ih (by omega) j (by omega))
  have hin : ∀ t i, i < N → t ≤ x (o i) → ∀ m, m ≤ i + 1 → S m &&& lev x t N = S m := by
    intro t i hi ht m
    induction m with
    | zero => intro _; rw [h.s0, Nat.zero_and]
    | succ m ih =>
      intro hm
      rw [h.succ m (by omega), Nat.and_comm, Nat.and_or_distrib_left, Nat.and_comm, ih (by omega)]
      congr 1
      apply Nat.eq_of_testBit_eq; intro k
      rw [Nat.testBit_and, Nat.testBit_two_pow, lev_bit]
      by_cases hk : o m = k
      · subst hk
        have := h.lt m (by omega)
        have := hle i hi m (by omega)
        have h3 : t ≤ x (o m) := by omega
        simp [*]
      · simp [hk]
  have hstep : ∀ t i, i < N → f (S (i + 1) &&& lev x t N) - f (S i &&& lev x t N) = if t ≤ x (o i) then f (S (i + 1)) - f (S i) else 0 := by
    intro t i hi
    by_cases ht : t ≤ x (o i)
    · rw [if_pos ht, hin t i hi ht (i + 1) (Nat.le_refl _), hin t i hi ht i (by omega)]
    · rw [if_neg ht]
      have e : S (i + 1) &&& lev x t N = S i &&& lev x t N := by
        rw [h.succ i hi, Nat.and_comm, Nat.and_or_distrib_left, and_one_out (by rw [lev_bit]; simp [ht]), Nat.or_zero, Nat.and_comm]
      rw [e]; omega
  have key : ∀ i, i ≤ N → sumN (fun j => f (S i &&& lev x (-(T : Int) + 1 + j) N) - f 0) (2 * T) = sumN (fun i => (x (o i) + T) * (f (S (i + 1)) - f (S i))) i := by
    intro i
    induction i with
    | zero =>
      intro _
      have : ∀ k, sumN (fun j => f (S 0 &&& lev x (-(T : Int) + 1 + (j : Int)) N) - f 0) k = 0 := by
        intro k
        induction k with
        | zero => rfl
        | succ k ih => unfold sumN; rw [ih, h.s0, Nat.zero_and]; omega
      rw [this]; rfl
    | succ i ih =>
      intro hi
      rw [sumN, ← ih (by omega)]
      have e : sumN (fun j : Nat => if -(T : Int) + 1 + (j : Int) ≤ x (o i) then f (S (i + 1)) - f (S i) else 0) (2 * T) = (x (o i) + T) * (f (S (i + 1)) - f (S i)) := by
        rw [sum_step]
        have h1 := hT (o i) (h.lt i (by omega))
        by_cases h2 : x (o i) + T ≤ 0
        · rw [if_pos h2]
          have : x (o i) + T = 0 := by omega
          rw [this]
        · rw [if_neg h2, if_pos (by omega)]
      rw [← e, ← sumN_add]
      apply sumN_congr
      intro j _
      have := hstep (-(T : Int) + 1 + j) i (by omega)
      omega
  rw [← key N (Nat.le_refl _)]
  apply sumN_congr
  intro j _
  rw [h.full, Nat.and_comm, (part_full (lev_lt _ _ _)).and_eq]
end
end Go.Proofs.Ytokeejachclpeaa.M
