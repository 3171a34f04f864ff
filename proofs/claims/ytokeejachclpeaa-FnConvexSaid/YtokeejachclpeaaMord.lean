/-
  Weights of sets, orders of the elements, corners. Plain mathematics: no program in sight.
-/
import Derived.Test.YtokeejachclpeaaMsub
namespace Go.Proofs.Ytokeejachclpeaa.M

/-- What the set weighs among the first N elements. -/
def wt (x : Nat → Int) (s : Nat) : Nat → Int
  | 0 => 0
  | k + 1 => wt x s k + if s.testBit k then x k else 0
theorem wt_zero (x : Nat → Int) : ∀ N, wt x 0 N = 0
  | 0 => rfl
  | N + 1 => by simp [wt, wt_zero x N]
theorem wt_congr {x y : Nat → Int} {s t : Nat} : ∀ {N}, (∀ k, k < N → s.testBit k = t.testBit k) → (∀ k, k < N → t.testBit k = true → x k = y k) → wt x s N = wt y t N
  | 0, _, _ => rfl
  | N + 1, h, hx => by
    unfold wt
    rw [wt_congr (N := N) (fun k hk => h k (by omega)) (fun k hk => hx k (by omega)), h N (by omega)]
    cases ht : t.testBit N
    · rfl
    · rw [hx N (by omega) ht]
theorem wt_two (x : Nat → Int) (a b : Nat) : ∀ N, wt x (a ||| b) N + wt x (a &&& b) N = wt x a N + wt x b N
  | 0 => rfl
  | N + 1 => by
    have := wt_two x a b N
    unfold wt
    rw [Nat.testBit_or, Nat.testBit_and]
    cases a.testBit N <;> cases b.testBit N <;> simp <;> omega
theorem wt_one (x : Nat → Int) (j : Nat) : ∀ N, wt x (2 ^ j) N = if j < N then x j else 0
  | 0 => rfl
  | N + 1 => by
    unfold wt
    rw [wt_one x j N, Nat.testBit_two_pow]
    by_cases h1 : j = N
    · subst h1; simp
    · by_cases h2 : j < N
      · have : j < N + 1 := by omega
        simp [h1, h2, this]
      · have : ¬ j < N + 1 := by omega
        simp [h1, h2, this]
theorem and_one_out {s j : Nat} (h : s.testBit j = false) : s &&& 2 ^ j = 0 := by
  apply Nat.eq_of_testBit_eq; intro i
  rw [Nat.testBit_and, Nat.testBit_two_pow, Nat.zero_testBit]
  by_cases hi : j = i
  · subst hi; simp [h]
  · simp [hi]
theorem wt_ins (x : Nat → Int) {s j N : Nat} (hj : j < N) (h : s.testBit j = false) : wt x (s ||| 2 ^ j) N = wt x s N + x j := by
  have := wt_two x s (2 ^ j) N
  rw [and_one_out h, wt_zero, wt_one, if_pos hj] at this
  omega
theorem wt_add (x y : Nat → Int) (s : Nat) : ∀ N, wt (fun k => x k + y k) s N = wt x s N + wt y s N
  | 0 => rfl
  | N + 1 => by
    have := wt_add x y s N
    unfold wt
    cases s.testBit N <;> simp <;> omega
theorem wt_sub (x y : Nat → Int) (s : Nat) : ∀ N, wt (fun k => x k - y k) s N = wt x s N - wt y s N
  | 0 => rfl
  | N + 1 => by
    have := wt_sub x y s N
    unfold wt
    cases s.testBit N <;> simp <;> omega
theorem wt_neg (x : Nat → Int) (s : Nat) : ∀ N, wt (fun k => - x k) s N = - wt x s N
  | 0 => rfl
  | N + 1 => by
    have := wt_neg x s N
    unfold wt
    cases s.testBit N <;> simp <;> omega
theorem wt_mono {x y : Nat → Int} {s : Nat} : ∀ {N}, (∀ k, k < N → s.testBit k = true → x k ≤ y k) → wt x s N ≤ wt y s N
  | 0, _ => Int.le_refl _
  | N + 1, h => by
    have := wt_mono (N := N) (fun k hk => h k (by omega))
    have h1 := h N (by omega)
    unfold wt
    cases hs : s.testBit N
    · simpa using this
    · have := h1 hs
      simp; omega
theorem wt_const_zero (s : Nat) : ∀ N, wt (fun _ => 0) s N = 0
  | 0 => rfl
  | N + 1 => by simp [wt, wt_const_zero s N]
theorem wt_nonneg {x : Nat → Int} {s N : Nat} (h : ∀ k, k < N → s.testBit k = true → 0 ≤ x k) : 0 ≤ wt x s N := by
  have := wt_mono (x := fun _ => 0) h
  rwa [wt_const_zero] at this
/-- Parts weigh less where all weights are at least 0. -/
theorem wt_part {x : Nat → Int} {s t : Nat} (hst : Part s t) : ∀ {N}, (∀ k, k < N → t.testBit k = true → s.testBit k = false → 0 ≤ x k) → wt x s N ≤ wt x t N
  | 0, _ => Int.le_refl _
  | N + 1, h => by
    have := wt_part hst (N := N) (fun k hk => h k (by omega))
    have h1 := h N (by omega)
    have h2 := hst N
    unfold wt
    cases hs : s.testBit N
    · cases ht : t.testBit N
      · simpa using this
      · have := h1 ht hs; simp; omega
    · rw [h2 hs]; simpa using this
theorem wt_diff (x : Nat → Int) {s t : Nat} (hst : Part s t) : ∀ N, wt x (t ^^^ s) N = wt x t N - wt x s N
  | 0 => rfl
  | N + 1 => by
    have := wt_diff x hst N
    have h2 := hst N
    unfold wt
    rw [Nat.testBit_xor]
    cases hs : s.testBit N
    · cases ht : t.testBit N <;> simp <;> omega
    · rw [h2 hs]; simp; omega

/-- The sum of the first k numbers. -/
def sumN (g : Nat → Int) : Nat → Int
  | 0 => 0
  | k + 1 => sumN g k + g k
theorem sumN_nonneg {g : Nat → Int} : ∀ {k}, (∀ j, j < k → 0 ≤ g j) → 0 ≤ sumN g k
  | 0, _ => Int.le_refl _
  | k + 1, h => by
    have := sumN_nonneg (k := k) (fun j hj => h j (by omega))
    have := h k (by omega)
    unfold sumN; omega
theorem sumN_zero {g : Nat → Int} : ∀ {k}, (∀ j, j < k → 0 ≤ g j) → sumN g k = 0 → ∀ j, j < k → g j = 0
  | 0, _, _, j, hj => by omega
  | k + 1, h, hs, j, hj => by
    have h1 := sumN_nonneg (k := k) (fun j hj => h j (by omega))
    have h2 := h k (by omega)
    unfold sumN at hs
    by_cases hjk : j = k
    · rw [hjk]; omega
    · exact sumN_zero (k := k) (fun j hj => h j (by omega)) (by omega) j (by omega)
theorem sumN_le {g h : Nat → Int} : ∀ {k}, (∀ j, j < k → g j ≤ h j) → sumN g k ≤ sumN h k
  | 0, _ => Int.le_refl _
  | k + 1, hh => by
    have := sumN_le (k := k) (fun j hj => hh j (by omega))
    have := hh k (by omega)
    unfold sumN; omega
theorem sumN_congr {g h : Nat → Int} : ∀ {k}, (∀ j, j < k → g j = h j) → sumN g k = sumN h k
  | 0, _ => rfl
  | k + 1, hh => by unfold sumN; rw [sumN_congr (k := k) (fun j hj => hh j (by omega)), hh k (by omega)]
theorem sumN_add (g h : Nat → Int) : ∀ k, sumN (fun j => g j + h j) k = sumN g k + sumN h k
  | 0 => rfl
  | k + 1 => by have := sumN_add g h k; unfold sumN; omega

/-- How many elements a set has. -/
def cnt (s N : Nat) : Int := wt (fun _ => 1) s N
theorem cnt_le (s : Nat) : ∀ N, cnt s N ≤ N
  | 0 => Int.le_refl _
  | N + 1 => by
    have := cnt_le s N
    unfold cnt at *
    unfold wt
    cases s.testBit N <;> simp <;> omega
theorem cnt_all {s : Nat} : ∀ {N}, cnt s N = N → ∀ k, k < N → s.testBit k = true
  | 0, _, k, hk => by omega
  | N + 1, h, k, hk => by
    have h1 := cnt_le s N
    unfold cnt at h h1
    unfold wt at h
    cases hs : s.testBit N
    · rw [hs] at h; simp at h; omega
    · rw [hs] at h; simp at h
      by_cases hkN : k = N
      · rw [hkN]; exact hs
      · exact cnt_all (N := N) (by unfold cnt; omega) k (by omega)
theorem full_of {s N : Nat} (hs : s < 2 ^ N) (h : ∀ k, k < N → s.testBit k = true) : s = 2 ^ N - 1 := by
  apply Nat.eq_of_testBit_eq; intro i
  rw [Nat.testBit_two_pow_sub_one]
  by_cases hi : i < N
  · simp [hi, h i hi]
  · cases hb : s.testBit i
    · simp [hi]
    · exact absurd (bit_lt hs hb) hi

/-- An order of the elements, with the sets of those before. -/
structure Ord (N : Nat) (o S : Nat → Nat) : Prop where
  s0 : S 0 = 0
  succ : ∀ i, i < N → S (i + 1) = S i ||| 2 ^ o i
  lt : ∀ i, i < N → o i < N
  fresh : ∀ i, i < N → (S i).testBit (o i) = false
section
variable {N : Nat} {o S : Nat → Nat}
theorem Ord.set_lt (h : Ord N o S) : ∀ {i}, i ≤ N → S i < 2 ^ N
  | 0, _ => by rw [h.s0]; exact Nat.two_pow_pos N
  | i + 1, hi => by rw [h.succ i (by omega)]; exact ins_lt (h.set_lt (by omega)) (h.lt i (by omega))
theorem Ord.sum (h : Ord N o S) (x : Nat → Int) {i : Nat} (hi : i < N) : wt x (S (i + 1)) N = wt x (S i) N + x (o i) := by
  rw [h.succ i hi]; exact wt_ins x (h.lt i hi) (h.fresh i hi)
theorem Ord.cnt (h : Ord N o S) : ∀ {i : Nat}, i ≤ N → cnt (S i) N = i
  | 0, _ => by rw [h.s0]; exact wt_zero _ _
  | i + 1, hi => by
    have := h.cnt (i := i) (by omega)
    unfold M.cnt at *
    rw [h.sum _ (by omega)]; omega
theorem Ord.full (h : Ord N o S) : S N = 2 ^ N - 1 := full_of (h.set_lt (Nat.le_refl _)) (cnt_all (h.cnt (Nat.le_refl _)))
theorem Ord.part (h : Ord N o S) {i : Nat} : ∀ {j}, i ≤ j → j ≤ N → Part (S i) (S j)
  | 0, hij, _ => by obtain rfl : i = 0 := by omega
                    exact Part.refl _
  | j + 1, hij, hj => by
    by_cases he : i = j + 1
    · rw [he]; exact Part.refl _
    · rw [h.succ j (by omega)]
      exact (h.part (j := j) (by omega) (by omega)).trans (part_or_left _ _)
/-- Every element comes once. -/
theorem Ord.onto (h : Ord N o S) {e : Nat} (he : e < N) : ∃ i, i < N ∧ o i = e := by
  have key : ∀ j, j ≤ N → (S j).testBit e = true → ∃ i, i < j ∧ o i = e := by
    intro j
    induction j with
    | zero => intro _ hb; rw [h.s0] at hb; simp at hb
    | succ j ih =>
      intro hj hb
      rw [h.succ j (by omega), ins_bit] at hb
      by_cases ho : o j = e
      · exact ⟨j, by omega, ho⟩
      · simp [ho] at hb
        obtain ⟨i, hi, hoi⟩ := ih (by omega) hb
        exact ⟨i, by omega, hoi⟩
  have := key N (Nat.le_refl _) (by rw [h.full, Nat.testBit_two_pow_sub_one]; simpa using he)
  exact this

/-- c is what the elements add in the order. -/
def Corn (f : Nat → Int) (N : Nat) (o S : Nat → Nat) (c : Nat → Int) : Prop := ∀ i, i < N → c (o i) = f (S (i + 1)) - f (S i)
variable {f : Nat → Int} {c d : Nat → Int}
theorem Ord.tight (h : Ord N o S) (hc : Corn f N o S c) (f0 : f 0 = 0) : ∀ {i}, i ≤ N → wt c (S i) N = f (S i)
  | 0, _ => by rw [h.s0, wt_zero, f0]
  | i + 1, hi => by rw [h.sum c (by omega), h.tight hc f0 (i := i) (by omega), hc i (by omega)]; omega
/-- The corners of a submodular function lie below it. -/
theorem Ord.below (h : Ord N o S) (hc : Corn f N o S c) (f0 : f 0 = 0) (hf : Smod f N) {s : Nat} (hs : s < 2 ^ N) : wt c s N ≤ f s := by
  have key : ∀ i, i ≤ N → wt c (s &&& S i) N ≤ f (s &&& S i) := by
    intro i
    induction i with
    | zero => intro _; rw [h.s0, Nat.and_zero, wt_zero, f0]; exact Int.le_refl _
    | succ i ih =>
      intro hi
      have ih := ih (by omega)
      rw [h.succ i (by omega)]
      have hfr := h.fresh i (by omega)
      cases hb : s.testBit (o i)
      · have e : s &&& (S i ||| 2 ^ o i) = s &&& S i := by
          rw [Nat.and_or_distrib_left, and_one_out hb, Nat.or_zero]
        rw [e]; exact ih
      · have e : s &&& (S i ||| 2 ^ o i) = (s &&& S i) ||| 2 ^ o i := by
          rw [Nat.and_or_distrib_left]
          congr 1
          apply Nat.eq_of_testBit_eq; intro j
          rw [Nat.testBit_and, Nat.testBit_two_pow]
          by_cases hj : o i = j
          · subst hj; simp [hb]
          · simp [hj]
        rw [e, wt_ins c (h.lt i (by omega)) (by rw [Nat.testBit_and, hfr, Bool.and_false]), hc i (by omega), h.succ i (by omega)]
        have := hf.dr (s := s &&& S i) (t := S i) (k := o i) (h.set_lt (by omega)) (part_and_right _ _) (h.lt i (by omega)) hfr
        omega
  have h1 := key N (Nat.le_refl _)
  rw [h.full, (part_full hs).and_eq] at h1
  exact h1

/-- The sums' difference, step by step. -/
theorem Ord.abel (h : Ord N o S) (hc : Corn f N o S c) (f0 : f 0 = 0) (x : Nat → Int) (d : Nat → Int) : ∀ {i}, i < N →
    wt (fun k => x k * (c k - d k)) (S (i + 1)) N = sumN (fun j => (x (o j) - x (o (j + 1))) * (f (S (j + 1)) - wt d (S (j + 1)) N)) i + x (o i) * (f (S (i + 1)) - wt d (S (i + 1)) N)
  | 0, hi => by
    have h1 := hc 0 hi
    have h2 := h.sum d hi
    rw [h.sum _ hi, h1, h2]
    rw [h.s0, wt_zero, wt_zero, f0]
    simp [sumN]
  | i + 1, hi => by
    rw [h.sum _ hi, h.abel hc f0 x d (i := i) (by omega), hc (i + 1) hi, h.sum d hi]
    rw [sumN]
    grind
end
end Go.Proofs.Ytokeejachclpeaa.M
