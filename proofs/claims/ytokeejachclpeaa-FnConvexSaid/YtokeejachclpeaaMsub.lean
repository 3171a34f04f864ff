/-
  Sets as bit masks, submodular values: what a set adds. Plain mathematics: no program in sight.
-/
namespace Go.Proofs.Ytokeejachclpeaa.M

/-- Submodular on the sets of N elements. -/
def Smod (f : Nat → Int) (N : Nat) : Prop := ∀ s i k, s < 2 ^ N → i < N → k < N → i ≠ k → s.testBit i = false → s.testBit k = false → f (s ||| 2 ^ i ||| 2 ^ k) + f s ≤ f (s ||| 2 ^ i) + f (s ||| 2 ^ k)
/-- Is s part of t? -/
def Part (s t : Nat) : Prop := ∀ i, s.testBit i = true → t.testBit i = true

theorem Part.refl (s : Nat) : Part s s := fun _ h => h
theorem Part.trans {s t u : Nat} (h : Part s t) (k : Part t u) : Part s u := fun i hi => k i (h i hi)
theorem part_or_left (s t : Nat) : Part s (s ||| t) := fun i hi => by simp [Nat.testBit_or, hi]
theorem part_or_right (s t : Nat) : Part t (s ||| t) := fun i hi => by simp [Nat.testBit_or, hi]
theorem part_and_left (s t : Nat) : Part (s &&& t) s := fun i hi => by simp [Nat.testBit_and] at hi; exact hi.1
theorem part_and_right (s t : Nat) : Part (s &&& t) t := fun i hi => by simp [Nat.testBit_and] at hi; exact hi.2
theorem Part.or_eq {s t : Nat} (h : Part s t) : s ||| t = t := by
  apply Nat.eq_of_testBit_eq; intro i
  have := h i
  rw [Nat.testBit_or]
  cases hs : s.testBit i <;> cases ht : t.testBit i <;> simp_all
theorem Part.and_eq {s t : Nat} (h : Part s t) : s &&& t = s := by
  apply Nat.eq_of_testBit_eq; intro i
  have := h i
  rw [Nat.testBit_and]
  cases hs : s.testBit i <;> cases ht : t.testBit i <;> simp_all
theorem part_antisymm {s t : Nat} (h : Part s t) (k : Part t s) : s = t := by
  apply Nat.eq_of_testBit_eq; intro i
  have h1 := h i
  have h2 := k i
  cases hs : s.testBit i <;> cases ht : t.testBit i <;> simp_all
theorem bit_lt {s N i : Nat} (hs : s < 2 ^ N) (hi : s.testBit i = true) : i < N := by
  by_cases h : i < N
  · exact h
  · have : s.testBit i = false := Nat.testBit_lt_two_pow (Nat.lt_of_lt_of_le hs (Nat.pow_le_pow_right (by omega) (by omega)))
    rw [this] at hi; cases hi
theorem part_full {s N : Nat} (hs : s < 2 ^ N) : Part s (2 ^ N - 1) := fun i hi => by
  rw [Nat.testBit_two_pow_sub_one]; simpa using bit_lt hs hi
theorem part_lt {s t N : Nat} (h : Part s t) (ht : t < 2 ^ N) : s < 2 ^ N := by
  apply Nat.lt_pow_two_of_testBit
  intro i hi
  cases hs : s.testBit i
  · rfl
  · have := bit_lt ht (h i hs); omega
theorem mod_succ_in {t j : Nat} (h : t.testBit j = true) : t % 2 ^ (j + 1) = t % 2 ^ j ||| 2 ^ j := by
  apply Nat.eq_of_testBit_eq; intro i
  simp only [Nat.testBit_mod_two_pow, Nat.testBit_or, Nat.testBit_two_pow]
  by_cases h1 : i = j
  · subst h1; simp [h]
  · by_cases h2 : i < j
    · have : i < j + 1 := by omega
      simp [h2, this]; omega
    · have h3 : ¬ i < j + 1 := by omega
      have h4 : ¬ j = i := by omega
      simp [h2, h3, h4]
theorem mod_succ_out {t j : Nat} (h : t.testBit j = false) : t % 2 ^ (j + 1) = t % 2 ^ j := by
  apply Nat.eq_of_testBit_eq; intro i
  simp only [Nat.testBit_mod_two_pow]
  by_cases h1 : i = j
  · subst h1; simp [h]
  · by_cases h2 : i < j
    · have : i < j + 1 := by omega
      simp [h2, this]
    · have h3 : ¬ i < j + 1 := by omega
      simp [h2, h3]
theorem ins_lt {s N i : Nat} (hs : s < 2 ^ N) (hi : i < N) : s ||| 2 ^ i < 2 ^ N := Nat.or_lt_two_pow hs (Nat.pow_lt_pow_right (by omega) hi)
theorem ins_bit (s i j : Nat) : (s ||| 2 ^ i).testBit j = (s.testBit j || decide (i = j)) := by rw [Nat.testBit_or, Nat.testBit_two_pow]
theorem ins_in {s i : Nat} (h : s.testBit i = true) : s ||| 2 ^ i = s := by
  apply Nat.eq_of_testBit_eq; intro j
  rw [ins_bit]
  by_cases hij : i = j
  · subst hij; simp [h]
  · simp [hij]
theorem or_mod_succ_out {s t j : Nat} (h : (s ||| t).testBit j = s.testBit j) : s ||| t % 2 ^ (j + 1) = s ||| t % 2 ^ j := by
  cases ht : t.testBit j
  · rw [mod_succ_out ht]
  · rw [mod_succ_in ht, ← Nat.or_assoc, ins_in]
    rw [Nat.testBit_or, ht, Bool.or_true] at h
    rw [Nat.testBit_or, ← h, Bool.true_or]
theorem or_mod_succ_in {s t j : Nat} (h : t.testBit j = true) : s ||| t % 2 ^ (j + 1) = s ||| t % 2 ^ j ||| 2 ^ j := by
  rw [mod_succ_in h, Nat.or_assoc]
theorem mod_bit_self (t j : Nat) : (t % 2 ^ j).testBit j = false := by simp [Nat.testBit_mod_two_pow]
theorem mod_lt {t N : Nat} (j : Nat) (ht : t < 2 ^ N) : t % 2 ^ j < 2 ^ N := Nat.lt_of_le_of_lt (Nat.mod_le _ _) ht
theorem part_mod (t j : Nat) : Part (t % 2 ^ j) t := fun i hi => by
  rw [Nat.testBit_mod_two_pow] at hi
  simp at hi; exact hi.2

/-- An element adds less to a greater set. -/
theorem Smod.dr {f : Nat → Int} {N : Nat} (h : Smod f N) {s t k : Nat} (ht : t < 2 ^ N) (hst : Part s t) (hk : k < N) (hkt : t.testBit k = false) : f (t ||| 2 ^ k) - f t ≤ f (s ||| 2 ^ k) - f s := by
  have key : ∀ j, f ((s ||| t % 2 ^ j) ||| 2 ^ k) - f (s ||| t % 2 ^ j) ≤ f (s ||| 2 ^ k) - f s := by
    intro j
    induction j with
    | zero => simp [Nat.mod_one]
    | succ j ih =>
      cases hj : t.testBit j
      · rw [or_mod_succ_out (by
          rw [Nat.testBit_or, hj, Bool.or_false])]
        exact ih
      · cases hsj : s.testBit j
        · rw [or_mod_succ_in hj]
          have hjk : j ≠ k := by rintro rfl; rw [hj] at hkt; cases hkt
          have hjN := bit_lt ht hj
          have hsk : s.testBit k = false := by
            cases hs : s.testBit k
            · rfl
            · rw [hst k hs] at hkt; cases hkt
          have hlt : s ||| t % 2 ^ j < 2 ^ N := Nat.or_lt_two_pow (part_lt hst ht) (mod_lt j ht)
          have := h (s ||| t % 2 ^ j) j k hlt hjN hk hjk (by rw [Nat.testBit_or, hsj, mod_bit_self]; rfl) (by
            rw [Nat.testBit_or, hsk, Bool.false_or]
            cases hx : (t % 2 ^ j).testBit k
            · rfl
            · rw [part_mod t j k hx] at hkt; cases hkt)
          omega
        · rw [or_mod_succ_out (by rw [Nat.testBit_or, hsj, Bool.true_or])]
          exact ih
  have := key N
  rw [Nat.mod_eq_of_lt ht, hst.or_eq] at this
  exact this
/-- Submodular for any two sets. -/
theorem Smod.two {f : Nat → Int} {N : Nat} (h : Smod f N) {a b : Nat} (ha : a < 2 ^ N) (hb : b < 2 ^ N) : f (a ||| b) + f (a &&& b) ≤ f a + f b := by
  have key : ∀ j, f (a ||| b % 2 ^ j) - f a ≤ f ((a &&& b) ||| b % 2 ^ j) - f (a &&& b) := by
    intro j
    induction j with
    | zero => simp [Nat.mod_one]
    | succ j ih =>
      cases hj : b.testBit j
      · rw [mod_succ_out hj]; exact ih
      · cases haj : a.testBit j
        · rw [or_mod_succ_in hj, or_mod_succ_in hj]
          have := h.dr (s := a &&& b ||| b % 2 ^ j) (t := a ||| b % 2 ^ j) (k := j) (Nat.or_lt_two_pow ha (mod_lt j hb)) (fun i hi => by
            rw [Nat.testBit_or, Nat.testBit_and] at hi
            rw [Nat.testBit_or]
            cases h1 : a.testBit i <;> simp_all) (bit_lt hb hj) (by rw [Nat.testBit_or, haj, mod_bit_self]; rfl)
          omega
        · rw [or_mod_succ_out (by rw [Nat.testBit_or, haj, Bool.true_or]), or_mod_succ_out (by rw [Nat.testBit_or, Nat.testBit_and, haj, hj]; rfl)]
          exact ih
  have h1 := key N
  rw [Nat.mod_eq_of_lt hb] at h1
  have h2 : a &&& b ||| b = b := (part_and_right a b).or_eq
  rw [h2] at h1
  omega
end Go.Proofs.Ytokeejachclpeaa.M
