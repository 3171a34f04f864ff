/-
  Sets as bit masks, submodular values: what a set adds. Plain mathematics: no program in sight.
  Weights of sets, orders of the elements, corners. Plain mathematics: no program in sight.
  The greatest pairing (Edmonds), the sum over the levels. Plain mathematics: no program in sight.
  Extensions of submodular functions are convex. Plain mathematics: no program in sight.
  Least values, tight sets, dual vectors, local maxima. Plain mathematics: no program in sight.
  Greed, curvature, double greed. Plain mathematics: no program in sight.
-/

namespace Go.Proofs.Ytokeejachclpeaa.M

/-- Submodular on the sets of N elements. -/
def Smod (f : Nat → Int) (N : Nat) : Prop := ∀ s i k, s < 2 ^ N → i < N → k < N → i ≠ k → s.testBit i = false → s.testBit k = false → f (s ||| 2 ^ i ||| 2 ^ k) + f s ≤ f (s ||| 2 ^ i) + f (s ||| 2 ^ k)
/-- Is s part of t? -/
def Part (s t : Nat) : Prop := ∀ i, s.testBit i = true → t.testBit i = true

theorem Part.refl (s : Nat) : Part s s := fun _ h => h
theorem Part.trans {s t u : Nat} (h : Part s t) (k : Part t u) : Part s u := fun i hi => k i (h i hi)
theorem part_or_left (s t : Nat) : Part s (s ||| t) := fun i hi => by simp [Nat.testBit_or, hi]
theorem part_or_right (s t : Nat) : Part t (s ||| t) := fun i hi => by simp [Nat.testBit_or, hi]
theorem part_and_left (s t : Nat) : Part (s &&& t) s := fun i hi => by simp [Nat.testBit_and] at hi; exact hi.1
theorem part_and_right (s t : Nat) : Part (s &&& t) t := fun i hi => by simp [Nat.testBit_and] at hi; exact hi.2
theorem Part.or_eq {s t : Nat} (h : Part s t) : s ||| t = t := by
  apply Nat.eq_of_testBit_eq; intro i
  have := h i
  rw [Nat.testBit_or]
  cases hs : s.testBit i <;> cases ht : t.testBit i <;> simp_all
theorem Part.and_eq {s t : Nat} (h : Part s t) : s &&& t = s := by
  apply Nat.eq_of_testBit_eq; intro i
  have := h i
  rw [Nat.testBit_and]
  cases hs : s.testBit i <;> cases ht : t.testBit i <;> simp_all
theorem part_antisymm {s t : Nat} (h : Part s t) (k : Part t s) : s = t := by
  apply Nat.eq_of_testBit_eq; intro i
  have h1 := h i
  have h2 := k i
  cases hs : s.testBit i <;> cases ht : t.testBit i <;> simp_all
theorem bit_lt {s N i : Nat} (hs : s < 2 ^ N) (hi : s.testBit i = true) : i < N := by
  by_cases h : i < N
  · exact h
  · have : s.testBit i = false := Nat.testBit_lt_two_pow (Nat.lt_of_lt_of_le hs (Nat.pow_le_pow_right (by omega) (by omega)))
    rw [this] at hi; cases hi
theorem part_full {s N : Nat} (hs : s < 2 ^ N) : Part s (2 ^ N - 1) := fun i hi => by
  rw [Nat.testBit_two_pow_sub_one]; simpa using bit_lt hs hi
theorem part_lt {s t N : Nat} (h : Part s t) (ht : t < 2 ^ N) : s < 2 ^ N := by
  apply Nat.lt_pow_two_of_testBit
  intro i hi
  cases hs : s.testBit i
  · rfl
  · have := bit_lt ht (h i hs); omega
theorem mod_succ_in {t j : Nat} (h : t.testBit j = true) : t % 2 ^ (j + 1) = t % 2 ^ j ||| 2 ^ j := by
  apply Nat.eq_of_testBit_eq; intro i
  simp only [Nat.testBit_mod_two_pow, Nat.testBit_or, Nat.testBit_two_pow]
  by_cases h1 : i = j
  · subst h1; simp [h]
  · by_cases h2 : i < j
    · have : i < j + 1 := by omega
      simp [h2, this]; omega
    · have h3 : ¬ i < j + 1 := by omega
      have h4 : ¬ j = i := by omega
      simp [h2, h3, h4]
theorem mod_succ_out {t j : Nat} (h : t.testBit j = false) : t % 2 ^ (j + 1) = t % 2 ^ j := by
  apply Nat.eq_of_testBit_eq; intro i
  simp only [Nat.testBit_mod_two_pow]
  by_cases h1 : i = j
  · subst h1; simp [h]
  · by_cases h2 : i < j
    · have : i < j + 1 := by omega
      simp [h2, this]
    · have h3 : ¬ i < j + 1 := by omega
      simp [h2, h3]
theorem ins_lt {s N i : Nat} (hs : s < 2 ^ N) (hi : i < N) : s ||| 2 ^ i < 2 ^ N := Nat.or_lt_two_pow hs (Nat.pow_lt_pow_right (by omega) hi)
theorem ins_bit (s i j : Nat) : (s ||| 2 ^ i).testBit j = (s.testBit j || decide (i = j)) := by rw [Nat.testBit_or, Nat.testBit_two_pow]
theorem ins_in {s i : Nat} (h : s.testBit i = true) : s ||| 2 ^ i = s := by
  apply Nat.eq_of_testBit_eq; intro j
  rw [ins_bit]
  by_cases hij : i = j
  · subst hij; simp [h]
  · simp [hij]
theorem or_mod_succ_out {s t j : Nat} (h : (s ||| t).testBit j = s.testBit j) : s ||| t % 2 ^ (j + 1) = s ||| t % 2 ^ j := by
  cases ht : t.testBit j
  · rw [mod_succ_out ht]
  · rw [mod_succ_in ht, ← Nat.or_assoc, ins_in]
    rw [Nat.testBit_or, ht, Bool.or_true] at h
    rw [Nat.testBit_or, ← h, Bool.true_or]
theorem or_mod_succ_in {s t j : Nat} (h : t.testBit j = true) : s ||| t % 2 ^ (j + 1) = s ||| t % 2 ^ j ||| 2 ^ j := by
  rw [mod_succ_in h, Nat.or_assoc]
theorem mod_bit_self (t j : Nat) : (t % 2 ^ j).testBit j = false := by simp [Nat.testBit_mod_two_pow]
theorem mod_lt {t N : Nat} (j : Nat) (ht : t < 2 ^ N) : t % 2 ^ j < 2 ^ N := Nat.lt_of_le_of_lt (Nat.mod_le _ _) ht
theorem part_mod (t j : Nat) : Part (t % 2 ^ j) t := fun i hi => by
  rw [Nat.testBit_mod_two_pow] at hi
  simp at hi; exact hi.2

/-- An element adds less to a greater set. -/
theorem Smod.dr {f : Nat → Int} {N : Nat} (h : Smod f N) {s t k : Nat} (ht : t < 2 ^ N) (hst : Part s t) (hk : k < N) (hkt : t.testBit k = false) : f (t ||| 2 ^ k) - f t ≤ f (s ||| 2 ^ k) - f s := by
  have key : ∀ j, f ((s ||| t % 2 ^ j) ||| 2 ^ k) - f (s ||| t % 2 ^ j) ≤ f (s ||| 2 ^ k) - f s := by
    intro j
    induction j with
    | zero => simp [Nat.mod_one]
    | succ j ih =>
      cases hj : t.testBit j
      · rw [or_mod_succ_out (by
          rw [Nat.testBit_or, hj, Bool.or_false])]
        exact ih
      · cases hsj : s.testBit j
        · rw [or_mod_succ_in hj]
          have hjk : j ≠ k := by rintro rfl; rw [hj] at hkt; cases hkt
          have hjN := bit_lt ht hj
          have hsk : s.testBit k = false := by
            cases hs : s.testBit k
            · rfl
            · rw [hst k hs] at hkt; cases hkt
          have hlt : s ||| t % 2 ^ j < 2 ^ N := Nat.or_lt_two_pow (part_lt hst ht) (mod_lt j ht)
          have := h (s ||| t % 2 ^ j) j k hlt hjN hk hjk (by rw [Nat.testBit_or, hsj, mod_bit_self]; rfl) (by
            rw [Nat.testBit_or, hsk, Bool.false_or]
            cases hx : (t % 2 ^ j).testBit k
            · rfl
            · rw [part_mod t j k hx] at hkt; cases hkt)
          omega
        · rw [or_mod_succ_out (by rw [Nat.testBit_or, hsj, Bool.true_or])]
          exact ih
  have := key N
  rw [Nat.mod_eq_of_lt ht, hst.or_eq] at this
  exact this
/-- Submodular for any two sets. -/
theorem Smod.two {f : Nat → Int} {N : Nat} (h : Smod f N) {a b : Nat} (ha : a < 2 ^ N) (hb : b < 2 ^ N) : f (a ||| b) + f (a &&& b) ≤ f a + f b := by
  have key : ∀ j, f (a ||| b % 2 ^ j) - f a ≤ f ((a &&& b) ||| b % 2 ^ j) - f (a &&& b) := by
    intro j
    induction j with
    | zero => simp [Nat.mod_one]
    | succ j ih =>
      cases hj : b.testBit j
      · rw [mod_succ_out hj]; exact ih
      · cases haj : a.testBit j
        · rw [or_mod_succ_in hj, or_mod_succ_in hj]
          have := h.dr (s := a &&& b ||| b % 2 ^ j) (t := a ||| b % 2 ^ j) (k := j) (Nat.or_lt_two_pow ha (mod_lt j hb)) (fun i hi => by
            rw [Nat.testBit_or, Nat.testBit_and] at hi
            rw [Nat.testBit_or]
            cases h1 : a.testBit i <;> simp_all) (bit_lt hb hj) (by rw [Nat.testBit_or, haj, mod_bit_self]; rfl)
          omega
        · rw [or_mod_succ_out (by rw [Nat.testBit_or, haj, Bool.true_or]), or_mod_succ_out (by rw [Nat.testBit_or, Nat.testBit_and, haj, hj]; rfl)]
          exact ih
  have h1 := key N
  rw [Nat.mod_eq_of_lt hb] at h1
  have h2 : a &&& b ||| b = b := (part_and_right a b).or_eq
  rw [h2] at h1
  omega
end Go.Proofs.Ytokeejachclpeaa.M
namespace Go.Proofs.Ytokeejachclpeaa.M

/-- What the set weighs among the first N elements. -/
def wt (x : Nat → Int) (s : Nat) : Nat → Int
  | 0 => 0
  | k + 1 => wt x s k + if s.testBit k then x k else 0
theorem wt_zero (x : Nat → Int) : ∀ N, wt x 0 N = 0
  | 0 => rfl
  | N + 1 => by simp [wt, wt_zero x N]
theorem wt_congr {x y : Nat → Int} {s t : Nat} : ∀ {N}, (∀ k, k < N → s.testBit k = t.testBit k) → (∀ k, k < N → t.testBit k = true → x k = y k) → wt x s N = wt y t N
  | 0, _, _ => rfl
  | N + 1, h, hx => by
    unfold wt
    rw [wt_congr (N := N) (fun k hk => h k (by omega)) (fun k hk => hx k (by omega)), h N (by omega)]
    cases ht : t.testBit N
    · rfl
    · rw [hx N (by omega) ht]
theorem wt_two (x : Nat → Int) (a b : Nat) : ∀ N, wt x (a ||| b) N + wt x (a &&& b) N = wt x a N + wt x b N
  | 0 => rfl
  | N + 1 => by
    have := wt_two x a b N
    unfold wt
    rw [Nat.testBit_or, Nat.testBit_and]
    cases a.testBit N <;> cases b.testBit N <;> simp <;> omega
theorem wt_one (x : Nat → Int) (j : Nat) : ∀ N, wt x (2 ^ j) N = if j < N then x j else 0
  | 0 => rfl
  | N + 1 => by
    unfold wt
    rw [wt_one x j N, Nat.testBit_two_pow]
    by_cases h1 : j = N
    · subst h1; simp
    · by_cases h2 : j < N
      · have : j < N + 1 := by omega
        simp [h1, h2, this]
      · have : ¬ j < N + 1 := by omega
        simp [h1, h2, this]
theorem and_one_out {s j : Nat} (h : s.testBit j = false) : s &&& 2 ^ j = 0 := by
  apply Nat.eq_of_testBit_eq; intro i
  rw [Nat.testBit_and, Nat.testBit_two_pow, Nat.zero_testBit]
  by_cases hi : j = i
  · subst hi; simp [h]
  · simp [hi]
theorem wt_ins (x : Nat → Int) {s j N : Nat} (hj : j < N) (h : s.testBit j = false) : wt x (s ||| 2 ^ j) N = wt x s N + x j := by
  have := wt_two x s (2 ^ j) N
  rw [and_one_out h, wt_zero, wt_one, if_pos hj] at this
  omega
theorem wt_add (x y : Nat → Int) (s : Nat) : ∀ N, wt (fun k => x k + y k) s N = wt x s N + wt y s N
  | 0 => rfl
  | N + 1 => by
    have := wt_add x y s N
    unfold wt
    cases s.testBit N <;> simp <;> omega
theorem wt_sub (x y : Nat → Int) (s : Nat) : ∀ N, wt (fun k => x k - y k) s N = wt x s N - wt y s N
  | 0 => rfl
  | N + 1 => by
    have := wt_sub x y s N
    unfold wt
    cases s.testBit N <;> simp <;> omega
theorem wt_neg (x : Nat → Int) (s : Nat) : ∀ N, wt (fun k => - x k) s N = - wt x s N
  | 0 => rfl
  | N + 1 => by
    have := wt_neg x s N
    unfold wt
    cases s.testBit N <;> simp <;> omega
theorem wt_mono {x y : Nat → Int} {s : Nat} : ∀ {N}, (∀ k, k < N → s.testBit k = true → x k ≤ y k) → wt x s N ≤ wt y s N
  | 0, _ => Int.le_refl _
  | N + 1, h => by
    have := wt_mono (N := N) (fun k hk => h k (by omega))
    have h1 := h N (by omega)
    unfold wt
    cases hs : s.testBit N
    · simpa using this
    · have := h1 hs
      simp; omega
theorem wt_const_zero (s : Nat) : ∀ N, wt (fun _ => 0) s N = 0
  | 0 => rfl
  | N + 1 => by simp [wt, wt_const_zero s N]
theorem wt_nonneg {x : Nat → Int} {s N : Nat} (h : ∀ k, k < N → s.testBit k = true → 0 ≤ x k) : 0 ≤ wt x s N := by
  have := wt_mono (x := fun _ => 0) h
  rwa [wt_const_zero] at this
/-- Parts weigh less where all weights are at least 0. -/
theorem wt_part {x : Nat → Int} {s t : Nat} (hst : Part s t) : ∀ {N}, (∀ k, k < N → t.testBit k = true → s.testBit k = false → 0 ≤ x k) → wt x s N ≤ wt x t N
  | 0, _ => Int.le_refl _
  | N + 1, h => by
    have := wt_part hst (N := N) (fun k hk => h k (by omega))
    have h1 := h N (by omega)
    have h2 := hst N
    unfold wt
    cases hs : s.testBit N
    · cases ht : t.testBit N
      · simpa using this
      · have := h1 ht hs; simp; omega
    · rw [h2 hs]; simpa using this
theorem wt_diff (x : Nat → Int) {s t : Nat} (hst : Part s t) : ∀ N, wt x (t ^^^ s) N = wt x t N - wt x s N
  | 0 => rfl
  | N + 1 => by
    have := wt_diff x hst N
    have h2 := hst N
    unfold wt
    rw [Nat.testBit_xor]
    cases hs : s.testBit N
    · cases ht : t.testBit N <;> simp <;> omega
    · rw [h2 hs]; simp; omega

/-- The sum of the first k numbers. -/
def sumN (g : Nat → Int) : Nat → Int
  | 0 => 0
  | k + 1 => sumN g k + g k
theorem sumN_nonneg {g : Nat → Int} : ∀ {k}, (∀ j, j < k → 0 ≤ g j) → 0 ≤ sumN g k
  | 0, _ => Int.le_refl _
  | k + 1, h => by
    have := sumN_nonneg (k := k) (fun j hj => h j (by omega))
    have := h k (by omega)
    unfold sumN; omega
theorem sumN_zero {g : Nat → Int} : ∀ {k}, (∀ j, j < k → 0 ≤ g j) → sumN g k = 0 → ∀ j, j < k → g j = 0
  | 0, _, _, j, hj => by omega
  | k + 1, h, hs, j, hj => by
    have h1 := sumN_nonneg (k := k) (fun j hj => h j (by omega))
    have h2 := h k (by omega)
    unfold sumN at hs
    by_cases hjk : j = k
    · rw [hjk]; omega
    · exact sumN_zero (k := k) (fun j hj => h j (by omega)) (by omega) j (by omega)
theorem sumN_le {g h : Nat → Int} : ∀ {k}, (∀ j, j < k → g j ≤ h j) → sumN g k ≤ sumN h k
  | 0, _ => Int.le_refl _
  | k + 1, hh => by
    have := sumN_le (k := k) (fun j hj => hh j (by omega))
    have := hh k (by omega)
    unfold sumN; omega
theorem sumN_congr {g h : Nat → Int} : ∀ {k}, (∀ j, j < k → g j = h j) → sumN g k = sumN h k
  | 0, _ => rfl
  | k + 1, hh => by unfold sumN; rw [sumN_congr (k := k) (fun j hj => hh j (by omega)), hh k (by omega)]
theorem sumN_add (g h : Nat → Int) : ∀ k, sumN (fun j => g j + h j) k = sumN g k + sumN h k
  | 0 => rfl
  | k + 1 => by have := sumN_add g h k; unfold sumN; omega

/-- How many elements a set has. -/
def cnt (s N : Nat) : Int := wt (fun _ => 1) s N
theorem cnt_le (s : Nat) : ∀ N, cnt s N ≤ N
  | 0 => Int.le_refl _
  | N + 1 => by
    have := cnt_le s N
    unfold cnt at *
    unfold wt
    cases s.testBit N <;> simp <;> omega
theorem cnt_all {s : Nat} : ∀ {N}, cnt s N = N → ∀ k, k < N → s.testBit k = true
  | 0, _, k, hk => by omega
  | N + 1, h, k, hk => by
    have h1 := cnt_le s N
    unfold cnt at h h1
    unfold wt at h
    cases hs : s.testBit N
    · rw [hs] at h; simp at h; omega
    · rw [hs] at h; simp at h
      by_cases hkN : k = N
      · rw [hkN]; exact hs
      · exact cnt_all (N := N) (by unfold cnt; omega) k (by omega)
theorem full_of {s N : Nat} (hs : s < 2 ^ N) (h : ∀ k, k < N → s.testBit k = true) : s = 2 ^ N - 1 := by
  apply Nat.eq_of_testBit_eq; intro i
  rw [Nat.testBit_two_pow_sub_one]
  by_cases hi : i < N
  · simp [hi, h i hi]
  · cases hb : s.testBit i
    · simp [hi]
    · exact absurd (bit_lt hs hb) hi

/-- An order of the elements, with the sets of those before. -/
structure Ord (N : Nat) (o S : Nat → Nat) : Prop where
  s0 : S 0 = 0
  succ : ∀ i, i < N → S (i + 1) = S i ||| 2 ^ o i
  lt : ∀ i, i < N → o i < N
  fresh : ∀ i, i < N → (S i).testBit (o i) = false
section
variable {N : Nat} {o S : Nat → Nat}
theorem Ord.set_lt (h : Ord N o S) : ∀ {i}, i ≤ N → S i < 2 ^ N
  | 0, _ => by rw [h.s0]; exact Nat.two_pow_pos N
  | i + 1, hi => by rw [h.succ i (by omega)]; exact ins_lt (h.set_lt (by omega)) (h.lt i (by omega))
theorem Ord.sum (h : Ord N o S) (x : Nat → Int) {i : Nat} (hi : i < N) : wt x (S (i + 1)) N = wt x (S i) N + x (o i) := by
  rw [h.succ i hi]; exact wt_ins x (h.lt i hi) (h.fresh i hi)
theorem Ord.cnt (h : Ord N o S) : ∀ {i : Nat}, i ≤ N → cnt (S i) N = i
  | 0, _ => by rw [h.s0]; exact wt_zero _ _
  | i + 1, hi => by
    have := h.cnt (i := i) (by omega)
    unfold M.cnt at *
    rw [h.sum _ (by omega)]; omega
theorem Ord.full (h : Ord N o S) : S N = 2 ^ N - 1 := full_of (h.set_lt (Nat.le_refl _)) (cnt_all (h.cnt (Nat.le_refl _)))
theorem Ord.part (h : Ord N o S) {i : Nat} : ∀ {j}, i ≤ j → j ≤ N → Part (S i) (S j)
  | 0, hij, _ => by obtain rfl : i = 0 := by omega
                    exact Part.refl _
  | j + 1, hij, hj => by
    by_cases he : i = j + 1
    · rw [he]; exact Part.refl _
    · rw [h.succ j (by omega)]
      exact (h.part (j := j) (by omega) (by omega)).trans (part_or_left _ _)
/-- Every element comes once. -/
theorem Ord.onto (h : Ord N o S) {e : Nat} (he : e < N) : ∃ i, i < N ∧ o i = e := by
  have key : ∀ j, j ≤ N → (S j).testBit e = true → ∃ i, i < j ∧ o i = e := by
    intro j
    induction j with
    | zero => intro _ hb; rw [h.s0] at hb; simp at hb
    | succ j ih =>
      intro hj hb
      rw [h.succ j (by omega), ins_bit] at hb
      by_cases ho : o j = e
      · exact ⟨j, by omega, ho⟩
      · simp [ho] at hb
        obtain ⟨i, hi, hoi⟩ := ih (by omega) hb
        exact ⟨i, by omega, hoi⟩
  have := key N (Nat.le_refl _) (by rw [h.full, Nat.testBit_two_pow_sub_one]; simpa using he)
  exact this

/-- c is what the elements add in the order. -/
def Corn (f : Nat → Int) (N : Nat) (o S : Nat → Nat) (c : Nat → Int) : Prop := ∀ i, i < N → c (o i) = f (S (i + 1)) - f (S i)
variable {f : Nat → Int} {c d : Nat → Int}
theorem Ord.tight (h : Ord N o S) (hc : Corn f N o S c) (f0 : f 0 = 0) : ∀ {i}, i ≤ N → wt c (S i) N = f (S i)
  | 0, _ => by rw [h.s0, wt_zero, f0]
  | i + 1, hi => by rw [h.sum c (by omega), h.tight hc f0 (i := i) (by omega), hc i (by omega)]; omega
/-- The corners of a submodular function lie below it. -/
theorem Ord.below (h : Ord N o S) (hc : Corn f N o S c) (f0 : f 0 = 0) (hf : Smod f N) {s : Nat} (hs : s < 2 ^ N) : wt c s N ≤ f s := by
  have key : ∀ i, i ≤ N → wt c (s &&& S i) N ≤ f (s &&& S i) := by
    intro i
    induction i with
    | zero => intro _; rw [h.s0, Nat.and_zero, wt_zero, f0]; exact Int.le_refl _
    | succ i ih =>
      intro hi
      have ih := ih (by omega)
      rw [h.succ i (by omega)]
      have hfr := h.fresh i (by omega)
      cases hb : s.testBit (o i)
      · have e : s &&& (S i ||| 2 ^ o i) = s &&& S i := by
          rw [Nat.and_or_distrib_left, and_one_out hb, Nat.or_zero]
        rw [e]; exact ih
      · have e : s &&& (S i ||| 2 ^ o i) = (s &&& S i) ||| 2 ^ o i := by
          rw [Nat.and_or_distrib_left]
          congr 1
          apply Nat.eq_of_testBit_eq; intro j
          rw [Nat.testBit_and, Nat.testBit_two_pow]
          by_cases hj : o i = j
          · subst hj; simp [hb]
          · simp [hj]
        rw [e, wt_ins c (h.lt i (by omega)) (by rw [Nat.testBit_and, hfr, Bool.and_false]), hc i (by omega), h.succ i (by omega)]
        have := hf.dr (s := s &&& S i) (t := S i) (k := o i) (h.set_lt (by omega)) (part_and_right _ _) (h.lt i (by omega)) hfr
        omega
  have h1 := key N (Nat.le_refl _)
  rw [h.full, (part_full hs).and_eq] at h1
  exact h1

/-- The sums' difference, step by step. -/
theorem Ord.abel (h : Ord N o S) (hc : Corn f N o S c) (f0 : f 0 = 0) (x : Nat → Int) (d : Nat → Int) : ∀ {i}, i < N →
    wt (fun k => x k * (c k - d k)) (S (i + 1)) N = sumN (fun j => (x (o j) - x (o (j + 1))) * (f (S (j + 1)) - wt d (S (j + 1)) N)) i + x (o i) * (f (S (i + 1)) - wt d (S (i + 1)) N)
  | 0, hi => by
    have h1 := hc 0 hi
    have h2 := h.sum d hi
    rw [h.sum _ hi, h1, h2]
    rw [h.s0, wt_zero, wt_zero, f0]
    simp [sumN]
  | i + 1, hi => by
    rw [h.sum _ hi, h.abel hc f0 x d (i := i) (by omega), hc (i + 1) hi, h.sum d hi]
    rw [sumN]
    grind
end
end Go.Proofs.Ytokeejachclpeaa.M
namespace Go.Proofs.Ytokeejachclpeaa.M

theorem wt_full (g : Nat → Int) : ∀ N, wt g (2 ^ N - 1) N = sumN g N := by
  have key : ∀ M N, N ≤ M → wt g (2 ^ M - 1) N = sumN g N := by
    intro M N
    induction N with
    | zero => intro _; rfl
    | succ N ih =>
      intro h
      unfold wt sumN
      rw [ih (by omega), Nat.testBit_two_pow_sub_one]
      have : N < M := by omega
      simp [this]
  intro N; exact key N N (Nat.le_refl _)
theorem sumN_sub (g h : Nat → Int) : ∀ k, sumN (fun j => g j - h j) k = sumN g k - sumN h k
  | 0 => rfl
  | k + 1 => by have := sumN_sub g h k; unfold sumN; omega
/-- The pairing of two vectors. -/
def dot (x c : Nat → Int) (N : Nat) : Int := sumN (fun k => x k * c k) N

section
variable {N : Nat} {o S : Nat → Nat} {f : Nat → Int} {c d x : Nat → Int}
theorem mul_nonneg' {a b : Int} (ha : 0 ≤ a) (hb : 0 ≤ b) : 0 ≤ a * b := Int.mul_nonneg ha hb
/-- How far the corner's pairing is above another base's. -/
theorem Ord.gap (h : Ord N o S) (hc : Corn f N o S c) (f0 : f 0 = 0) (hd : wt d (2 ^ N - 1) N = f (2 ^ N - 1)) :
    dot x c N - dot x d N = sumN (fun j => (x (o j) - x (o (j + 1))) * (f (S (j + 1)) - wt d (S (j + 1)) N)) (N - 1) := by
  have e : dot x c N - dot x d N = wt (fun k => x k * (c k - d k)) (2 ^ N - 1) N := by
    rw [wt_full]; unfold dot; rw [← sumN_sub]
    apply sumN_congr; intro j _; rw [Int.mul_sub]
  rw [e]
  cases N with
  | zero => rfl
  | succ M =>
    have h1 := h.abel hc f0 x d (i := M) (by omega)
    have hS := h.full
    rw [hS, hd] at h1
    rw [h1]
    simp
/-- The corner of an order that descends is the best. -/
theorem Ord.edmonds (h : Ord N o S) (hc : Corn f N o S c) (f0 : f 0 = 0) (hx : ∀ i, i + 1 < N → x (o (i + 1)) ≤ x (o i)) (hb : ∀ s, s < 2 ^ N → wt d s N ≤ f s) (hd : wt d (2 ^ N - 1) N = f (2 ^ N - 1)) : dot x d N ≤ dot x c N := by
  have h1 := h.gap (x := x) hc f0 hd
  have h2 : 0 ≤ sumN (fun j => (x (o j) - x (o (j + 1))) * (f (S (j + 1)) - wt d (S (j + 1)) N)) (N - 1) := by
    apply sumN_nonneg
    intro j hj
    apply Int.mul_nonneg
    · have := hx j (by omega); omega
    · have := hb (S (j + 1)) (h.set_lt (by omega)); omega
  omega
/-- Another base is as good exactly if the sets at which the order steps down are tight. -/
theorem Ord.best (h : Ord N o S) (hc : Corn f N o S c) (f0 : f 0 = 0) (hx : ∀ i, i + 1 < N → x (o (i + 1)) ≤ x (o i)) (hb : ∀ s, s < 2 ^ N → wt d s N ≤ f s) (hd : wt d (2 ^ N - 1) N = f (2 ^ N - 1)) :
    dot x d N = dot x c N ↔ ∀ i, i + 1 < N → x (o (i + 1)) < x (o i) → wt d (S (i + 1)) N = f (S (i + 1)) := by
  have h1 := h.gap (x := x) hc f0 hd
  have h2 : ∀ j, j < N - 1 → 0 ≤ (x (o j) - x (o (j + 1))) * (f (S (j + 1)) - wt d (S (j + 1)) N) := by
    intro j hj
    apply Int.mul_nonneg
    · have := hx j (by omega); omega
    · have := hb (S (j + 1)) (h.set_lt (by omega)); omega
  constructor
  · intro he i hi hlt
    have := sumN_zero h2 (by omega) i (by omega)
    rcases Int.mul_eq_zero.1 this with h3 | h3
    · omega
    · omega
  · intro ht
    have : sumN (fun j => (x (o j) - x (o (j + 1))) * (f (S (j + 1)) - wt d (S (j + 1)) N)) (N - 1) = sumN (fun _ => 0) (N - 1) := by
      apply sumN_congr
      intro j hj
      by_cases hlt : x (o (j + 1)) < x (o j)
      · rw [ht j (by omega) hlt]; simp
      · have : x (o j) - x (o (j + 1)) = 0 := by have := hx j (by omega); omega
        rw [this]; simp
    have e0 : ∀ k, sumN (fun _ => 0) k = 0 := by
      intro k; induction k with
      | zero => rfl
      | succ k ih => unfold sumN; omega
    rw [e0] at this
    omega

/-- The elements with at least t. -/
def lev (x : Nat → Int) (t : Int) : Nat → Nat
  | 0 => 0
  | k + 1 => if t ≤ x k then lev x t k ||| 2 ^ k else lev x t k
theorem lev_bit (x : Nat → Int) (t : Int) (k : Nat) : ∀ N, (lev x t N).testBit k = (decide (k < N) && decide (t ≤ x k))
  | 0 => by simp [lev]
  | N + 1 => by
    unfold lev
    by_cases h : t ≤ x N
    · rw [if_pos h, ins_bit, lev_bit x t k N]
      by_cases h1 : N = k
      · subst h1; simp [h]
      · by_cases h2 : k < N
        · have : k < N + 1 := by omega
          simp [h1, h2, this]
        · have : ¬ k < N + 1 := by omega
          simp [h1, h2, this]
    · rw [if_neg h, lev_bit x t k N]
      by_cases h1 : N = k
      · subst h1; simp [h]
      · by_cases h2 : k < N
        · have : k < N + 1 := by omega
          simp [h2, this]
        · have : ¬ k < N + 1 := by omega
          simp [h2, this]
theorem lev_lt (x : Nat → Int) (t : Int) (N : Nat) : lev x t N < 2 ^ N := by
  apply Nat.lt_pow_two_of_testBit
  intro i hi
  rw [lev_bit]
  have : ¬ i < N := by omega
  simp [this]
theorem lev_min (x y : Nat → Int) (t : Int) (N : Nat) : lev (fun k => min (x k) (y k)) t N = lev x t N &&& lev y t N := by
  apply Nat.eq_of_testBit_eq; intro k
  rw [Nat.testBit_and, lev_bit, lev_bit, lev_bit]
  by_cases hk : k < N
  · by_cases h1 : t ≤ x k <;> by_cases h2 : t ≤ y k <;> simp [hk, h1, h2] <;> omega
  · simp [hk]
theorem lev_max (x y : Nat → Int) (t : Int) (N : Nat) : lev (fun k => max (x k) (y k)) t N = lev x t N ||| lev y t N := by
  apply Nat.eq_of_testBit_eq; intro k
  rw [Nat.testBit_or, lev_bit, lev_bit, lev_bit]
  by_cases hk : k < N
  · by_cases h1 : t ≤ x k <;> by_cases h2 : t ≤ y k <;> simp [hk, h1, h2] <;> omega
  · simp [hk]
theorem sum_step (X G T : Int) : ∀ n : Nat, sumN (fun j => if -T + 1 + (j : Int) ≤ X then G else 0) n = (if X + T ≤ 0 then 0 else if X + T ≤ n then X + T else n) * G
  | 0 => by
    have : (if X + T ≤ 0 then 0 else if X + T ≤ ((0 : Nat) : Int) then X + T else ((0 : Nat) : Int)) = 0 := by split <;> (try split) <;> omega
    rw [this]; simp [sumN]
  | n + 1 => by
    have ih := sum_step X G T n
    unfold sumN
    rw [ih]
    by_cases h1 : X + T ≤ 0
    · have : ¬ -T + 1 + (n : Int) ≤ X := by omega
      simp [h1, this]
    · by_cases h2 : X + T ≤ n
      · have h3 : ¬ -T + 1 + (n : Int) ≤ X := by omega
        have h4 : X + T ≤ ((n + 1 : Nat) : Int) := by omega
        rw [if_neg h1, if_neg h3, if_pos h2, if_neg h1, if_pos h4, Int.add_zero]
      · have h3 : -T + 1 + (n : Int) ≤ X := by omega
        rw [if_neg h1, if_neg h2, if_pos h3, if_neg h1]
        have e : (if X + T ≤ ((n + 1 : Nat) : Int) then X + T else ((n + 1 : Nat) : Int)) = (n : Int) + 1 := by split <;> omega
        rw [e]; grind
/-- The sum over the levels. -/
theorem Ord.levels (h : Ord N o S) (hx : ∀ i, i + 1 < N → x (o (i + 1)) ≤ x (o i)) (T : Nat) (hT : ∀ k, k < N → -(T : Int) ≤ x k ∧ x k ≤ T) :
    sumN (fun j => f (lev x (-(T : Int) + 1 + j) N) - f 0) (2 * T) = sumN (fun i => (x (o i) + T) * (f (S (i + 1)) - f (S i))) N := by
  have hle : ∀ i, i < N → ∀ j, j ≤ i → x (o i) ≤ x (o j) := by
    intro i
    induction i with
    | zero => intro _ j hj; obtain rfl : j = 0 := by omega
              exact Int.le_refl _
    | succ i ih =>
      intro hi j hj
      by_cases he : j = i + 1
      · rw [he]; exact Int.le_refl _
      · exact Int.le_trans (hx i hi) (ih (by omega) j (by omega))
  have hin : ∀ t i, i < N → t ≤ x (o i) → ∀ m, m ≤ i + 1 → S m &&& lev x t N = S m := by
    intro t i hi ht m
    induction m with
    | zero => intro _; rw [h.s0, Nat.zero_and]
    | succ m ih =>
      intro hm
      rw [h.succ m (by omega), Nat.and_comm, Nat.and_or_distrib_left, Nat.and_comm, ih (by omega)]
      congr 1
      apply Nat.eq_of_testBit_eq; intro k
      rw [Nat.testBit_and, Nat.testBit_two_pow, lev_bit]
      by_cases hk : o m = k
      · subst hk
        have := h.lt m (by omega)
        have := hle i hi m (by omega)
        have h3 : t ≤ x (o m) := by omega
        simp [*]
      · simp [hk]
  have hstep : ∀ t i, i < N → f (S (i + 1) &&& lev x t N) - f (S i &&& lev x t N) = if t ≤ x (o i) then f (S (i + 1)) - f (S i) else 0 := by
    intro t i hi
    by_cases ht : t ≤ x (o i)
    · rw [if_pos ht, hin t i hi ht (i + 1) (Nat.le_refl _), hin t i hi ht i (by omega)]
    · rw [if_neg ht]
      have e : S (i + 1) &&& lev x t N = S i &&& lev x t N := by
        rw [h.succ i hi, Nat.and_comm, Nat.and_or_distrib_left, and_one_out (by rw [lev_bit]; simp [ht]), Nat.or_zero, Nat.and_comm]
      rw [e]; omega
  have key : ∀ i, i ≤ N → sumN (fun j => f (S i &&& lev x (-(T : Int) + 1 + j) N) - f 0) (2 * T) = sumN (fun i => (x (o i) + T) * (f (S (i + 1)) - f (S i))) i := by
    intro i
    induction i with
    | zero =>
      intro _
      have : ∀ k, sumN (fun j => f (S 0 &&& lev x (-(T : Int) + 1 + (j : Int)) N) - f 0) k = 0 := by
        intro k
        induction k with
        | zero => rfl
        | succ k ih => unfold sumN; rw [ih, h.s0, Nat.zero_and]; omega
      rw [this]; rfl
    | succ i ih =>
      intro hi
      rw [sumN, ← ih (by omega)]
      have e : sumN (fun j : Nat => if -(T : Int) + 1 + (j : Int) ≤ x (o i) then f (S (i + 1)) - f (S i) else 0) (2 * T) = (x (o i) + T) * (f (S (i + 1)) - f (S i)) := by
        rw [sum_step]
        have h1 := hT (o i) (h.lt i (by omega))
        by_cases h2 : x (o i) + T ≤ 0
        · rw [if_pos h2]
          have : x (o i) + T = 0 := by omega
          rw [this]
        · rw [if_neg h2, if_pos (by omega)]
      rw [← e, ← sumN_add]
      apply sumN_congr
      intro j _
      have := hstep (-(T : Int) + 1 + j) i (by omega)
      omega
  rw [← key N (Nat.le_refl _)]
  apply sumN_congr
  intro j _
  rw [h.full, Nat.and_comm, (part_full (lev_lt _ _ _)).and_eq]
end
end Go.Proofs.Ytokeejachclpeaa.M
namespace Go.Proofs.Ytokeejachclpeaa.M
section
variable {N : Nat} {o S : Nat → Nat} {f : Nat → Int} {c d x y : Nat → Int}
theorem Ord.perm (h : Ord N o S) (g : Nat → Int) : sumN (fun i => g (o i)) N = sumN g N := by
  have key : ∀ i, i ≤ N → sumN (fun i => g (o i)) i = wt g (S i) N := by
    intro i
    induction i with
    | zero => intro _; rw [h.s0, wt_zero]; rfl
    | succ i ih => intro hi; rw [sumN, ih (by omega), h.sum g (by omega)]
  rw [key N (Nat.le_refl _), h.full, wt_full]
theorem Smod.low (h : Smod f N) : Smod (fun s => f s - f 0) N := fun s i k hs hi hk hik h1 h2 => by
  have := h s i k hs hi hk hik h1 h2
  show (f _ - f 0) + (f _ - f 0) ≤ (f _ - f 0) + (f _ - f 0)
  omega
theorem Corn.low (h : Corn f N o S c) : Corn (fun s => f s - f 0) N o S c := fun i hi => by
  rw [h i hi]
  show f _ - f _ = (f _ - f 0) - (f _ - f 0)
  omega
theorem dot_add (x y c : Nat → Int) (N : Nat) : dot (fun k => x k + y k) c N = dot x c N + dot y c N := by
  unfold dot; rw [← sumN_add]; apply sumN_congr; intro j _; rw [Int.add_mul]
theorem dot_congr {x y c d : Nat → Int} {N : Nat} (h : ∀ k, k < N → x k = y k) (h2 : ∀ k, k < N → c k = d k) : dot x c N = dot y d N := sumN_congr fun k hk => by rw [h k hk, h2 k hk]
theorem dot_neg (x c : Nat → Int) : ∀ N, dot (fun k => - x k) c N = - dot x c N
  | 0 => rfl
  | N + 1 => by
    have h := dot_neg x c N
    unfold dot at *
    unfold sumN
    rw [h, Int.neg_mul]; omega

/-- The corner of any order pairs at most as well as that of a descending one. -/
theorem Smod.greatest (hf : Smod f N) {o' S' : Nat → Nat} {c' : Nat → Int} (h : Ord N o S) (hc : Corn f N o S c) (h' : Ord N o' S') (hc' : Corn f N o' S' c') (hx : ∀ i, i + 1 < N → x (o (i + 1)) ≤ x (o i)) : dot x c' N ≤ dot x c N := by
  refine h.edmonds hc.low (by show f 0 - f 0 = 0; omega) hx (fun s hs => h'.below hc'.low (by show f 0 - f 0 = 0; omega) hf.low hs) ?_
  have := h'.tight hc'.low (by show f 0 - f 0 = 0; omega) (Nat.le_refl N)
  rw [h'.full] at this
  exact this
theorem Smod.convex (hf : Smod f N) {ox Sx oy Sy oz Sz : Nat → Nat} {cx cy cz : Nat → Int} (h1 : Ord N ox Sx) (c1 : Corn f N ox Sx cx) (d1 : ∀ i, i + 1 < N → x (ox (i + 1)) ≤ x (ox i))
    (h2 : Ord N oy Sy) (c2 : Corn f N oy Sy cy) (d2 : ∀ i, i + 1 < N → y (oy (i + 1)) ≤ y (oy i)) (h3 : Ord N oz Sz) (c3 : Corn f N oz Sz cz) :
    dot (fun k => x k + y k) cz N ≤ dot x cx N + dot y cy N := by
  rw [dot_add]
  have := hf.greatest h1 c1 h3 c3 d1
  have := hf.greatest h2 c2 h3 c3 d2
  omega
/-- The sum over the levels is the extension. -/
theorem Ord.lev_dot (h : Ord N o S) (hc : Corn f N o S c) (hx : ∀ i, i + 1 < N → x (o (i + 1)) ≤ x (o i)) (T : Nat) (hT : ∀ k, k < N → -(T : Int) ≤ x k ∧ x k ≤ T) :
    sumN (fun j => f (lev x (-(T : Int) + 1 + j) N) - f 0) (2 * T) = dot x c N + T * (f (2 ^ N - 1) - f 0) := by
  rw [h.levels hx T hT]
  have e1 : dot x c N = sumN (fun i => x (o i) * (f (S (i + 1)) - f (S i))) N := by
    unfold dot
    rw [← h.perm]
    apply sumN_congr
    intro i hi
    rw [hc i hi]
  have e2 : ∀ i, i ≤ N → sumN (fun i => (T : Int) * (f (S (i + 1)) - f (S i))) i = T * (f (S i) - f 0) := by
    intro i
    induction i with
    | zero => intro _; rw [h.s0]; simp [sumN]
    | succ i ih => intro hi; rw [sumN, ih (by omega)]; grind
  have e3 := e2 N (Nat.le_refl _)
  rw [h.full] at e3
  rw [e1, ← e3, ← sumN_add]
  apply sumN_congr
  intro i _
  rw [Int.add_mul]
theorem Smod.lattice (hf : Smod f N) {ox Sx oy Sy ou Su ov Sv : Nat → Nat} {cx cy cu cv : Nat → Int} {u v : Nat → Int} (h1 : Ord N ox Sx) (c1 : Corn f N ox Sx cx) (d1 : ∀ i, i + 1 < N → x (ox (i + 1)) ≤ x (ox i))
    (h2 : Ord N oy Sy) (c2 : Corn f N oy Sy cy) (d2 : ∀ i, i + 1 < N → y (oy (i + 1)) ≤ y (oy i)) (h3 : Ord N ou Su) (c3 : Corn f N ou Su cu) (d3 : ∀ i, i + 1 < N → u (ou (i + 1)) ≤ u (ou i))
    (h4 : Ord N ov Sv) (c4 : Corn f N ov Sv cv) (d4 : ∀ i, i + 1 < N → v (ov (i + 1)) ≤ v (ov i)) (hu : ∀ k, k < N → u k = min (x k) (y k)) (hv : ∀ k, k < N → v k = max (x k) (y k))
    (T : Nat) (hT : ∀ k, k < N → -(T : Int) ≤ x k ∧ x k ≤ T) (hT2 : ∀ k, k < N → -(T : Int) ≤ y k ∧ y k ≤ T) : dot u cu N + dot v cv N ≤ dot x cx N + dot y cy N := by
  have q1 := h1.lev_dot c1 d1 T hT
  have q2 := h2.lev_dot c2 d2 T hT2
  have q3 := h3.lev_dot c3 d3 T (fun k hk => by rw [hu k hk]; have := hT k hk; have := hT2 k hk; omega)
  have q4 := h4.lev_dot c4 d4 T (fun k hk => by rw [hv k hk]; have := hT k hk; have := hT2 k hk; omega)
  have hl : sumN (fun j => f (lev u (-(T : Int) + 1 + j) N) - f 0) (2 * T) + sumN (fun j => f (lev v (-(T : Int) + 1 + j) N) - f 0) (2 * T) ≤ sumN (fun j => f (lev x (-(T : Int) + 1 + j) N) - f 0) (2 * T) + sumN (fun j => f (lev y (-(T : Int) + 1 + j) N) - f 0) (2 * T) := by
    rw [← sumN_add, ← sumN_add]
    apply sumN_le
    intro j _
    have e1 : ∀ t, lev u t N = lev x t N &&& lev y t N := by
      intro t; rw [← lev_min]
      apply Nat.eq_of_testBit_eq; intro k
      rw [lev_bit, lev_bit]
      by_cases hk : k < N
      · rw [hu k hk]
      · simp [hk]
    have e2 : ∀ t, lev v t N = lev x t N ||| lev y t N := by
      intro t; rw [← lev_max]
      apply Nat.eq_of_testBit_eq; intro k
      rw [lev_bit, lev_bit]
      by_cases hk : k < N
      · rw [hv k hk]
      · simp [hk]
    rw [e1, e2]
    have := hf.two (lev_lt x (-(T : Int) + 1 + j) N) (lev_lt y (-(T : Int) + 1 + j) N)
    omega
  omega
/-- The extension at a set's indicator. -/
theorem Ord.indicator (h : Ord N o S) (hc : Corn f N o S c) (hx : ∀ i, i + 1 < N → x (o (i + 1)) ≤ x (o i)) {s : Nat} (hs : s < 2 ^ N) (hi : ∀ k, k < N → x k = if s.testBit k then 1 else 0) : f 0 + dot x c N = f s := by
  have q := h.lev_dot hc hx 1 (fun k hk => by rw [hi k hk]; split <;> omega)
  have e0 : lev x (-((1 : Nat) : Int) + 1 + ((0 : Nat) : Int)) N = 2 ^ N - 1 := by
    apply Nat.eq_of_testBit_eq; intro k
    rw [lev_bit, Nat.testBit_two_pow_sub_one]
    by_cases hk : k < N
    · rw [hi k hk]; cases s.testBit k <;> simp [hk]
    · simp [hk]
  have e1 : lev x (-((1 : Nat) : Int) + 1 + ((1 : Nat) : Int)) N = s := by
    apply Nat.eq_of_testBit_eq; intro k
    rw [lev_bit]
    by_cases hk : k < N
    · rw [hi k hk]; cases s.testBit k <;> simp [hk]
    · cases hb : s.testBit k
      · simp [hk]
      · exact absurd (bit_lt hs hb) hk
  simp only [sumN] at q
  rw [e0, e1] at q
  omega
end
end Go.Proofs.Ytokeejachclpeaa.M
namespace Go.Proofs.Ytokeejachclpeaa.M
section
variable {N : Nat} {f : Nat → Int} {y : Nat → Int}
/-- Sets with the least value are closed under union and intersection. -/
theorem Smod.closed (h : Smod f N) {m : Int} (hm : ∀ s, s < 2 ^ N → m ≤ f s) {a b : Nat} (ha : a < 2 ^ N) (hb : b < 2 ^ N) (fa : f a = m) (fb : f b = m) : f (a ||| b) = m ∧ f (a &&& b) = m := by
  have h1 := h.two ha hb
  have h2 := hm (a ||| b) (Nat.or_lt_two_pow ha hb)
  have h3 := hm (a &&& b) (Nat.and_lt_two_pow _ hb)
  omega
theorem Smod.less (h : Smod f N) (y : Nat → Int) : Smod (fun s => f s - wt y s N) N := fun s i k hs hi hk hik h1 h2 => by
  have h3 := h s i k hs hi hk hik h1 h2
  have h4 : (s ||| 2 ^ i).testBit k = false := by rw [ins_bit, h2]; simp [hik]
  show (f _ - wt y _ N) + (f _ - wt y _ N) ≤ (f _ - wt y _ N) + (f _ - wt y _ N)
  rw [wt_ins y hk h4, wt_ins y hi h1, wt_ins y hk h2]
  omega
theorem Smod.tight (h : Smod f N) (hb : ∀ s, s < 2 ^ N → wt y s N ≤ f s) {a b : Nat} (ha : a < 2 ^ N) (hb' : b < 2 ^ N) (fa : wt y a N = f a) (fb : wt y b N = f b) : wt y (a ||| b) N = f (a ||| b) ∧ wt y (a &&& b) N = f (a &&& b) := by
  have := (h.less y).closed (m := 0) (fun s hs => by have := hb s hs; show 0 ≤ f s - wt y s N; omega) ha hb' (by show f a - wt y a N = 0; omega) (by show f b - wt y b N = 0; omega)
  have h1 : f (a ||| b) - wt y (a ||| b) N = 0 := this.1
  have h2 : f (a &&& b) - wt y (a &&& b) N = 0 := this.2
  omega
theorem wt_others {x : Nat → Int} {s t : Nat} : ∀ {N}, (∀ k, k < N → s.testBit k = t.testBit k ∨ x k = 0) → wt x s N = wt x t N
  | 0, _ => rfl
  | N + 1, h => by
    have h1 := wt_others (N := N) (fun k hk => h k (by omega))
    unfold wt
    rw [h1]
    rcases h N (by omega) with h2 | h2
    · rw [h2]
    · rw [h2]; simp
/-- A vector of numbers up to 0 below f, each 0 or in a tight set, weighs as much as the least value. -/
theorem Smod.dual (h : Smod f N) (f0 : f 0 = 0) (hb : ∀ s, s < 2 ^ N → wt y s N ≤ f s) (h0 : ∀ e, e < N → y e ≤ 0) (ht : ∀ e, e < N → y e = 0 ∨ ∃ T, T < 2 ^ N ∧ T.testBit e = true ∧ wt y T N = f T) :
    (∃ U, U < 2 ^ N ∧ wt y (2 ^ N - 1) N = f U) ∧ ∀ s, s < 2 ^ N → wt y (2 ^ N - 1) N ≤ f s := by
  have key : ∀ k, k ≤ N → ∃ U, U < 2 ^ N ∧ wt y U N = f U ∧ ∀ e, e < k → U.testBit e = true ∨ y e = 0 := by
    intro k
    induction k with
    | zero => intro _; exact ⟨0, Nat.two_pow_pos N, by rw [wt_zero, f0], fun e he => by omega⟩
    | succ k ih =>
      intro hk
      obtain ⟨U, hU, hU2, hU3⟩ := ih (by omega)
      rcases ht k (by omega) with h1 | ⟨T, hT, hT2, hT3⟩
      · exact ⟨U, hU, hU2, fun e he => by
          by_cases hek : e = k
          · rw [hek]; exact .inr h1
          · exact hU3 e (by omega)⟩
      · refine ⟨U ||| T, Nat.or_lt_two_pow hU hT, (h.tight hb hU hT hU2 hT3).1, fun e he => ?_⟩
        rw [Nat.testBit_or]
        by_cases hek : e = k
        · rw [hek, hT2]; simp
        · rcases hU3 e (by omega) with h2 | h2
          · rw [h2]; simp
          · exact .inr h2
  refine ⟨?_, fun s hs => ?_⟩
  · obtain ⟨U, hU, hU2, hU3⟩ := key N (Nat.le_refl _)
    refine ⟨U, hU, ?_⟩
    rw [← hU2]
    apply wt_others
    intro k hk
    rcases hU3 k hk with h2 | h2
    · left; rw [h2, Nat.testBit_two_pow_sub_one]; simp [hk]
    · exact .inr h2
  · refine Int.le_trans ?_ (hb s hs)
    -- the others weigh at most 0
    have h1 := wt_part (x := fun k => - y k) (part_full hs) (N := N) (fun k hk _ _ => by have := h0 k hk; omega)
    rw [wt_neg, wt_neg] at h1
    omega

/-- One number changed. -/
def upd (x : Nat → Int) (e : Nat) (u : Int) : Nat → Int := fun k => if k = e then u else x k
theorem wt_upd (x : Nat → Int) (e : Nat) (u : Int) (s : Nat) : ∀ N, wt (upd x e u) s N = wt x s N + if e < N ∧ s.testBit e = true then u - x e else 0
  | 0 => by simp [wt]
  | N + 1 => by
    have := wt_upd x e u s N
    unfold wt
    rw [this]
    by_cases he : N = e
    · subst he
      cases hs : s.testBit N <;> simp [upd] <;> omega
    · by_cases h2 : e < N
      · have h3 : e < N + 1 := by omega
        simp only [h2, h3, true_and, upd, if_neg he]
        omega
      · have h3 : ¬ e < N + 1 := by omega
        simp only [h2, h3, false_and, upd, if_neg he]
        omega
/-- A number raised by no more than the least lack of the sets with it: still below. -/
theorem below_upd {e : Nat} {u : Int} (hb : ∀ s, s < 2 ^ N → wt y s N ≤ f s) (hu : ∀ s, s < 2 ^ N → s.testBit e = true → u - y e ≤ f s - wt y s N) : ∀ s, s < 2 ^ N → wt (upd y e u) s N ≤ f s := by
  intro s hs
  rw [wt_upd]
  have h1 := hb s hs
  split
  · rename_i h; have := hu s hs h.2; omega
  · omega
end

section
variable {N : Nat} {f : Nat → Int}
/-- What a set adds is at most what its elements add. -/
theorem Smod.union (h : Smod f N) {a b : Nat} (ha : a < 2 ^ N) (hb : b < 2 ^ N) : f (a ||| b) - f a ≤ wt (fun e => f (a ||| 2 ^ e) - f a) b N := by
  have key : ∀ j, j ≤ N → f (a ||| b % 2 ^ j) - f a ≤ wt (fun e => f (a ||| 2 ^ e) - f a) (b % 2 ^ j) N := by
    intro j
    induction j with
    | zero => intro _; simp [Nat.mod_one, wt_zero]
    | succ j ih =>
      intro hj
      have ih := ih (by omega)
      cases hbj : b.testBit j
      · rw [mod_succ_out hbj]; exact ih
      · have e2 : wt (fun e => f (a ||| 2 ^ e) - f a) (b % 2 ^ (j + 1)) N = wt (fun e => f (a ||| 2 ^ e) - f a) (b % 2 ^ j) N + (f (a ||| 2 ^ j) - f a) := by
          rw [mod_succ_in hbj, wt_ins _ (by omega) (mod_bit_self b j)]
        rw [e2]
        cases haj : a.testBit j
        · rw [or_mod_succ_in hbj]
          have := h.dr (s := a) (t := a ||| b % 2 ^ j) (k := j) (Nat.or_lt_two_pow ha (mod_lt j hb)) (part_or_left _ _) (by omega) (by rw [Nat.testBit_or, haj, mod_bit_self]; rfl)
          omega
        · rw [or_mod_succ_out (by rw [Nat.testBit_or, haj, Bool.true_or]), ins_in haj]
          omega
  have := key N (Nat.le_refl _)
  rwa [Nat.mod_eq_of_lt hb] at this
theorem xor_bit (s i j : Nat) : (s ^^^ 2 ^ i).testBit j = (s.testBit j != decide (i = j)) := by rw [Nat.testBit_xor, Nat.testBit_two_pow]
theorem xor_lt {s i N : Nat} (hs : s < 2 ^ N) (hi : i < N) : s ^^^ 2 ^ i < 2 ^ N := Nat.xor_lt_two_pow hs (Nat.pow_lt_pow_right (by omega) hi)
theorem xor_ins {s i : Nat} (h : s.testBit i = true) : s ^^^ 2 ^ i ||| 2 ^ i = s := by
  apply Nat.eq_of_testBit_eq; intro j
  rw [ins_bit, xor_bit]
  by_cases hij : i = j
  · subst hij; simp [h]
  · simp [hij]
theorem xor_out {s i : Nat} (h : s.testBit i = false) : s ^^^ 2 ^ i = s ||| 2 ^ i := by
  apply Nat.eq_of_testBit_eq; intro j
  rw [ins_bit, xor_bit]
  by_cases hij : i = j
  · subst hij; simp [h]
  · simp [hij]
/-- What a set adds is at least what its elements add to the rest of a greater one. -/
theorem Smod.last (h : Smod f N) {a b U : Nat} (hU : U < 2 ^ N) (ha : Part a U) (hb : Part b U) : wt (fun e => if a.testBit e then 0 else f U - f (U ^^^ 2 ^ e)) b N ≤ f (a ||| b) - f a := by
  have ha' := part_lt ha hU
  have hb' := part_lt hb hU
  have key : ∀ j, j ≤ N → wt (fun e => if a.testBit e then 0 else f U - f (U ^^^ 2 ^ e)) (b % 2 ^ j) N ≤ f (a ||| b % 2 ^ j) - f a := by
    intro j
    induction j with
    | zero => intro _; simp [Nat.mod_one, wt_zero]
    | succ j ih =>
      intro hj
      have ih := ih (by omega)
      cases hbj : b.testBit j
      · rw [mod_succ_out hbj]; exact ih
      · have e2 : wt (fun e => if a.testBit e then 0 else f U - f (U ^^^ 2 ^ e)) (b % 2 ^ (j + 1)) N = wt (fun e => if a.testBit e then 0 else f U - f (U ^^^ 2 ^ e)) (b % 2 ^ j) N + (if a.testBit j then 0 else f U - f (U ^^^ 2 ^ j)) := by
          rw [mod_succ_in hbj, wt_ins _ (by omega) (mod_bit_self b j)]
        rw [e2]
        cases haj : a.testBit j
        · rw [or_mod_succ_in hbj]
          have hUj := hb j hbj
          have := h.dr (s := a ||| b % 2 ^ j) (t := U ^^^ 2 ^ j) (k := j) (xor_lt hU (by omega)) (fun i hi => by
            rw [Nat.testBit_or] at hi
            rw [xor_bit]
            by_cases hij : j = i
            · subst hij
              rw [haj, mod_bit_self] at hi; cases hi
            · have : U.testBit i = true := by
                cases hai : a.testBit i
                · rw [hai] at hi; exact hb i (part_mod b j i (by simpa using hi))
                · exact ha i hai
              simp [this, hij]) (by omega) (by rw [xor_bit, hUj]; simp)
          rw [xor_ins hUj] at this
          simp
          omega
        · rw [or_mod_succ_out (by rw [Nat.testBit_or, haj, Bool.true_or])]
          simp
          omega
  have := key N (Nat.le_refl _)
  rwa [Nat.mod_eq_of_lt hb'] at this

/-- A set that no change of one element makes better: neither union nor intersection with another is. -/
theorem Smod.local (h : Smod f N) {s t : Nat} (hs : s < 2 ^ N) (ht : t < 2 ^ N) (hl : ∀ e, e < N → f (s ^^^ 2 ^ e) ≤ f s) : f (s ||| t) ≤ f s ∧ f (s &&& t) ≤ f s := by
  constructor
  · have h1 := h.union hs ht
    have h2 : wt (fun e => f (s ||| 2 ^ e) - f s) t N ≤ wt (fun _ => 0) t N := by
      apply wt_mono
      intro k hk _
      have := hl k hk
      cases hb : s.testBit k
      · rw [← xor_out hb]; omega
      · rw [ins_in hb]; omega
    rw [wt_const_zero] at h2
    omega
  · have h1 := h.last (a := s &&& t) (b := s) hs (part_and_left _ _) (Part.refl _)
    rw [(part_and_left s t).or_eq] at h1
    have h2 : 0 ≤ wt (fun e => if (s &&& t).testBit e then 0 else f s - f (s ^^^ 2 ^ e)) s N := by
      apply wt_nonneg
      intro k hk _
      have := hl k hk
      cases hb : (s &&& t).testBit k <;> simp <;> omega
    omega
theorem and_comp {s c N : Nat} (hs : s < 2 ^ N) (hc : c < 2 ^ N) : (s ||| c) &&& ((2 ^ N - 1) ^^^ s) = c &&& ((2 ^ N - 1) ^^^ s) := by
  apply Nat.eq_of_testBit_eq; intro i
  rw [Nat.testBit_and, Nat.testBit_and, Nat.testBit_or, Nat.testBit_xor, Nat.testBit_two_pow_sub_one]
  by_cases hi : i < N
  · cases s.testBit i <;> cases c.testBit i <;> simp [hi]
  · have h1 : s.testBit i = false := by
      cases hb : s.testBit i
      · rfl
      · exact absurd (bit_lt hs hb) hi
    have h2 : c.testBit i = false := by
      cases hb : c.testBit i
      · rfl
      · exact absurd (bit_lt hc hb) hi
    simp [hi, h1, h2]
theorem or_comp {s c N : Nat} (hs : s < 2 ^ N) (hc : c < 2 ^ N) : (s ||| c) ||| ((2 ^ N - 1) ^^^ s) = 2 ^ N - 1 := by
  apply Nat.eq_of_testBit_eq; intro i
  rw [Nat.testBit_or, Nat.testBit_or, Nat.testBit_xor, Nat.testBit_two_pow_sub_one]
  by_cases hi : i < N
  · cases s.testBit i <;> cases c.testBit i <;> simp [hi]
  · have h1 : s.testBit i = false := by
      cases hb : s.testBit i
      · rfl
      · exact absurd (bit_lt hs hb) hi
    have h2 : c.testBit i = false := by
      cases hb : c.testBit i
      · rfl
      · exact absurd (bit_lt hc hb) hi
    simp [hi, h1, h2]
/-- Of a local maximum and its complement one reaches a third of every value, if no value is negative. -/
theorem Smod.third (h : Smod f N) {s c : Nat} (hs : s < 2 ^ N) (hc : c < 2 ^ N) (hp : ∀ t, t < 2 ^ N → 0 ≤ f t) (hl : ∀ e, e < N → f (s ^^^ 2 ^ e) ≤ f s) : f c ≤ 2 * f s + f ((2 ^ N - 1) ^^^ s) := by
  have hfull : 2 ^ N - 1 < 2 ^ N := by have := Nat.two_pow_pos N; omega
  have hx : (2 ^ N - 1) ^^^ s < 2 ^ N := Nat.xor_lt_two_pow hfull hs
  obtain ⟨h1, h2⟩ := h.local hs hc hl
  have h3 := h.two (Nat.or_lt_two_pow hs hc) hx
  rw [or_comp hs hc, and_comp hs hc] at h3
  have h4 := h.two (a := s &&& c) (b := c &&& ((2 ^ N - 1) ^^^ s)) (Nat.and_lt_two_pow _ hc) (Nat.and_lt_two_pow _ hx)
  have e1 : (s &&& c) ||| (c &&& ((2 ^ N - 1) ^^^ s)) = c := by
    apply Nat.eq_of_testBit_eq; intro i
    rw [Nat.testBit_or, Nat.testBit_and, Nat.testBit_and, Nat.testBit_xor, Nat.testBit_two_pow_sub_one]
    cases hb : c.testBit i
    · simp
    · have := bit_lt hc hb
      cases s.testBit i <;> simp [this]
  rw [e1] at h4
  have := hp (2 ^ N - 1) hfull
  have := hp ((s &&& c) &&& (c &&& ((2 ^ N - 1) ^^^ s))) (Nat.and_lt_two_pow _ (Nat.and_lt_two_pow _ hx))
  omega
end
end Go.Proofs.Ytokeejachclpeaa.M
namespace Go.Proofs.Ytokeejachclpeaa.M

/-- Values that grow with the set. -/
def Incr (f : Nat → Int) (N : Nat) : Prop := ∀ s e, s < 2 ^ N → e < N → f s ≤ f (s ||| 2 ^ e)
theorem Incr.or {f : Nat → Int} {N : Nat} (h : Incr f N) {a b : Nat} (ha : a < 2 ^ N) (hb : b < 2 ^ N) : f a ≤ f (a ||| b) := by
  have key : ∀ j, j ≤ N → f a ≤ f (a ||| b % 2 ^ j) := by
    intro j
    induction j with
    | zero => intro _; simp [Nat.mod_one]
    | succ j ih =>
      intro hj
      have ih := ih (by omega)
      cases hbj : b.testBit j
      · rw [mod_succ_out hbj]; exact ih
      · rw [or_mod_succ_in hbj]
        exact Int.le_trans ih (h _ _ (Nat.or_lt_two_pow ha (mod_lt j hb)) (by omega))
  have := key N (Nat.le_refl _)
  rwa [Nat.mod_eq_of_lt hb] at this
theorem Incr.part {f : Nat → Int} {N : Nat} (h : Incr f N) {a b : Nat} (hab : Part a b) (hb : b < 2 ^ N) : f a ≤ f b := by
  have := h.or (part_lt hab hb) hb
  rwa [hab.or_eq] at this
theorem wt_mul (x : Nat → Int) (r : Int) (s : Nat) : ∀ N, wt (fun k => r * x k) s N = r * wt x s N
  | 0 => by simp [wt]
  | N + 1 => by
    have := wt_mul x r s N
    unfold wt
    rw [this]
    cases s.testBit N
    · simp
    · simp [Int.mul_add]
theorem wt_const (r : Int) (s N : Nat) : wt (fun _ => r) s N = r * cnt s N := by
  have := wt_mul (fun _ => 1) r s N
  unfold cnt
  rw [← this]
  apply wt_congr
  · intros; rfl
  · intros; simp
theorem wt_le_cnt {x : Nat → Int} {s N : Nat} {r : Int} (h : ∀ k, k < N → s.testBit k = true → x k ≤ r) : wt x s N ≤ r * cnt s N := by
  rw [← wt_const]; exact wt_mono h
theorem cnt_nonneg (s N : Nat) : 0 ≤ cnt s N := wt_nonneg fun _ _ _ => by omega

/-- Elements that come one by one, with the sets of those before. -/
structure Chain (N k : Nat) (o S : Nat → Nat) : Prop where
  s0 : S 0 = 0
  succ : ∀ i, i < k → S (i + 1) = S i ||| 2 ^ o i
  lt : ∀ i, i < k → o i < N
  fresh : ∀ i, i < k → (S i).testBit (o i) = false
section
variable {N k : Nat} {o S : Nat → Nat} {f : Nat → Int}
theorem Chain.set_lt (h : Chain N k o S) : ∀ {i}, i ≤ k → S i < 2 ^ N
  | 0, _ => by rw [h.s0]; exact Nat.two_pow_pos N
  | i + 1, hi => by rw [h.succ i (by omega)]; exact ins_lt (h.set_lt (by omega)) (h.lt i (by omega))
theorem Chain.sum (h : Chain N k o S) (x : Nat → Int) : ∀ {i : Nat}, i ≤ k → wt x (S i) N = sumN (fun j => x (o j)) i
  | 0, _ => by rw [h.s0, wt_zero]; rfl
  | i + 1, hi => by rw [h.succ i (by omega), wt_ins x (h.lt i (by omega)) (h.fresh i (by omega)), h.sum x (i := i) (by omega)]; rfl
theorem Chain.cnt (h : Chain N k o S) {i : Nat} (hi : i ≤ k) : cnt (S i) N = i := by
  unfold M.cnt
  rw [h.sum _ hi]
  have : ∀ j, sumN (fun _ => 1) j = (j : Int) := by
    intro j
    induction j with
    | zero => rfl
    | succ j ih => unfold sumN; omega
  exact this i
theorem Chain.part (h : Chain N k o S) {i : Nat} : ∀ {j}, i ≤ j → j ≤ k → Part (S i) (S j)
  | 0, hij, _ => by obtain rfl : i = 0 := by omega
                    exact Part.refl _
  | j + 1, hij, hj => by
    by_cases he : i = j + 1
    · rw [he]; exact Part.refl _
    · rw [h.succ j (by omega)]
      exact (h.part (j := j) (by omega) (by omega)).trans (part_or_left _ _)
/-- Each element is one that adds most. -/
def Greedy (f : Nat → Int) (N k : Nat) (S : Nat → Nat) : Prop := ∀ i, i < k → ∀ e, e < N → (S i).testBit e = false → f (S i ||| 2 ^ e) ≤ f (S (i + 1))

theorem Chain.step (h : Chain N k o S) (hf : Smod f N) (hi : Incr f N) (hg : Greedy f N k S) {O : Nat} (hO : O < 2 ^ N) (hc : M.cnt O N ≤ k) {i : Nat} (hik : i < k) : f O - f (S i) ≤ k * (f (S (i + 1)) - f (S i)) := by
  have hS := h.set_lt (i := i) (by omega)
  have h1 : f O ≤ f (S i ||| O) := hi.part (part_or_right _ _) (Nat.or_lt_two_pow hS hO)
  have h2 := hf.union hS hO
  have hr : 0 ≤ f (S (i + 1)) - f (S i) := by
    have := hi (S i) (o i) hS (h.lt i hik)
    rw [← h.succ i hik] at this
    omega
  have h3 : wt (fun e => f (S i ||| 2 ^ e) - f (S i)) O N ≤ (f (S (i + 1)) - f (S i)) * M.cnt O N := by
    apply wt_le_cnt
    intro e he _
    cases hb : (S i).testBit e
    · have := hg i hik e he hb; omega
    · rw [ins_in hb]; omega
  have h4 := Int.mul_le_mul_of_nonneg_left hc hr
  rw [Int.mul_comm (k : Int)]
  omega
/-- The power n of b. -/
def pwr (b : Int) : Nat → Int
  | 0 => 1
  | j + 1 => pwr b j * b
theorem pwr_nonneg {b : Int} (hb : 0 ≤ b) : ∀ j, 0 ≤ pwr b j
  | 0 => by simp [pwr]
  | j + 1 => Int.mul_nonneg (pwr_nonneg hb j) hb
theorem Chain.reach (h : Chain N k o S) (hf : Smod f N) (hi : Incr f N) (f0 : f 0 = 0) (hg : Greedy f N k S) {O : Nat} (hO : O < 2 ^ N) (hc : M.cnt O N ≤ k) : ∀ {i}, i ≤ k → (f O - f (S i)) * pwr k i ≤ f O * pwr ((k : Int) - 1) i
  | 0, _ => by rw [h.s0, f0]; simp [pwr]
  | i + 1, hik => by
    have ih := h.reach hf hi f0 hg hO hc (i := i) (by omega)
    have hs := h.step hf hi hg hO hc (i := i) (by omega)
    have hp := pwr_nonneg (b := (k : Int)) (by omega) i
    have h1 := Int.mul_le_mul_of_nonneg_right (show (k : Int) * (f O - f (S (i + 1))) ≤ ((k : Int) - 1) * (f O - f (S i)) by grind) hp
    have h2 := Int.mul_le_mul_of_nonneg_left ih (show (0 : Int) ≤ (k : Int) - 1 by omega)
    unfold pwr
    grind

/-- The curvature: each element keeps at least (d - n)/d of its own value as the last one. -/
theorem Chain.curv (h : Chain N k o S) (hf : Smod f N) (hi : Incr f N) (f0 : f 0 = 0) (hg : Greedy f N k S) {O : Nat} (hO : O < 2 ^ N) (hc : M.cnt O N ≤ k) {n d : Int} (hn : 0 ≤ n) (hnd : n ≤ d)
    (hk : ∀ e, e < N → (d - n) * f (2 ^ e) ≤ d * (f (2 ^ N - 1) - f ((2 ^ N - 1) ^^^ 2 ^ e))) : d * f O ≤ (d + n) * f (S k) := by
  have hG := h.set_lt (i := k) (Nat.le_refl _)
  have hfull : 2 ^ N - 1 < 2 ^ N := by have := Nat.two_pow_pos N; omega
  have hf0 : ∀ s, s < 2 ^ N → 0 ≤ f s := fun s hs => by
    have := hi.part (a := 0) (fun i hb => by simp at hb) hs
    omega
  -- the two bounds of the union's value
  have l1 := hf.last (a := O) (b := S k) hfull (part_full hO) (part_full hG)
  have l2 := hf.union hG hO
  rw [Nat.or_comm] at l2
  -- sums over the chain
  have e1 := h.sum (fun e => if O.testBit e then 0 else f (2 ^ N - 1) - f ((2 ^ N - 1) ^^^ 2 ^ e)) (i := k) (Nat.le_refl _)
  rw [e1] at l1
  cases k with
  | zero =>
    have hz := h.s0
    have hc0 : M.cnt O N = 0 := by have := cnt_nonneg O N; omega
    have : O = 0 := by
      apply Nat.eq_of_testBit_eq; intro i
      rw [Nat.zero_testBit]
      cases hb : O.testBit i
      · rfl
      · have hiN := bit_lt hO hb
        have h1 := wt_part (x := fun _ => 1) (s := 2 ^ i) (t := O) (fun j hj => by
          rw [Nat.testBit_two_pow] at hj
          have : i = j := by simpa using hj
          rw [← this]; exact hb) (N := N) (fun _ _ _ _ => by omega)
        rw [wt_one, if_pos hiN] at h1
        unfold M.cnt at hc0
        omega
    rw [this, hz, f0]; simp
  | succ m =>
    have hmono : ∀ i, i < m → f (S (i + 1 + 1)) - f (S (i + 1)) ≤ f (S (i + 1)) - f (S i) := by
      intro i hi'
      have hfr := h.fresh (i + 1) (by omega)
      have hfr0 : (S i).testBit (o (i + 1)) = false := by
        rw [h.succ i (by omega), ins_bit] at hfr
        simp at hfr; exact hfr.1
      have h1 := hf.dr (s := S i) (t := S (i + 1)) (k := o (i + 1)) (h.set_lt (by omega)) (h.part (by omega) (by omega)) (h.lt _ (by omega)) hfr
      rw [← h.succ (i + 1) (by omega)] at h1
      have h2 := hg i (by omega) (o (i + 1)) (h.lt _ (by omega)) hfr0
      omega
    have hlast : ∀ j, j ≤ m → f (S (m + 1)) - f (S m) ≤ f (S (j + 1)) - f (S j) := by
      intro j hj
      obtain ⟨q, rfl⟩ : ∃ q, m = j + q := ⟨m - j, by omega⟩
      clear e1 l1 l2 hg hc hG
      have : ∀ p, p ≤ q → f (S (j + p + 1)) - f (S (j + p)) ≤ f (S (j + 1)) - f (S j) := by
        intro p
        induction p with
        | zero => intro _; exact Int.le_refl _
        | succ p ihp =>
          intro hp
          have := hmono (j + p) (by omega)
          have := ihp (by omega)
          have e : j + (p + 1) = j + p + 1 := by omega
          rw [e]; omega
      exact this q (Nat.le_refl _)
    have hr0 : 0 ≤ f (S (m + 1)) - f (S m) := by
      have := hi (S m) (o m) (h.set_lt (by omega)) (h.lt m (by omega))
      rw [← h.succ m (by omega)] at this
      omega
    -- what the elements outside of the greedy set add
    have u1 : wt (fun e => f (S (m + 1) ||| 2 ^ e) - f (S (m + 1))) O N ≤ wt (fun e => if (S (m + 1)).testBit e then 0 else f (S (m + 1)) - f (S m)) O N := by
      apply wt_mono
      intro e he _
      cases hb : (S (m + 1)).testBit e
      · have hb' : (S m).testBit e = false := by
          cases hx : (S m).testBit e
          · rfl
          · rw [h.part (i := m) (j := m + 1) (by omega) (by omega) e hx] at hb; cases hb
        have h1 := hf.dr (s := S m) (t := S (m + 1)) (k := e) (h.set_lt (by omega)) (h.part (by omega) (by omega)) he hb
        have h2 := hg m (by omega) e he hb'
        simp; omega
      · rw [ins_in hb]; simp
    -- as many elements of the greedy set lie outside of the other as the other way round, or more
    have u2 : wt (fun e => if (S (m + 1)).testBit e then 0 else f (S (m + 1)) - f (S m)) O N ≤ wt (fun e => if O.testBit e then 0 else f (S (m + 1)) - f (S m)) (S (m + 1)) N := by
      have hcG := h.cnt (i := m + 1) (Nat.le_refl _)
      have e1 : ∀ (a b : Nat) (r : Int), wt (fun e => if b.testBit e then 0 else r) a N = r * M.cnt a N - r * M.cnt (a &&& b) N := by
        intro a b r
        have hx : wt (fun e => if b.testBit e then 0 else r) a N = wt (fun _ => r) (a ^^^ (a &&& b)) N := by
          have : ∀ M, wt (fun e => if b.testBit e then 0 else r) a M = wt (fun _ => r) (a ^^^ (a &&& b)) M := by
            intro M
            induction M with
            | zero => rfl
            | succ M ih =>
              unfold wt
              rw [ih, Nat.testBit_xor, Nat.testBit_and]
              cases a.testBit M <;> cases b.testBit M <;> simp
          exact this N
        rw [hx, wt_diff _ (part_and_left a b), wt_const, wt_const]
      rw [e1, e1, Nat.and_comm (S (m + 1)) O, hcG]
      have := Int.mul_le_mul_of_nonneg_left hc hr0
      omega
    have u3 := h.sum (fun e => if O.testBit e then 0 else f (S (m + 1)) - f (S m)) (i := m + 1) (Nat.le_refl _)
    have u4 : sumN (fun j => if O.testBit (o j) then 0 else f (S (m + 1)) - f (S m)) (m + 1) ≤ sumN (fun j => if O.testBit (o j) then 0 else f (S (j + 1)) - f (S j)) (m + 1) := by
      apply sumN_le
      intro j hj
      have := hlast j (by omega)
      split <;> omega
    -- R: what the elements of the greedy set outside of the other added
    obtain ⟨R, hR⟩ : ∃ R, R = sumN (fun j => if O.testBit (o j) then 0 else f (S (j + 1)) - f (S j)) (m + 1) := ⟨_, rfl⟩
    rw [← hR] at u4
    have hRG : R ≤ f (S (m + 1)) := by
      rw [hR]
      have h1 : sumN (fun j => if O.testBit (o j) then 0 else f (S (j + 1)) - f (S j)) (m + 1) ≤ sumN (fun j => f (S (j + 1)) - f (S j)) (m + 1) := by
        apply sumN_le
        intro j hj
        have := hi (S j) (o j) (h.set_lt (by omega)) (h.lt j (by omega))
        rw [← h.succ j (by omega)] at this
        split <;> omega
      have h2 : ∀ i, sumN (fun j => f (S (j + 1)) - f (S j)) i = f (S i) - f (S 0) := by
        intro i
        induction i with
        | zero => simp [sumN]
        | succ i ih => rw [sumN, ih]; omega
      rw [h2, h.s0, f0] at h1
      omega
    have v1 : (d - n) * R ≤ d * sumN (fun j => if O.testBit (o j) then 0 else f (2 ^ N - 1) - f ((2 ^ N - 1) ^^^ 2 ^ o j)) (m + 1) := by
      have hmul : ∀ (r : Int) (g : Nat → Int) k, r * sumN g k = sumN (fun j => r * g j) k := by
        intro r g k
        induction k with
        | zero => simp [sumN]
        | succ k ih => rw [sumN, sumN, ← ih, Int.mul_add]
      rw [hR, hmul, hmul]
      apply sumN_le
      intro j hj
      have hoN := h.lt j (by omega)
      have h1 := hk (o j) hoN
      have hfr := h.fresh j (by omega)
      have h2 := hf.dr (s := 0) (t := S j) (k := o j) (h.set_lt (by omega)) (fun i hb => by simp at hb) hoN hfr
      rw [← h.succ j (by omega), Nat.zero_or, f0] at h2
      have h3 := Int.mul_le_mul_of_nonneg_left h2 (show 0 ≤ d - n by omega)
      split
      · simp
      · simp only [Int.sub_zero] at h3
        omega
    have w1 : f O + sumN (fun j => if O.testBit (o j) then 0 else f (2 ^ N - 1) - f ((2 ^ N - 1) ^^^ 2 ^ o j)) (m + 1) ≤ f (S (m + 1)) + R := by omega
    have w2 := Int.mul_le_mul_of_nonneg_left w1 (show 0 ≤ d by omega)
    have w3 := Int.mul_le_mul_of_nonneg_left hRG hn
    grind
end

section
variable {N : Nat} {f : Nat → Int}
/-- One step of the double greed. -/
structure DG (N k a b : Nat) : Prop where
  ha : a < 2 ^ N
  hb : b < 2 ^ N
  part : Part a b
  rest : ∀ e, k ≤ e → e < N → a.testBit e = false ∧ b.testBit e = true
  same : ∀ e, e < k → a.testBit e = b.testBit e
theorem DG.start (N : Nat) : DG N 0 0 (2 ^ N - 1) where
  ha := Nat.two_pow_pos N
  hb := by have := Nat.two_pow_pos N; omega
  part := fun i hi => by simp at hi
  rest := fun e _ he => ⟨by simp, by rw [Nat.testBit_two_pow_sub_one]; simpa using he⟩
  same := fun e he => by omega
theorem DG.up {k a b : Nat} (h : DG N k a b) (hk : k < N) : DG N (k + 1) (a ||| 2 ^ k) b where
  ha := ins_lt h.ha hk
  hb := h.hb
  part := fun i hi => by
    rw [ins_bit] at hi
    by_cases hik : k = i
    · rw [← hik]; exact (h.rest k (Nat.le_refl _) hk).2
    · simp [hik] at hi; exact h.part i hi
  rest := fun e he heN => by
    have := h.rest e (by omega) heN
    refine ⟨?_, this.2⟩
    rw [ins_bit, this.1]
    have : ¬ k = e := by omega
    simp [this]
  same := fun e he => by
    rw [ins_bit]
    by_cases hek : e = k
    · rw [hek, (h.rest k (Nat.le_refl _) hk).2]; simp
    · rw [h.same e (by omega)]
      have : ¬ k = e := by omega
      simp [this]
theorem DG.down {k a b : Nat} (h : DG N k a b) (hk : k < N) : DG N (k + 1) a (b ^^^ 2 ^ k) where
  ha := h.ha
  hb := xor_lt h.hb hk
  part := fun i hi => by
    rw [xor_bit]
    by_cases hik : k = i
    · rw [← hik, (h.rest k (Nat.le_refl _) hk).1] at hi; cases hi
    · rw [h.part i hi]; simp [hik]
  rest := fun e he heN => by
    have := h.rest e (by omega) heN
    refine ⟨this.1, ?_⟩
    rw [xor_bit, this.2]
    have : ¬ k = e := by omega
    simp [this]
  same := fun e he => by
    rw [xor_bit]
    by_cases hek : e = k
    · rw [hek, (h.rest k (Nat.le_refl _) hk).1, (h.rest k (Nat.le_refl _) hk).2]; simp
    · rw [h.same e (by omega)]
      have : ¬ k = e := by omega
      simp [this]
/-- The set O, made to lie between a and b. -/
def btw (O a b : Nat) : Nat := (O ||| a) &&& b
theorem btw_bit (O a b i : Nat) : (btw O a b).testBit i = ((O.testBit i || a.testBit i) && b.testBit i) := by
  unfold btw; rw [Nat.testBit_and, Nat.testBit_or]
theorem DG.stepUp {k a b O : Nat} (h : DG N k a b) (hk : k < N) (hf : Smod f N) (hge : f (b ^^^ 2 ^ k) - f b ≤ f (a ||| 2 ^ k) - f a) : f (btw O a b) - f (btw O (a ||| 2 ^ k) b) ≤ f (a ||| 2 ^ k) - f a := by
  obtain ⟨r1, r2⟩ := h.rest k (Nat.le_refl _) hk
  have hsum : f b - f (b ^^^ 2 ^ k) ≤ f (a ||| 2 ^ k) - f a := by
    have := hf.dr (s := a) (t := b ^^^ 2 ^ k) (k := k) (xor_lt h.hb hk) (h.down hk).part hk (by rw [xor_bit, r2]; simp)
    rwa [xor_ins r2] at this
  have e : btw O (a ||| 2 ^ k) b = btw O a b ||| 2 ^ k := by
    apply Nat.eq_of_testBit_eq; intro i
    rw [btw_bit, ins_bit, ins_bit, btw_bit]
    by_cases hik : k = i
    · subst hik; simp [r2]
    · simp [hik]
  rw [e]
  cases hO : O.testBit k
  · have := hf.dr (s := btw O a b) (t := b ^^^ 2 ^ k) (k := k) (xor_lt h.hb hk) (fun i hi => by
      rw [btw_bit] at hi
      rw [xor_bit]
      by_cases hik : k = i
      · subst hik; rw [hO, r1] at hi; simp at hi
      · simp at hi; simp [hi.2, hik]) hk (by rw [xor_bit, r2]; simp)
    rw [xor_ins r2] at this
    omega
  · rw [ins_in (by rw [btw_bit, hO, r2]; rfl)]
    omega
theorem DG.stepDown {k a b O : Nat} (h : DG N k a b) (hk : k < N) (hf : Smod f N) (hlt : f (a ||| 2 ^ k) - f a < f (b ^^^ 2 ^ k) - f b) : f (btw O a b) - f (btw O a (b ^^^ 2 ^ k)) ≤ f (b ^^^ 2 ^ k) - f b := by
  obtain ⟨r1, r2⟩ := h.rest k (Nat.le_refl _) hk
  have hsum : f b - f (b ^^^ 2 ^ k) ≤ f (a ||| 2 ^ k) - f a := by
    have := hf.dr (s := a) (t := b ^^^ 2 ^ k) (k := k) (xor_lt h.hb hk) (h.down hk).part hk (by rw [xor_bit, r2]; simp)
    rwa [xor_ins r2] at this
  cases hO : O.testBit k
  · have e : btw O a (b ^^^ 2 ^ k) = btw O a b := by
      apply Nat.eq_of_testBit_eq; intro i
      rw [btw_bit, xor_bit, btw_bit]
      by_cases hik : k = i
      · subst hik; simp [hO, r1]
      · simp [hik]
    rw [e]; omega
  · have e : btw O a (b ^^^ 2 ^ k) ||| 2 ^ k = btw O a b := by
      apply Nat.eq_of_testBit_eq; intro i
      rw [ins_bit, btw_bit, xor_bit, btw_bit]
      by_cases hik : k = i
      · subst hik; simp [hO, r2]
      · simp [hik]
    have := hf.dr (s := a) (t := btw O a (b ^^^ 2 ^ k)) (k := k) (by
      unfold btw
      exact Nat.and_lt_two_pow _ (xor_lt h.hb hk)) (fun i hi => by
      rw [btw_bit, (h.down hk).part i hi, hi]; simp) hk (by rw [btw_bit, xor_bit, r2]; simp)
    rw [e] at this
    omega
theorem DG.end_ {a b O : Nat} (h : DG N N a b) : a = b ∧ btw O a b = a := by
  have e : a = b := by
    apply Nat.eq_of_testBit_eq; intro i
    by_cases hi : i < N
    · exact h.same i hi
    · have h1 : a.testBit i = false := by
        cases hx : a.testBit i
        · rfl
        · exact absurd (bit_lt h.ha hx) hi
      have h2 : b.testBit i = false := by
        cases hx : b.testBit i
        · rfl
        · exact absurd (bit_lt h.hb hx) hi
      rw [h1, h2]
  refine ⟨e, ?_⟩
  subst e
  unfold btw
  exact part_antisymm (part_and_right _ _) (fun i hi => by rw [Nat.testBit_and, Nat.testBit_or, hi]; simp)
theorem btw_start {O : Nat} (hO : O < 2 ^ N) : btw O 0 (2 ^ N - 1) = O := by
  unfold btw; rw [Nat.or_zero, (part_full hO).and_eq]
end
end Go.Proofs.Ytokeejachclpeaa.M
