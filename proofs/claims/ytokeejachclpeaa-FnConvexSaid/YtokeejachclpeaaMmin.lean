/-
  Least values, tight sets, dual vectors, local maxima. Plain mathematics: no program in sight.
-/
import Derived.Test.YtokeejachclpeaaMord
namespace Go.Proofs.Ytokeejachclpeaa.M
section
variable {N : Nat} {f : Nat → Int} {y : Nat → Int}
/-- Sets with the least value are closed under union and intersection. -/
theorem Smod.closed (h : Smod f N) {m : Int} (hm : ∀ s, s < 2 ^ N → m ≤ f s) {a b : Nat} (ha : a < 2 ^ N) (hb : b < 2 ^ N) (fa : f a = m) (fb : f b = m) : f (a ||| b) = m ∧ f (a &&& b) = m := by
  have h1 := h.two ha hb
  have h2 := hm (a ||| b) (Nat.or_lt_two_pow ha hb)
  have h3 := hm (a &&& b) (Nat.and_lt_two_pow _ hb)
  omega
theorem Smod.less (h : Smod f N) (y : Nat → Int) : Smod (fun s => f s - wt y s N) N := fun s i k hs hi hk hik h1 h2 => by
  have h3 := h s i k hs hi hk hik h1 h2
  have h4 : (s ||| 2 ^ i).testBit k = false := by rw [ins_bit, h2]; simp [hik]
  show (f _ - wt y _ N) + (f _ - wt y _ N) ≤ (f _ - wt y _ N) + (f _ - wt y _ N)
  rw [wt_ins y hk h4, wt_ins y hi h1, wt_ins y hk h2]
  omega
theorem Smod.tight (h : Smod f N) (hb : ∀ s, s < 2 ^ N → wt y s N ≤ f s) {a b : Nat} (ha : a < 2 ^ N) (hb' : b < 2 ^ N) (fa : wt y a N = f a) (fb : wt y b N = f b) : wt y (a ||| b) N = f (a ||| b) ∧ wt y (a &&& b) N = f (a &&& b) := by
  have := (h.less y).closed (m := 0) (fun s hs => by have := hb s hs; show 0 ≤ f s - wt y s N; omega) ha hb' (by show f a - wt y a N = 0; omega) (by show f b - wt y b N = 0; omega)
  have h1 : f (a ||| b) - wt y (a ||| b) N = 0 := this.1
  have h2 : f (a &&& b) - wt y (a &&& b) N = 0 := this.2
  omega
theorem wt_others {x : Nat → Int} {s t : Nat} : ∀ {N}, (∀ k, k < N → s.testBit k = t.testBit k ∨ x k = 0) → wt x s N = wt x t N
  | 0, _ => rfl
  | N + 1, h => by
    have h1 := wt_others (N := N) (fun k hk => h k (by omega))
    unfold wt
    rw [h1]
    rcases h N (by omega) with h2 | h2
    · rw [h2]
    · rw [h2]; simp
/-- A vector of numbers up to 0 below f, each 0 or in a tight set, weighs as much as the least value. -/
theorem Smod.dual (h : Smod f N) (f0 : f 0 = 0) (hb : ∀ s, s < 2 ^ N → wt y s N ≤ f s) (h0 : ∀ e, e < N → y e ≤ 0) (ht : ∀ e, e < N → y e = 0 ∨ ∃ T, T < 2 ^ N ∧ T.testBit e = true ∧ wt y T N = f T) :
    (∃ U, U < 2 ^ N ∧ wt y (2 ^ N - 1) N = f U) ∧ ∀ s, s < 2 ^ N → wt y (2 ^ N - 1) N ≤ f s := by
  have key : ∀ k, k ≤ N → ∃ U, U < 2 ^ N ∧ wt y U N = f U ∧ ∀ e, e < k → U.testBit e = true ∨ y e = 0 := by
    intro k
    induction k with
    | zero => intro _; exact ⟨0, Nat.two_pow_pos N, by rw [wt_zero, f0], fun e he => by omega⟩
    | succ k ih =>
      intro hk
      obtain ⟨U, hU, hU2, hU3⟩ := ih (by omega)
      rcases ht k (by omega) with h1 | ⟨T, hT, hT2, hT3⟩
      · exact ⟨U, hU, hU2, fun e he => by
          by_cases hek : e = k
          · rw [hek]; exact .inr h1
          · exact hU3 e (by omega)⟩
      · refine ⟨U ||| T, Nat.or_lt_two_pow hU hT, (h.tight hb hU hT hU2 hT3).1, fun e he => ?_⟩
        rw [Nat.testBit_or]
        by_cases hek : e = k
        · rw [hek, hT2]; simp
        · rcases hU3 e (by omega) with h2 | h2
          · rw [h2]; simp
          · exact .inr h2
  refine ⟨?_, fun s hs => ?_⟩
  · obtain ⟨U, hU, hU2, hU3⟩ := key N (Nat.le_refl _)
    refine ⟨U, hU, ?_⟩
    rw [← hU2]
    apply wt_others
    intro k hk
    rcases hU3 k hk with h2 | h2
    · left; rw [h2, Nat.testBit_two_pow_sub_one]; simp [hk]
    · exact .inr h2
  · refine Int.le_trans ?_ (hb s hs)
    -- the others weigh at most 0
    have h1 := wt_part (x := fun k => - y k) (part_full hs) (N := N) (fun k hk _ _ => by have := h0 k hk; omega)
    rw [wt_neg, wt_neg] at h1
    omega

/-- One number changed. -/
def upd (x : Nat → Int) (e : Nat) (u : Int) : Nat → Int := fun k => if k = e then u else x k
theorem wt_upd (x : Nat → Int) (e : Nat) (u : Int) (s : Nat) : ∀ N, wt (upd x e u) s N = wt x s N + if e < N ∧ s.testBit e = true then u - x e else 0
  | 0 => by simp [wt]
  | N + 1 => by
    have := wt_upd x e u s N
    unfold wt
    rw [this]
    by_cases he : N = e
    · subst he
      cases hs : s.testBit N <;> simp [upd] <;> omega
    · by_cases h2 : e < N
      · have h3 : e < N + 1 := by omega
        simp only [h2, h3, true_and, upd, if_neg he]
        omega
      · have h3 : ¬ e < N + 1 := by omega
        simp only [h2, h3, false_and, upd, if_neg he]
        omega
/-- A number raised by no more than the least lack of the sets with it: still below. -/
theorem below_upd {e : Nat} {u : Int} (hb : ∀ s, s < 2 ^ N → wt y s N ≤ f s) (hu : ∀ s, s < 2 ^ N → s.testBit e = true → u - y e ≤ f s - wt y s N) : ∀ s, s < 2 ^ N → wt (upd y e u) s N ≤ f s := by
  intro s hs
  rw [wt_upd]
  have h1 := hb s hs
  split
  · rename_i h; have := hu s hs h.2; omega
  · omega
end

section
variable {N : Nat} {f : Nat → Int}
/-- What a set adds is at most what its elements add. -/
theorem Smod.union (h : Smod f N) {a b : Nat} (ha : a < 2 ^ N) (hb : b < 2 ^ N) : f (a ||| b) - f a ≤ wt (fun e => f (a ||| 2 ^ e) - f a) b N := by
  have key : ∀ j, j ≤ N → f (a ||| b % 2 ^ j) - f a ≤ wt (fun e => f (a ||| 2 ^ e) - f a) (b % 2 ^ j) N := by
    intro j
    induction j with
    | zero => intro _; simp [Nat.mod_one, wt_zero]
    | succ j ih =>
      intro hj
      have ih := ih (by omega)
      cases hbj : b.testBit j
      · rw [mod_succ_out hbj]; exact ih
      · have e2 : wt (fun e => f (a ||| 2 ^ e) - f a) (b % 2 ^ (j + 1)) N = wt (fun e => f (a ||| 2 ^ e) - f a) (b % 2 ^ j) N + (f (a ||| 2 ^ j) - f a) := by
          rw [mod_succ_in hbj, wt_ins _ (by omega) (mod_bit_self b j)]
        rw [e2]
        cases haj : a.testBit j
        · rw [or_mod_succ_in hbj]
          have := h.dr (s := a) (t := a ||| b % 2 ^ j) (k := j) (Nat.or_lt_two_pow ha (mod_lt j hb)) (part_or_left _ _) (by omega) (by rw [Nat.testBit_or, haj, mod_bit_self]; rfl)
          omega
        · rw [or_mod_succ_out (by rw [Nat.testBit_or, haj, Bool.true_or]), ins_in haj]
          omega
  have := key N (Nat.le_refl _)
  rwa [Nat.mod_eq_of_lt hb] at this
theorem xor_bit (s i j : Nat) : (s ^^^ 2 ^ i).testBit j = (s.testBit j != decide (i = j)) := by rw [Nat.testBit_xor, Nat.testBit_two_pow]
theorem xor_lt {s i N : Nat} (hs : s < 2 ^ N) (hi : i < N) : s ^^^ 2 ^ i < 2 ^ N := Nat.xor_lt_two_pow hs (Nat.pow_lt_pow_right (by omega) hi)
theorem xor_ins {s i : Nat} (h : s.testBit i = true) : s ^^^ 2 ^ i ||| 2 ^ i = s := by
  apply Nat.eq_of_testBit_eq; intro j
  rw [ins_bit, xor_bit]
  by_cases hij : i = j
  · subst hij; simp [h]
  · simp [hij]
theorem xor_out {s i : Nat} (h : s.testBit i = false) : s ^^^ 2 ^ i = s ||| 2 ^ i := by
  apply Nat.eq_of_testBit_eq; intro j
  rw [ins_bit, xor_bit]
  by_cases hij : i = j
  · subst hij; simp [h]
  · simp [hij]
/-- What a set adds is at least what its elements add to the rest of a greater one. -/
theorem Smod.last (h : Smod f N) {a b U : Nat} (hU : U < 2 ^ N) (ha : Part a U) (hb : Part b U) : wt (fun e => if a.testBit e then 0 else f U - f (U ^^^ 2 ^ e)) b N ≤ f (a ||| b) - f a := by
  have ha' := part_lt ha hU
  have hb' := part_lt hb hU
  have key : ∀ j, j ≤ N → wt (fun e => if a.testBit e then 0 else f U - f (U ^^^ 2 ^ e)) (b % 2 ^ j) N ≤ f (a ||| b % 2 ^ j) - f a := by
    intro j
    induction j with
    | zero => intro _; simp [Nat.mod_one, wt_zero]
    | succ j ih =>
      intro hj
      have ih := ih (by omega)
      cases hbj : b.testBit j
      · rw [mod_succ_out hbj]; exact ih
      · have e2 : wt (fun e => if a.testBit e then 0 else f U - f (U ^^^ 2 ^ e)) (b % 2 ^ (j + 1)) N = wt (fun e => if a.testBit e then 0 else f U - f (U ^^^ 2 ^ e)) (b % 2 ^ j) N + (if a.testBit j then 0 else f U - f (U ^^^ 2 ^ j)) := by
          rw [mod_succ_in hbj, wt_ins _ (by omega) (mod_bit_self b j)]
        rw [e2]
        cases haj : a.testBit j
        · rw [or_mod_succ_in hbj]
          have hUj := hb j hbj
          have := h.dr (s := a ||| b % 2 ^ j) (t := U ^^^ 2 ^ j) (k := j) (xor_lt hU (by omega)) (fun i hi => by
            rw [Nat.testBit_or] at hi
            rw [xor_bit]
            by_cases hij : j = i
            · subst hij
              rw [haj, mod_bit_self] at hi; cases hi
            · have : U.testBit i = true := by
                cases hai : a.testBit i
                · rw [hai] at hi; exact hb i (part_mod b j i (by simpa using hi))
                · exact ha i hai
              simp [this, hij]) (by omega) (by rw [xor_bit, hUj]; simp)
          rw [xor_ins hUj] at this
          simp
          omega
        · rw [or_mod_succ_out (by rw [Nat.testBit_or, haj, Bool.true_or])]
          simp
          omega
  have := key N (Nat.le_refl _)
  rwa [Nat.mod_eq_of_lt hb'] at this

/-- A set that no change of one element makes better: neither union nor intersection with another is. -/
theorem Smod.local (h : Smod f N) {s t : Nat} (hs : s < 2 ^ N) (ht : t < 2 ^ N) (hl : ∀ e, e < N → f (s ^^^ 2 ^ e) ≤ f s) : f (s ||| t) ≤ f s ∧ f (s &&& t) ≤ f s := by
  constructor
  · have h1 := h.union hs ht
    have h2 : wt (fun e => f (s ||| 2 ^ e) - f s) t N ≤ wt (fun _ => 0) t N := by
      apply wt_mono
      intro k hk _
      have := hl k hk
      cases hb : s.testBit k
      · rw [← xor_out hb]; omega
      · rw [ins_in hb]; omega
    rw [wt_const_zero] at h2
    omega
  · have h1 := h.last (a := s &&& t) (b := s) hs (part_and_left _ _) (Part.refl _)
    rw [(part_and_left s t).or_eq] at h1
    have h2 : 0 ≤ wt (fun e => if (s &&& t).testBit e then 0 else f s - f (s ^^^ 2 ^ e)) s N := by
      apply wt_nonneg
      intro k hk _
      have := hl k hk
      cases hb : (s &&& t).testBit k <;> simp <;> omega
    omega
theorem and_comp {s c N : Nat} (hs : s < 2 ^ N) (hc : c < 2 ^ N) : (s ||| c) &&& ((2 ^ N - 1) ^^^ s) = c &&& ((2 ^ N - 1) ^^^ s) := by
  apply Nat.eq_of_testBit_eq; intro i
  rw [Nat.testBit_and, Nat.testBit_and, Nat.testBit_or, Nat.testBit_xor, Nat.testBit_two_pow_sub_one]
  by_cases hi : i < N
  · cases s.testBit i <;> cases c.testBit i <;> simp [hi]
  · have h1 : s.testBit i = false := by
      cases hb : s.testBit i
      · rfl
      · exact absurd (bit_lt hs hb) hi
    have h2 : c.testBit i = false := by
      cases hb : c.testBit i
      · rfl
      · exact absurd (bit_lt hc hb) hi
    simp [hi, h1, h2]
theorem or_comp {s c N : Nat} (hs : s < 2 ^ N) (hc : c < 2 ^ N) : (s ||| c) ||| ((2 ^ N - 1) ^^^ s) = 2 ^ N - 1 := by
  apply Nat.eq_of_testBit_eq; intro i
  rw [Nat.testBit_or, Nat.testBit_or, Nat.testBit_xor, Nat.testBit_two_pow_sub_one]
  by_cases hi : i < N
  · cases s.testBit i <;> cases c.testBit i <;> simp [hi]
  · have h1 : s.testBit i = false := by
      cases hb : s.testBit i
      · rfl
      · exact absurd (bit_lt hs hb) hi
    have h2 : c.testBit i = false := by
      cases hb : c.testBit i
      · rfl
      · exact absurd (bit_lt hc hb) hi
    simp [hi, h1, h2]
/-- Of a local maximum and its complement one reaches a third of every value, if no value is negative. -/
theorem Smod.third (h : Smod f N) {s c : Nat} (hs : s < 2 ^ N) (hc : c < 2 ^ N) (hp : ∀ t, t < 2 ^ N → 0 ≤ f t) (hl : ∀ e, e < N → f (s ^^^ 2 ^ e) ≤ f s) : f c ≤ 2 * f s + f ((2 ^ N - 1) ^^^ s) := by
  have hfull : 2 ^ N - 1 < 2 ^ N := by have := Nat.two_pow_pos N; omega
  have hx : (2 ^ N - 1) ^^^ s < 2 ^ N := Nat.xor_lt_two_pow hfull hs
  obtain ⟨h1, h2⟩ := h.local hs hc hl
  have h3 := h.two (Nat.or_lt_two_pow hs hc) hx
  rw [or_comp hs hc, and_comp hs hc] at h3
  have h4 := h.two (a := s &&& c) (b := c &&& ((2 ^ N - 1) ^^^ s)) (Nat.and_lt_two_pow _ hc) (Nat.and_lt_two_pow _ hx)
  have e1 : (s &&& c) ||| (c &&& ((2 ^ N - 1) ^^^ s)) = c := by
    apply Nat.eq_of_testBit_eq; intro i
    rw [Nat.testBit_or, Nat.testBit_and, Nat.testBit_and, Nat.testBit_xor, Nat.testBit_two_pow_sub_one]
    cases hb : c.testBit i
    · simp
    · have := bit_lt hc hb
      cases s.testBit i <;> simp [this]
  rw [e1] at h4
  have := hp (2 ^ N - 1) hfull
  have := hp ((s &&& c) &&& (c &&& ((2 ^ N - 1) ^^^ s))) (Nat.and_lt_two_pow _ (Nat.and_lt_two_pow _ hx))
  omega
end
end Go.Proofs.Ytokeejachclpeaa.M
