/-
  Plain words on greed: the program's greedy sets are chains of best steps; the best value; ratios.
-/
import Derived.Test.YtokeejachclpeaaBr1
import Derived.Test.YtokeejachclpeaaMath
import Derived.Test.YtokeejachclpeaaCurM
namespace Go.Proofs.Ytokeejachclpeaa
open Go.RowKit

theorem pick_spec (v : List Int) (s : Nat) : ∀ e, (pickT v s e = -1 ∧ ∀ j, j < e → hasB s j = true) ∨ ∃ b : Nat, b < e ∧ pickT v s e = (b : Int) ∧ hasB s b = false ∧ ∀ j, j < e → hasB s j = false → gv v (insN s j) ≤ gv v (insN s b)
  | 0 => .inl ⟨rfl, fun j hj => by omega⟩
  | e + 1 => by
    have ih := pick_spec v s e
    unfold pickT
    cases hs : hasB s e
    · rcases ih with ⟨h1, h2⟩ | ⟨b, hb, h1, h2, h3⟩
      · rw [h1]
        have ht : betT v s e (-1) = true := by simp [betT]
        rw [ht]
        refine .inr ⟨e, by omega, rfl, hs, fun j hj hjs => ?_⟩
        by_cases hje : j = e
        · rw [hje]; exact Int.le_refl _
        · rw [h2 j (by omega)] at hjs; cases hjs
      · rw [h1]
        cases ht : betT v s e (b : Int)
        · refine .inr ⟨b, by omega, by simp, h2, fun j hj hjs => ?_⟩
          by_cases hje : j = e
          · subst hje
            simp only [betT, Bool.or_eq_false_iff, decide_eq_false_iff_not, Int.toNat_natCast] at ht
            omega
          · exact h3 j (by omega) hjs
        · refine .inr ⟨e, by omega, by simp, hs, fun j hj hjs => ?_⟩
          simp only [betT, Bool.or_eq_true, decide_eq_true_eq, Int.toNat_natCast] at ht
          have hlt : gv v (insN s b) < gv v (insN s e) := by
            rcases ht with h4 | h4
            · omega
            · exact h4
          by_cases hje : j = e
          · rw [hje]; exact Int.le_refl _
          · have := h3 j (by omega) hjs; omega
    · rcases ih with ⟨h1, h2⟩ | ⟨b, hb, h1, h2, h3⟩
      · refine .inl ⟨by simpa using h1, fun j hj => ?_⟩
        by_cases hje : j = e
        · rw [hje]; exact hs
        · exact h2 j (by omega)
      · refine .inr ⟨b, by omega, by simpa using h1, h2, fun j hj hjs => ?_⟩
        by_cases hje : j = e
        · rw [hje, hs] at hjs; cases hjs
        · exact h3 j (by omega) hjs
theorem cnt_pop : ∀ N : Fin 6, ∀ s : Fin 32, s.val < 2 ^ N.val → M.cnt s.val N.val = (popN s.val : Int) := by decide +kernel
/-- The program's greedy sets: a chain of best steps. -/
theorem gr_chain (v : List Int) {N : Nat} (hN : N ≤ 5) {k : Nat} (hk : k ≤ N) :
    M.Chain N k (fun i => pickN v (grN v N i).2 N) (fun i => (grN v N i).2) ∧ M.Greedy (gv v) N k (fun i => (grN v N i).2) := by
  have h32 : 2 ^ N ≤ 32 := Nat.pow_le_pow_right (n := 2) (by omega) hN
  have key : ∀ i, i < k → ∃ b : Nat, b < N ∧ pickN v (grN v N i).2 N = b ∧ hasB (grN v N i).2 b = false ∧ ∀ j, j < N → hasB (grN v N i).2 j = false → gv v (insN (grN v N i).2 j) ≤ gv v (insN (grN v N i).2 b) := by
    intro i hi
    obtain ⟨g1, g2, _⟩ := gr_inv v hN i (by omega)
    rcases pick_spec v (grN v N i).2 N with ⟨h1, h2⟩ | ⟨b, hb, h1, h2, h3⟩
    · exfalso
      obtain ⟨j, hj, hj2⟩ := pop_room ⟨N, by omega⟩ ⟨(grN v N i).2, by omega⟩ g1 (by simp only; omega)
      have := h2 j.val hj
      simp only at hj2
      rw [this] at hj2; cases hj2
    · exact ⟨b, hb, by unfold pickN; rw [h1]; simp, h2, h3⟩
  refine ⟨⟨rfl, fun i hi => rfl, fun i hi => ?_, fun i hi => ?_⟩, fun i hi e he hes => ?_⟩
  · obtain ⟨b, hb, h1, _⟩ := key i hi
    show pickN v (grN v N i).2 N < N
    rw [h1]; exact hb
  · obtain ⟨b, hb, h1, h2, _⟩ := key i hi
    show (grN v N i).2.testBit (pickN v (grN v N i).2 N) = false
    rw [h1]; exact h2
  · obtain ⟨b, hb, h1, h2, h3⟩ := key i hi
    have := h3 e he hes
    show gv v ((grN v N i).2 ||| 2 ^ e) ≤ gv v (insN (grN v N i).2 (pickN v (grN v N i).2 N))
    rw [h1]; exact this
theorem bestN_max (p : Nat → Bool) (v : List Int) : ∀ k, ∀ s, s < k → p s = true → gv v s ≤ gv v (bestN p v k)
  | 0, s, hs, _ => by omega
  | k + 1, s, hs, hp => by
    unfold bestN
    by_cases hsk : s = k
    · subst hsk
      split
      · exact Int.le_refl _
      · rename_i h
        simp only [Bool.and_eq_true, decide_eq_true_eq, not_and] at h
        have := h hp; omega
    · have ih := bestN_max p v k s (by omega) hp
      split
      · rename_i h
        simp only [Bool.and_eq_true, decide_eq_true_eq] at h
        omega
      · exact ih
theorem bestN_ok (p : Nat → Bool) (v : List Int) (h0 : p 0 = true) : ∀ k, p (bestN p v k) = true
  | 0 => h0
  | k + 1 => by
    unfold bestN
    split
    · rename_i h
      simp only [Bool.and_eq_true] at h
      exact h.1
    · exact bestN_ok p v h0 k
/-- What is known of the best set of at most K elements. -/
theorem best_facts {N : Nat} {v : List Int} (hN : N ≤ 5) (hl : v.length = 2 ^ N) {K : Nat} :
    ∃ O, O < 2 ^ N ∧ best1 v v.length K = gv v O ∧ M.cnt O N ≤ K ∧ ∀ s, s < 2 ^ N → M.cnt s N ≤ K → gv v s ≤ best1 v v.length K := by
  have h32 : 2 ^ N ≤ 32 := Nat.pow_le_pow_right (n := 2) (by omega) hN
  have hpos := Nat.two_pow_pos N
  have h1 := bestN_lt (sizeP K) v v.length (by omega)
  have h2 := bestN_ok (sizeP K) v (by simp [sizeP, popN]) v.length
  refine ⟨bestN (sizeP K) v v.length, by omega, rfl, ?_, fun s hs hc => ?_⟩
  · have h3 := cnt_pop ⟨N, by omega⟩ ⟨bestN (sizeP K) v v.length, by omega⟩ (by simp only; omega)
    simp only at h3
    rw [h3]
    simpa [sizeP] using h2
  · have h3 := cnt_pop ⟨N, by omega⟩ ⟨s, by omega⟩ hs
    simp only at h3
    unfold best1
    exact bestN_max _ v _ s (by omega) (by rw [h3] at hc; simp [sizeP]; omega)
end Go.Proofs.Ytokeejachclpeaa
