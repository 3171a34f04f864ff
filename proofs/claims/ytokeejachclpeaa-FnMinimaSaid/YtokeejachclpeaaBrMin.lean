/-
  Plain words for the law FnMinima.
-/
import Derived.Test.YtokeejachclpeaaMinM
import Derived.Test.YtokeejachclpeaaLawW
namespace Go.Proofs.Ytokeejachclpeaa
open Go.RowKit

theorem minT_le (v : List Int) : ∀ k j, j ≤ k → minT v k ≤ gv v j
  | 0, j, h => by obtain rfl : j = 0 := by omega
                  exact Int.le_refl _
  | k + 1, j, h => by
    unfold minT
    by_cases hj : j = k + 1
    · rw [hj]; omega
    · have := minT_le v k j (by omega); omega
theorem betw_fit {v : List Int} {a b : Nat} (h0 : fitB a b a = true) : ∀ k, fitB a b (betw v a b k) = true
  | 0 => h0
  | k + 1 => by
    unfold betw
    split
    · rename_i h
      simp only [Bool.and_eq_true] at h
      exact h.1
    · exact betw_fit h0 k
theorem betw_lt' {v : List Int} {a b n : Nat} (ha : a < n) : ∀ k, k ≤ n → betw v a b k < n
  | 0, _ => ha
  | k + 1, h => by
    unfold betw
    split
    · omega
    · exact betw_lt' ha k (by omega)
structure BetwFacts (E : Int) (v : List Int) (a b : Int) : Prop where
  low : decide (betwV E v a b < minR E v) = false
  up : (bits .and .i64 (betwS E v a b) a != a) = false
  off : (bits .and .i64 (betwS E v a b) b != 0) = false
  val : (valR E v (betwS E v a b) != betwV E v a b) = false
theorem betw_facts {E : Int} {v : List Int} {a b : Int} (h : betwOk E v a b = true) : BetwFacts E v a b := by
  have hok := h
  simp only [betwOk, Bool.and_eq_true, decide_eq_true_eq] at h
  obtain ⟨hf, ha, hb, hab⟩ := h
  obtain ⟨N, rfl, hN, hl, _⟩ := isFn_true hf
  obtain ⟨a1, a2⟩ := inR_true ha
  obtain ⟨b1, b2⟩ := inR_true hb
  have h32 : 2 ^ N ≤ 32 := Nat.pow_le_pow_right (n := 2) (by omega) hN
  obtain ⟨x, rfl⟩ := Int.eq_ofNat_of_zero_le a1
  obtain ⟨y, rfl⟩ := Int.eq_ofNat_of_zero_le b1
  simp only [Int.toNat_natCast] at hab
  have hx : x < v.length := by omega
  have hlt := betw_lt' (v := v) (b := y) hx v.length (Nat.le_refl _)
  have hfit := betw_fit (v := v) (a := x) (b := y) (by unfold andN at hab; simp [fitB, andN, hab]) v.length
  simp only [fitB, Bool.and_eq_true, decide_eq_true_eq] at hfit
  have eS : betwS N v x y = ((betw v x y v.length : Nat) : Int) := by unfold betwS; rw [hok]; simp
  have eV : betwV N v x y = gv v (betw v x y v.length) := by unfold betwV; rw [hok]; simp
  have eM : minR N v = minT v (v.length - 1) := by unfold minR minV; rw [hf]; simp
  refine ⟨?_, ?_, ?_, ?_⟩
  · rw [eV, eM]
    have := minT_le v (v.length - 1) (betw v x y v.length) (by omega)
    simp; omega
  · rw [eS, band_n _ _ (by omega) (by omega), hfit.1]; simp
  · rw [eS, band_n _ _ (by omega) (by omega), hfit.2]; rfl
  · rw [eS, eV]
    unfold valR
    rw [hf]
    have : inR ((betw v x y v.length : Nat) : Int) 0 ((v.length : Int) - 1) = true := by simp [inR]; omega
    rw [this]
    simp
end Go.Proofs.Ytokeejachclpeaa
