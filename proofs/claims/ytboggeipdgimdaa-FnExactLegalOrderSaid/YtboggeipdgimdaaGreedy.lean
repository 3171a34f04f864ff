/-
  Walks: greed for a size.
-/
import Derived.Test.YtboggeipdgimdaaBest
import Derived.Test.YtboggeipdgimdaaClass
namespace Go.Proofs.Ytboggeipdgimdaa
open Go.RowKit

/-- Is element e a better one to add to s than b? (b below 0: none yet.) -/
def betT (v : List Int) (s e : Nat) (b : Int) : Bool := decide (b < 0) || decide (gv v (insN s b.toNat) < gv v (insN s e))
/-- The first of the elements below e that adds most to s; -1: none. -/
def pickT (v : List Int) (s : Nat) : Nat → Int
  | 0 => -1
  | e + 1 => if (!hasB s e && betT v s e (pickT v s e)) = true then (e : Int) else pickT v s e
def pickN (v : List Int) (s N : Nat) : Nat := (pickT v s N).toNat
theorem pick_form (v : List Int) (s : Nat) : ∀ e, pickT v s e = -1 ∨ ∃ b : Nat, b < e ∧ pickT v s e = (b : Int)
  | 0 => .inl rfl
  | e + 1 => by
    unfold pickT
    split
    · exact .inr ⟨e, by omega, rfl⟩
    · rcases pick_form v s e with h | ⟨b, hb, h⟩
      · exact .inl h
      · exact .inr ⟨b, by omega, h⟩
theorem pick_some (v : List Int) (s : Nat) : ∀ e, (∃ j, j < e ∧ hasB s j = false) → ∃ b : Nat, b < e ∧ pickT v s e = (b : Int)
  | 0, h => by obtain ⟨j, hj, _⟩ := h; omega
  | e + 1, h => by
    unfold pickT
    split
    · exact ⟨e, by omega, rfl⟩
    · rename_i hn
      rcases pick_form v s e with h1 | ⟨b, hb, h1⟩
      · exfalso
        obtain ⟨j, hj, hh⟩ := h
        by_cases he : j = e
        · subst he
          apply hn
          simp [hh, h1, betT]
        · obtain ⟨b, hb, h2⟩ := pick_some v s e ⟨j, by omega, hh⟩
          omega
      · exact ⟨b, by omega, h1⟩
theorem pop_ins : ∀ s : Fin 32, ∀ k : Fin 5, popN (insN s.val k.val) ≤ popN s.val + 1 := by decide +kernel
theorem pop_room : ∀ N : Fin 6, ∀ s : Fin 32, s.val < 2 ^ N.val → popN s.val < N.val → ∃ j : Fin 5, j.val < N.val ∧ hasB s.val j.val = false := by decide +kernel
/-- The list and the set after j rounds. -/
def grN (v : List Int) (N : Nat) : Nat → List Int × Nat
  | 0 => ([], 0)
  | j + 1 => ((grN v N j).1 ++ [((pickN v (grN v N j).2 N : Nat) : Int)], insN (grN v N j).2 (pickN v (grN v N j).2 N))
theorem gr_pick {v : List Int} {N s j : Nat} (hN : N ≤ 5) (hs : s < 2 ^ N) (hp : popN s ≤ j) (hj : j < N) : pickT v s N = ((pickN v s N : Nat) : Int) ∧ pickN v s N < N := by
  have h32 : (2 : Nat) ^ N ≤ 32 := Nat.pow_le_pow_right (by omega) hN
  obtain ⟨i, hi, hh⟩ := pop_room ⟨N, by omega⟩ ⟨s, by omega⟩ hs (show popN s < N by omega)
  obtain ⟨b, hb, h⟩ := pick_some v s N ⟨i.val, hi, hh⟩
  unfold pickN; rw [h]
  exact ⟨by simp, by simpa using hb⟩
theorem gr_inv (v : List Int) {N : Nat} (hN : N ≤ 5) : ∀ j, j ≤ N → (grN v N j).2 < 2 ^ N ∧ popN (grN v N j).2 ≤ j ∧ (grN v N j).1.length = j
  | 0, _ => ⟨Nat.two_pow_pos N, by simp [grN, popN], rfl⟩
  | j + 1, hj => by
    obtain ⟨h1, h2, h3⟩ := gr_inv v hN j (by omega)
    obtain ⟨h4, h5⟩ := gr_pick (v := v) hN h1 h2 (by omega)
    have h32 : (2 : Nat) ^ N ≤ 32 := Nat.pow_le_pow_right (by omega) hN
    refine ⟨insN_lt h1 h5, ?_, by simp [grN, h3]⟩
    have := pop_ins ⟨(grN v N j).2, by omega⟩ ⟨pickN v (grN v N j).2 N, by omega⟩
    simp only [grN]
    simp only at this
    omega
def grL (E : Int) (v : List Int) (k : Int) : List Int := if bestOk E v k then (grN v E.toNat k.toNat).1 else []
def grV (E : Int) (v : List Int) (k : Int) : Int := if bestOk E v k then gv v (grN v E.toNat k.toNat).2 else 0

end Go.Proofs.Ytboggeipdgimdaa
