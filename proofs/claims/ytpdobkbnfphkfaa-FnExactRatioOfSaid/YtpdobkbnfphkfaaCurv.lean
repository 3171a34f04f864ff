/-
  Walks: curvature.
-/
import Derived.Test.YtpdobkbnfphkfaaIncr
import Derived.Test.YtpdobkbnfphkfaaBase
import Derived.Test.YtpdobkbnfphkfaaClass
import Derived.Test.YtpdobkbnfphkfaaTot
import Derived.Test.YtpdobkbnfphkfaaGcd
namespace Go.Proofs.Ytpdobkbnfphkfaa
open Go.RowKit

/-- What element k adds last. -/
def lastN (v : List Int) (n k : Nat) : Int := gv v (n - 1) - gv v (n - 1 - p2 k)
/-- What element k loses of its own value. -/
def lostN (v : List Int) (n k : Nat) : Int := gv v (p2 k) - lastN v n k
/-- Is the part that k loses greater than a/b? -/
def curB (v : List Int) (n k : Nat) (a b : Int) : Bool := decide (0 < gv v (p2 k)) && decide (a * gv v (p2 k) < lostN v n k * b)
def curT (v : List Int) (n : Nat) : Nat → Int × Int
  | 0 => (0, 1)
  | k + 1 => if curB v n k (curT v n k).1 (curT v n k).2 then (lostN v n k, gv v (p2 k)) else curT v n k
theorem prod_bd' {x y l q : Int} (h1 : -l ≤ x) (h2 : x ≤ l) (h3 : 1 ≤ y) (h4 : y ≤ q) : -(l * q) ≤ x * y ∧ x * y ≤ l * q := by
  have hl : 0 ≤ l := by omega
  have h5 : x * y ≤ l * y := Int.mul_le_mul_of_nonneg_right h2 (by omega)
  have h6 : l * y ≤ l * q := Int.mul_le_mul_of_nonneg_left h4 hl
  have h7 : -l * y ≤ x * y := Int.mul_le_mul_of_nonneg_right h1 (by omega)
  have h8 : -l * y = -(l * y) := Int.neg_mul _ _
  omega
theorem last_bits : ∀ N : Fin 6, ∀ k : Fin 5, k.val < N.val → (2 ^ N.val - 1) ^^^ ((2 ^ N.val - 1) &&& 2 ^ k.val) = 2 ^ N.val - 1 - 2 ^ k.val ∧ (2 ^ N.val - 1 - 2 ^ k.val) ||| 2 ^ k.val = 2 ^ N.val - 1 ∧ 2 ^ k.val ≤ 2 ^ N.val - 1 := by decide +kernel
theorem fn_last {N n : Nat} {v : List Int} (fo : FnOk N n v) {k : Nat} (hk : k < N) : diffN (n - 1) (p2 k) = n - 1 - p2 k ∧ insN (n - 1 - p2 k) k = n - 1 ∧ p2 k ≤ n - 1 := by
  have hN := fo.hN
  have h := last_bits ⟨N, by omega⟩ ⟨k, by omega⟩ hk
  rw [fo.hn]
  exact h
theorem fn_lastb {N n : Nat} {v : List Int} (fo : FnOk N n v) {k : Nat} (_hk : k < N) : -2000 ≤ lastN v n k ∧ lastN v n k ≤ 2000 := by
  have h0 := fo.n0
  have := fo.bd (s := n - 1) (by omega)
  have := fo.bd (s := n - 1 - p2 k) (by omega)
  unfold lastN; omega
theorem cur_inv {N n : Nat} {v : List Int} (fo : FnOk N n v) : ∀ k, k ≤ N → 0 ≤ (curT v n k).1 ∧ (curT v n k).1 ≤ 4000 ∧ 1 ≤ (curT v n k).2 ∧ (curT v n k).2 ≤ 1000
  | 0, _ => by simp [curT]
  | k + 1, hk => by
    have ih := cur_inv fo k (by omega)
    unfold curT
    cases hb : curB v n k (curT v n k).1 (curT v n k).2
    · simpa using ih
    · simp only [curB, Bool.and_eq_true, decide_eq_true_eq] at hb
      obtain ⟨h1, h2⟩ := hb
      have h3 := fo.bd (fo.p2 (k := k) (by omega))
      have h4 := fn_lastb fo (k := k) (by omega)
      have h5 : 0 ≤ (curT v n k).1 * gv v (p2 k) := Int.mul_nonneg ih.1 (Int.le_of_lt h1)
      have h6 : 0 < lostN v n k * (curT v n k).2 := by omega
      have h7 : 0 < lostN v n k := Int.pos_of_mul_pos_left h6 (by omega)
      simp only [if_true]
      have h8 : lostN v n k ≤ 4000 := by unfold lostN; omega
      omega
def curA (E : Int) (v : List Int) : Nat := (curT v v.length E.toNat).1.toNat
def curD (E : Int) (v : List Int) : Nat := (curT v v.length E.toNat).2.toNat
def curX (E : Int) (v : List Int) : Int := if polyB E v then ((curA E v / Nat.gcd (curA E v) (curD E v) : Nat) : Int) else 0
def curY (E : Int) (v : List Int) : Int := if polyB E v then ((curD E v / Nat.gcd (curA E v) (curD E v) : Nat) : Int) else 0
theorem poly_fn {E : Int} {v : List Int} (h : polyB E v = true) : isFn E v = true := by
  simp only [polyB, Bool.and_eq_true] at h; exact grd_fn h.1

theorem top_bits : ∀ s : Fin 32, s.val ≠ 0 → ∃ e : Fin 5, ∃ t : Fin 32, t.val < s.val ∧ t.val ||| 2 ^ e.val = s.val ∧ 2 ^ e.val ≤ s.val := by decide +kernel
theorem top_bit (N : Nat) (hN : N ≤ 5) (s : Nat) (hs : s < 2 ^ N) (h0 : s ≠ 0) : ∃ e t : Nat, e < N ∧ t < s ∧ insN t e = s := by
  have h32 : (2 : Nat) ^ N ≤ 32 := Nat.pow_le_pow_right (by omega) hN
  obtain ⟨e, t, h1, h2, h3⟩ := top_bits ⟨s, by omega⟩ h0
  refine ⟨e.val, t.val, ?_, h1, h2⟩
  have h4 : 2 ^ e.val < 2 ^ N := Nat.lt_of_le_of_lt h3 hs
  exact (Nat.pow_lt_pow_iff_right (by omega)).1 h4
theorem poly_pos {E : Int} {v : List Int} (h : polyB E v = true) : ∀ s, s < v.length → 0 ≤ gv v s := by
  simp only [polyB, grdB, Bool.and_eq_true, decide_eq_true_eq] at h
  obtain ⟨⟨hf, h0⟩, hi, _⟩ := h
  obtain ⟨N, rfl, hN, hl, _⟩ := isFn_true hf
  obtain ⟨_, hg⟩ := inc_gain hi
  have hpop : ∀ s : Nat, s < v.length → 0 ≤ gv v s := by
    intro s
    induction s using Nat.strongRecOn with
    | ind s ih =>
      intro hs
      by_cases hz : s = 0
      · subst hz; omega
      · have hb := top_bit N hN s (by omega) (by omega)
        obtain ⟨e, t, he, ht, hte⟩ := hb
        have h1 := ih t ht (by omega)
        have h2 := hg t (by omega) e (by omega)
        unfold gainN at h2
        rw [hte] at h2
        omega
  exact hpop
end Go.Proofs.Ytpdobkbnfphkfaa
