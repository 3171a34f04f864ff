/-
  Walks: fractions in lowest terms.
  Walks: curvature.
  Walks: greed for a size.
  Walks: does greed reach its part; the ratio of greed to the best.
-/
import Derived.Test.YtfmibekefllhjaaCore
import Derived.BigQuiet
import Derived.Test.YtfmibekefllhjaaSubM
import Derived.Test.YtfmibekefllhjaaBelM
import Derived.Test.YtfmibekefllhjaaClass
import Derived.Test.YtfmibekefllhjaaMinM
namespace Go.Proofs.Ytfmibekefllhjaa
open Go.RowKit

theorem gcd_step (x y : Nat) : Nat.gcd y (x % y) = Nat.gcd x y := by
  rw [Nat.gcd_comm y, ← Nat.gcd_rec, Nat.gcd_comm]
end Go.Proofs.Ytfmibekefllhjaa
namespace Go.Proofs.Ytfmibekefllhjaa
open Go.RowKit

/-- What element k adds last. -/
def lastN (v : List Int) (n k : Nat) : Int := gv v (n - 1) - gv v (n - 1 - p2 k)
/-- What element k loses of its own value. -/
def lostN (v : List Int) (n k : Nat) : Int := gv v (p2 k) - lastN v n k
/-- Is the part that k loses greater than a/b? -/
def curB (v : List Int) (n k : Nat) (a b : Int) : Bool := decide (0 < gv v (p2 k)) && decide (a * gv v (p2 k) < lostN v n k * b)
def curT (v : List Int) (n : Nat) : Nat → Int × Int
  | 0 => (0, 1)
  | k + 1 => if curB v n k (curT v n k).1 (curT v n k).2 then (lostN v n k, gv v (p2 k)) else curT v n k
theorem prod_bd' {x y l q : Int} (h1 : -l ≤ x) (h2 : x ≤ l) (h3 : 1 ≤ y) (h4 : y ≤ q) : -(l * q) ≤ x * y ∧ x * y ≤ l * q := by
  have hl : 0 ≤ l := by omega
  have h5 : x * y ≤ l * y := Int.mul_le_mul_of_nonneg_right h2 (by omega)
  have h6 : l * y ≤ l * q := Int.mul_le_mul_of_nonneg_left h4 hl
  have h7 : -l * y ≤ x * y := Int.mul_le_mul_of_nonneg_right h1 (by omega)
  have h8 : -l * y = -(l * y) := Int.neg_mul _ _
  omega
theorem last_bits : ∀ N : Fin 6, ∀ k : Fin 5, k.val < N.val → (2 ^ N.val - 1) ^^^ ((2 ^ N.val - 1) &&& 2 ^ k.val) = 2 ^ N.val - 1 - 2 ^ k.val ∧ (2 ^ N.val - 1 - 2 ^ k.val) ||| 2 ^ k.val = 2 ^ N.val - 1 ∧ 2 ^ k.val ≤ 2 ^ N.val - 1 := by decide +kernel
theorem fn_last {N n : Nat} {v : List Int} (fo : FnOk N n v) {k : Nat} (hk : k < N) : diffN (n - 1) (p2 k) = n - 1 - p2 k ∧ insN (n - 1 - p2 k) k = n - 1 ∧ p2 k ≤ n - 1 := by
  have hN := fo.hN
  have h := last_bits ⟨N, by omega⟩ ⟨k, by omega⟩ hk
  rw [fo.hn]
  exact h
theorem fn_lastb {N n : Nat} {v : List Int} (fo : FnOk N n v) {k : Nat} (_hk : k < N) : -2000 ≤ lastN v n k ∧ lastN v n k ≤ 2000 := by
  have h0 := fo.n0
  have := fo.bd (s := n - 1) (by omega)
  have := fo.bd (s := n - 1 - p2 k) (by omega)
  unfold lastN; omega
theorem cur_inv {N n : Nat} {v : List Int} (fo : FnOk N n v) : ∀ k, k ≤ N → 0 ≤ (curT v n k).1 ∧ (curT v n k).1 ≤ 4000 ∧ 1 ≤ (curT v n k).2 ∧ (curT v n k).2 ≤ 1000
  | 0, _ => by simp [curT]
  | k + 1, hk => by
    have ih := cur_inv fo k (by omega)
    unfold curT
    cases hb : curB v n k (curT v n k).1 (curT v n k).2
    · simpa using ih
    · simp only [curB, Bool.and_eq_true, decide_eq_true_eq] at hb
      obtain ⟨h1, h2⟩ := hb
      have h3 := fo.bd (fo.p2 (k := k) (by omega))
      have h4 := fn_lastb fo (k := k) (by omega)
      have h5 : 0 ≤ (curT v n k).1 * gv v (p2 k) := Int.mul_nonneg ih.1 (Int.le_of_lt h1)
      have h6 : 0 < lostN v n k * (curT v n k).2 := by omega
      have h7 : 0 < lostN v n k := Int.pos_of_mul_pos_left h6 (by omega)
      simp only [if_true]
      have h8 : lostN v n k ≤ 4000 := by unfold lostN; omega
      omega
def curA (E : Int) (v : List Int) : Nat := (curT v v.length E.toNat).1.toNat
def curD (E : Int) (v : List Int) : Nat := (curT v v.length E.toNat).2.toNat
def curX (E : Int) (v : List Int) : Int := if polyB E v then ((curA E v / Nat.gcd (curA E v) (curD E v) : Nat) : Int) else 0
def curY (E : Int) (v : List Int) : Int := if polyB E v then ((curD E v / Nat.gcd (curA E v) (curD E v) : Nat) : Int) else 0
theorem poly_fn {E : Int} {v : List Int} (h : polyB E v = true) : isFn E v = true := by
  simp only [polyB, Bool.and_eq_true] at h; exact grd_fn h.1

theorem top_bits : ∀ s : Fin 32, s.val ≠ 0 → ∃ e : Fin 5, ∃ t : Fin 32, t.val < s.val ∧ t.val ||| 2 ^ e.val = s.val ∧ 2 ^ e.val ≤ s.val := by decide +kernel
theorem top_bit (N : Nat) (hN : N ≤ 5) (s : Nat) (hs : s < 2 ^ N) (h0 : s ≠ 0) : ∃ e t : Nat, e < N ∧ t < s ∧ insN t e = s := by
  have h32 : (2 : Nat) ^ N ≤ 32 := Nat.pow_le_pow_right (by omega) hN
  obtain ⟨e, t, h1, h2, h3⟩ := top_bits ⟨s, by omega⟩ h0
  refine ⟨e.val, t.val, ?_, h1, h2⟩
  have h4 : 2 ^ e.val < 2 ^ N := Nat.lt_of_le_of_lt h3 hs
  exact (Nat.pow_lt_pow_iff_right (by omega)).1 h4
theorem poly_pos {E : Int} {v : List Int} (h : polyB E v = true) : ∀ s, s < v.length → 0 ≤ gv v s := by
  simp only [polyB, grdB, Bool.and_eq_true, decide_eq_true_eq] at h
  obtain ⟨⟨hf, h0⟩, hi, _⟩ := h
  obtain ⟨N, rfl, hN, hl, _⟩ := isFn_true hf
  obtain ⟨_, hg⟩ := inc_gain hi
  have hpop : ∀ s : Nat, s < v.length → 0 ≤ gv v s := by
    intro s
    induction s using Nat.strongRecOn with
    | ind s ih =>
      intro hs
      by_cases hz : s = 0
      · subst hz; omega
      · have hb := top_bit N hN s (by omega) (by omega)
        obtain ⟨e, t, he, ht, hte⟩ := hb
        have h1 := ih t ht (by omega)
        have h2 := hg t (by omega) e (by omega)
        unfold gainN at h2
        rw [hte] at h2
        omega
  exact hpop
end Go.Proofs.Ytfmibekefllhjaa
namespace Go.Proofs.Ytfmibekefllhjaa
open Go.RowKit

/-- Is element e a better one to add to s than b? (b below 0: none yet.) -/
def betT (v : List Int) (s e : Nat) (b : Int) : Bool := decide (b < 0) || decide (gv v (insN s b.toNat) < gv v (insN s e))
/-- The first of the elements below e that adds most to s; -1: none. -/
def pickT (v : List Int) (s : Nat) : Nat → Int
  | 0 => -1
  | e + 1 => if (!hasB s e && betT v s e (pickT v s e)) = true then (e : Int) else pickT v s e
def pickN (v : List Int) (s N : Nat) : Nat := (pickT v s N).toNat
theorem pick_form (v : List Int) (s : Nat) : ∀ e, pickT v s e = -1 ∨ ∃ b : Nat, b < e ∧ pickT v s e = (b : Int)
  | 0 => .inl rfl
  | e + 1 => by
    unfold pickT
    split
    · exact .inr ⟨e, by omega, rfl⟩
    · rcases pick_form v s e with h | ⟨b, hb, h⟩
      · exact .inl h
      · exact .inr ⟨b, by omega, h⟩
theorem pick_some (v : List Int) (s : Nat) : ∀ e, (∃ j, j < e ∧ hasB s j = false) → ∃ b : Nat, b < e ∧ pickT v s e = (b : Int)
  | 0, h => by obtain ⟨j, hj, _⟩ := h; omega
  | e + 1, h => by
    unfold pickT
    split
    · exact ⟨e, by omega, rfl⟩
    · rename_i hn
      rcases pick_form v s e with h1 | ⟨b, hb, h1⟩
      · exfalso
        obtain ⟨j, hj, hh⟩ := h
        by_cases he : j = e
        · subst he
          apply hn
          simp [hh, h1, betT]
        · obtain ⟨b, hb, h2⟩ := pick_some v s e ⟨j, by omega, hh⟩
          omega
      · exact ⟨b, by omega, h1⟩
theorem pop_ins : ∀ s : Fin 32, ∀ k : Fin 5, popN (insN s.val k.val) ≤ popN s.val + 1 := by decide +kernel
theorem pop_room : ∀ N : Fin 6, ∀ s : Fin 32, s.val < 2 ^ N.val → popN s.val < N.val → ∃ j : Fin 5, j.val < N.val ∧ hasB s.val j.val = false := by decide +kernel
/-- The list and the set after j rounds. -/
def grN (v : List Int) (N : Nat) : Nat → List Int × Nat
  | 0 => ([], 0)
  | j + 1 => ((grN v N j).1 ++ [((pickN v (grN v N j).2 N : Nat) : Int)], insN (grN v N j).2 (pickN v (grN v N j).2 N))
theorem gr_pick {v : List Int} {N s j : Nat} (hN : N ≤ 5) (hs : s < 2 ^ N) (hp : popN s ≤ j) (hj : j < N) : pickT v s N = ((pickN v s N : Nat) : Int) ∧ pickN v s N < N := by
  have h32 : (2 : Nat) ^ N ≤ 32 := Nat.pow_le_pow_right (by omega) hN
  obtain ⟨i, hi, hh⟩ := pop_room ⟨N, by omega⟩ ⟨s, by omega⟩ hs (show popN s < N by omega)
  obtain ⟨b, hb, h⟩ := pick_some v s N ⟨i.val, hi, hh⟩
  unfold pickN; rw [h]
  exact ⟨by simp, by simpa using hb⟩
theorem gr_inv (v : List Int) {N : Nat} (hN : N ≤ 5) : ∀ j, j ≤ N → (grN v N j).2 < 2 ^ N ∧ popN (grN v N j).2 ≤ j ∧ (grN v N j).1.length = j
  | 0, _ => ⟨Nat.two_pow_pos N, by simp [grN, popN], rfl⟩
  | j + 1, hj => by
    obtain ⟨h1, h2, h3⟩ := gr_inv v hN j (by omega)
    obtain ⟨h4, h5⟩ := gr_pick (v := v) hN h1 h2 (by omega)
    have h32 : (2 : Nat) ^ N ≤ 32 := Nat.pow_le_pow_right (by omega) hN
    refine ⟨insN_lt h1 h5, ?_, by simp [grN, h3]⟩
    have := pop_ins ⟨(grN v N j).2, by omega⟩ ⟨pickN v (grN v N j).2 N, by omega⟩
    simp only [grN]
    simp only at this
    omega
def grL (E : Int) (v : List Int) (k : Int) : List Int := if bestOk E v k then (grN v E.toNat k.toNat).1 else []
def grV (E : Int) (v : List Int) (k : Int) : Int := if bestOk E v k then gv v (grN v E.toNat k.toNat).2 else 0

end Go.Proofs.Ytfmibekefllhjaa
namespace Go.Proofs.Ytfmibekefllhjaa
open Go.RowKit

/-- b times itself, n times. -/
def pw (b : Int) : Nat → Int
  | 0 => 1
  | j + 1 => pw b j * b
theorem pw_bds : ∀ q : Fin 7, ∀ j : Fin 6, -3125 ≤ pw ((q.val : Int) - 1) j.val ∧ pw ((q.val : Int) - 1) j.val ≤ 3125 := by decide +kernel
theorem pw_bd {b : Int} {j : Nat} (h1 : -1 ≤ b) (h2 : b ≤ 5) (hj : j ≤ 5) : -3125 ≤ pw b j ∧ pw b j ≤ 3125 := by
  have h := pw_bds ⟨(b + 1).toNat, by omega⟩ ⟨j, by omega⟩
  simp only [Int.toNat_of_nonneg (show 0 ≤ b + 1 by omega), Int.add_sub_cancel] at h
  exact h
theorem prod_abs {x y l q : Int} (h1 : -l ≤ x) (h2 : x ≤ l) (h3 : -q ≤ y) (h4 : y ≤ q) : -(l * q) ≤ x * y ∧ x * y ≤ l * q := by
  have a : (x * y).natAbs ≤ l.natAbs * q.natAbs := by
    rw [Int.natAbs_mul]; exact Nat.mul_le_mul (by omega) (by omega)
  have hl : 0 ≤ l := by omega
  have hq : 0 ≤ q := by omega
  have e : ((l.natAbs * q.natAbs : Nat) : Int) = l * q := by
    rw [Int.natCast_mul, Int.natAbs_of_nonneg hl, Int.natAbs_of_nonneg hq]
  omega
theorem best_bd {N n : Nat} {v : List Int} (fo : FnOk N n v) (k : Int) : -1000 ≤ gv v (bestN (sizeP k) v n) ∧ gv v (bestN (sizeP k) v n) ≤ 1000 := fo.bd (bestN_lt _ _ _ fo.n0)
def gr1 (v : List Int) (N K : Nat) : Int := gv v (grN v N K).2
theorem gr_bd {N n : Nat} {v : List Int} (fo : FnOk N n v) {K : Nat} (hK : K ≤ N) : -1000 ≤ gr1 v N K ∧ gr1 v N K ≤ 1000 := by
  have h := (gr_inv v fo.hN K hK).1
  rw [← fo.hn] at h
  exact fo.bd h
def best1 (v : List Int) (n K : Nat) : Int := gv v (bestN (sizeP K) v n)
def reachB (E : Int) (v : List Int) (k : Int) : Bool := polyB E v && (bestOk E v k && decide ((best1 v v.length k.toNat - gr1 v E.toNat k.toNat) * pw k k.toNat ≤ best1 v v.length k.toNat * pw (k - 1) k.toNat))
def ratOk (E : Int) (v : List Int) (k : Int) : Bool := polyB E v && bestOk E v k
def ratA (E : Int) (v : List Int) (k : Int) : Int := if ratOk E v k then (if best1 v v.length k.toNat = 0 then 1 else (((gr1 v E.toNat k.toNat).toNat / Nat.gcd (gr1 v E.toNat k.toNat).toNat (best1 v v.length k.toNat).toNat : Nat) : Int)) else 0
def ratB (E : Int) (v : List Int) (k : Int) : Int := if ratOk E v k then (if best1 v v.length k.toNat = 0 then 1 else (((best1 v v.length k.toNat).toNat / Nat.gcd (gr1 v E.toNat k.toNat).toNat (best1 v v.length k.toNat).toNat : Nat) : Int)) else 0
theorem best_parts {E : Int} {v : List Int} {k : Int} (h : bestOk E v k = true) : isFn E v = true ∧ 0 ≤ k ∧ k ≤ E := by
  simp only [bestOk, Bool.and_eq_true] at h
  exact ⟨h.1, inR_true h.2⟩

end Go.Proofs.Ytfmibekefllhjaa
