/-
  Walks: fractions in lowest terms.
-/
import Derived.Test.YtboggeipdgimdaaBits
import Derived.BigQuiet
namespace Go.Proofs.Ytboggeipdgimdaa
open Go.RowKit

theorem gcd_step (x y : Nat) : Nat.gcd y (x % y) = Nat.gcd x y := by
  rw [Nat.gcd_comm y, ← Nat.gcd_rec, Nat.gcd_comm]
theorem l13Divisor_any (a b : Nat) (w : World) (ha : a ≤ 100000) (hb : b ≤ 100000) (h0 : 0 < Nat.gcd a b) :
    Calls Try.prog 68 #[.int .i64 (a : Int), .int .i64 (b : Int)] w fun e w' => e = .returned (.int .i64 ((Nat.gcd a b : Nat) : Int)) ∧ w = w' := by
  go_enter Try.func68, Try.ntmps68
  go_wp2
  go_loop [0, 1] (fun s t => ∃ x y : Nat, s = .int .i64 (x : Int) ∧ t = .int .i64 (y : Int) ∧ x ≤ 100000 ∧ y ≤ 100000 ∧ Nat.gcd x y = Nat.gcd a b) (fun _ t => (intOf t).toNat)
  case atStart => exact ⟨a, b, rfl, rfl, ha, hb, rfl⟩
  case round =>
    obtain ⟨x, y, rfl, rfl, hx, hy, hg⟩ := hrel
    by_cases hy0 : 0 < y
    · have hst := hide (gcd_step x y)
      have Hg := hide hg; clear hg
      have hlt := Nat.mod_lt x hy0
      go_wp2
      go_round
      case rel => exact ⟨y, x % y, rfl, by congr 1, hy, by omega, by rw [hst.out, Hg.out]⟩
      case measure => simp [intOf]; omega
    · obtain rfl : y = 0 := by omega
      rw [Nat.gcd_zero_right] at hg
      subst hg
      go_wp2
      all_goals go_ret
      all_goals exact ⟨ret_int (by omega), rfl⟩
theorem lowest_any (a b : Nat) (w : World) (ha : a ≤ 100000) (hb : b ≤ 100000) (h0 : 0 < Nat.gcd a b) :
    Calls Try.prog 71 #[.int .i64 (a : Int), .int .i64 (b : Int)] w fun e w' => e = .returned (.tuple #[.int .i64 ((a / Nat.gcd a b : Nat) : Int), .int .i64 ((b / Nat.gcd a b : Nat) : Int)]) ∧ Below w.heap.size w w' := by
  go_enter Try.func71, Try.ntmps71
  go_wp2
  go_loopw [6, 7] (fun s t wr => ∃ x y : Nat, s = .int .i64 (x : Int) ∧ t = .int .i64 (y : Int) ∧ x ≤ 100000 ∧ y ≤ 100000 ∧ Nat.gcd x y = Nat.gcd a b ∧ Below w.heap.size w wr) (fun _ t _ => (intOf t).toNat)
  case atStart => exact ⟨a, b, rfl, rfl, ha, hb, rfl, Below.refl _ _⟩
  case round =>
    obtain ⟨x, y, rfl, rfl, hx, hy, hg, hbel⟩ := hrel
    by_cases hy0 : 0 < y
    · have hst := hide (gcd_step x y)
      have Hg := hide hg; clear hg
      have hlt := Nat.mod_lt x hy0
      go_wp2
      go_quiet (fail)
      go_wp2
      go_roundw
      case rel => exact ⟨y, x % y, rfl, by congr 1, hy, by omega, by rw [hst.out, Hg.out], below_drewN hbel _⟩
      case measure => simp [intOf]; omega
    · obtain rfl : y = 0 := by omega
      rw [Nat.gcd_zero_right] at hg
      subst hg
      have d1 : wrap64 ((a : Int) / ((Nat.gcd a b : Nat) : Int)) = ((a / Nat.gcd a b : Nat) : Int) := by
        have := Nat.div_le_self a (Nat.gcd a b)
        rw [show (a : Int) / ((Nat.gcd a b : Nat) : Int) = ((a / Nat.gcd a b : Nat) : Int) by norm_cast]
        generalize a / Nat.gcd a b = q at *
        exact IntWalk.wrap64_in _ (by omega)
      have d2 : wrap64 ((b : Int) / ((Nat.gcd a b : Nat) : Int)) = ((b / Nat.gcd a b : Nat) : Int) := by
        have := Nat.div_le_self b (Nat.gcd a b)
        rw [show (b : Int) / ((Nat.gcd a b : Nat) : Int) = ((b / Nat.gcd a b : Nat) : Int) by norm_cast]
        generalize b / Nat.gcd a b = q at *
        exact IntWalk.wrap64_in _ (by omega)
      go_wp2
      go_quiet (fail)
      go_wp2
      go_ret2
      exact ⟨by rw [← d1, ← d2]; rfl, below_drewN hbel _⟩
end Go.Proofs.Ytboggeipdgimdaa
