/-
  Walks: numbers within bounds; ratios compared.
-/
import Derived.Test.YtokeejachclpeaaProg
import Derived.Test.YtokeejachclpeaaMem
namespace Go.Proofs.Ytokeejachclpeaa
open Go.RowKit

theorem within_any (x l h : Int) (w : World) : Calls Try.prog 181 #[.int .i64 x, .int .i64 l, .int .i64 h] w fun e w' => e = .returned (.bool (inR x l h)) ∧ w = w' := by
  unfold inR
  go_enter Try.func181, Try.ntmps181
  go_wp2
  all_goals go_ret
  all_goals exact ⟨by simp [*] <;> omega, rfl⟩
theorem l1In_any (x l h : Int) (w : World) : Calls Try.prog 138 #[.int .i64 x, .int .i64 l, .int .i64 h] w fun e w' => e = .returned (.bool (inR x l h)) ∧ w = w' := by
  unfold inR
  go_enter Try.func138, Try.ntmps138
  go_wp2
  all_goals go_ret
  all_goals exact ⟨by simp [*] <;> omega, rfl⟩
theorem areWithin_any (A : Option Addr) (n c : Nat) (v : List Int) (l h : Int) (w : World) (hv : Ints w A n v) :
    Calls Try.prog 151 #[.slice A n c, .int .i64 l, .int .i64 h] w fun e w' => e = .returned (.bool (allIn v l h)) ∧ w = w' := by
  have hle := hv.le
  have hlen := hide hv.len
  go_enter Try.func151, Try.ntmps151
  go_wp2
  go_loop [11] (fun i => ∃ k : Nat, k ≤ n ∧ i = .int .i64 k ∧ allIn (v.take k) l h = true) (fun i => n - (intOf i).toNat)
  case atStart => exact ⟨0, Nat.zero_le _, rfl, rfl⟩
  case round =>
    obtain ⟨k, hk, rfl, hall⟩ := hrel
    have Hall := hide hall; clear hall
    by_cases hlt : k < n
    · obtain ⟨b, off, rfl, hb, hc⟩ := hv.at_ hlt
      go_wp2_with (go_at_call 181; refine (within_any _ _ _ _).mono ?_; rintro e w' ⟨rfl, rfl⟩)
      · have hq : (!inR (gv v k) l h) = true := by assumption
        go_ret
        exact ⟨ret_bool (allIn_false (by rw [hlen.out]; exact hlt) (by simpa using hq)).symm, rfl⟩
      · have hq : (!inR (gv v k) l h) = false := by assumption
        exact ⟨⟨k + 1, by omega, by go_num, by rw [allIn_snoc (by rw [hlen.out]; exact hlt), Hall.out]; simpa using hq⟩, by simp [intOf]; omega⟩
    · go_wp2
      go_ret
      obtain rfl : k = n := by omega
      exact ⟨ret_bool (by rw [← Hall.out, List.take_of_length_le (by rw [hlen.out]; omega)]), rfl⟩
theorem prod_bd {a d : Int} (h1 : 0 ≤ a) (h2 : a ≤ 100000) (h3 : 1 ≤ d) (h4 : d ≤ 100000) : 0 ≤ a * d ∧ a * d ≤ 10000000000 := by
  have ha : a * d ≤ 100000 * 100000 := Int.mul_le_mul h2 h4 (by omega) (by omega)
  have hb : 0 ≤ a * d := Int.mul_nonneg h1 (by omega)
  omega
theorem compareRatios_any (a b c d : Int) (w : World) : Calls Try.prog 130 #[.int .i64 a, .int .i64 b, .int .i64 c, .int .i64 d] w fun e w' => e = .returned (.int .i64 (cmpR a b c d)) ∧ w = w' := by
  unfold cmpR
  cases ha : inR a 0 100000 <;> cases hb : inR b 1 100000 <;> cases hc : inR c 0 100000 <;> cases hd : inR d 1 100000
  case true.true.true.true =>
    obtain ⟨p1, p2⟩ := prod_bd (inR_true ha).1 (inR_true ha).2 (inR_true hd).1 (inR_true hd).2
    obtain ⟨p3, p4⟩ := prod_bd (inR_true hc).1 (inR_true hc).2 (inR_true hb).1 (inR_true hb).2
    go_enter Try.func130, Try.ntmps130
    go_wp2_with (go_at_call 181; refine (within_any _ _ _ _).mono ?_; rintro e w' ⟨rfl, rfl⟩)
    all_goals go_ret
    all_goals refine ⟨ret_int ?_, rfl⟩
    all_goals simp <;> (repeat' split) <;> omega
  all_goals
    go_enter Try.func130, Try.ntmps130
    go_wp2_with (go_at_call 181; refine (within_any _ _ _ _).mono ?_; rintro e w' ⟨rfl, rfl⟩)
    go_ret
    exact ⟨rfl, rfl⟩
theorem specCompareRatios_any (a b c d : Int) (w : World) : Calls Try.prog 131 #[.int .i64 a, .int .i64 b, .int .i64 c, .int .i64 d] w fun e w' => e = .returned (.int .i64 (cmpR a b c d)) ∧ w = w' := by
  unfold cmpR
  cases ha : inR a 0 100000 <;> cases hb : inR b 1 100000 <;> cases hc : inR c 0 100000 <;> cases hd : inR d 1 100000
  case true.true.true.true =>
    obtain ⟨p1, p2⟩ := prod_bd (inR_true ha).1 (inR_true ha).2 (inR_true hd).1 (inR_true hd).2
    obtain ⟨p3, p4⟩ := prod_bd (inR_true hc).1 (inR_true hc).2 (inR_true hb).1 (inR_true hb).2
    go_enter Try.func131, Try.ntmps131
    go_wp2_with (go_at_call 138; refine (l1In_any _ _ _ _).mono ?_; rintro e w' ⟨rfl, rfl⟩)
    all_goals go_ret
    all_goals refine ⟨ret_int ?_, rfl⟩
    all_goals simp <;> (repeat' split) <;> omega
  all_goals
    go_enter Try.func131, Try.ntmps131
    go_wp2_with (go_at_call 138; refine (l1In_any _ _ _ _).mono ?_; rintro e w' ⟨rfl, rfl⟩)
    go_ret
    exact ⟨rfl, rfl⟩
end Go.Proofs.Ytokeejachclpeaa
