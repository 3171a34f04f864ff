/-
  Walks: vectors: their bounds, negative parts.
-/
import Derived.Test.YtboggeipdgimdaaNum
namespace Go.Proofs.Ytboggeipdgimdaa
open Go.RowKit

theorem l8Vector_any (A : Option Addr) (n c : Nat) (v : List Int) (w : World) (hv : Ints w A n v) :
    Calls Try.prog 90 #[.slice A n c] w fun e w' => e = .returned (.bool (vecOk 5000 v)) ∧ w = w' := by
  have hle := hv.le
  have hlen := hide hv.len
  go_enter Try.func90, Try.ntmps90
  go_wp2
  go_loop [3] (fun i => ∃ k : Nat, k ≤ n ∧ i = .int .i64 k ∧ allIn (v.take k) (-5000) 5000 = true) (fun i => n - (intOf i).toNat)
  case atStart => exact ⟨0, Nat.zero_le _, rfl, rfl⟩
  case round =>
    obtain ⟨k, hk, rfl, hall⟩ := hrel
    have Hall := hide hall; clear hall
    by_cases hlt : k < n
    · obtain ⟨b, off, rfl, hb, hc⟩ := hv.at_ hlt
      go_wp2_with (go_at_call 53; refine (l1In_any _ _ _ _).mono ?_; rintro e w' ⟨rfl, rfl⟩)
      · have hq : (!inR (gv v k) (-5000) 5000) = true := by assumption
        go_ret
        exact ⟨ret_bool (by simp [vecOk, allIn_false (v := v) (by rw [hlen.out]; exact hlt) (by simpa using hq)]), rfl⟩
      · have hq : (!inR (gv v k) (-5000) 5000) = false := by assumption
        exact ⟨⟨k + 1, by omega, by go_num, by rw [allIn_snoc (by rw [hlen.out]; exact hlt), Hall.out]; simpa using hq⟩, by simp [intOf]; omega⟩
    · obtain rfl : k = n := by omega
      have hall : allIn v (-5000) 5000 = true := by rw [← Hall.out, List.take_of_length_le (by rw [hlen.out]; omega)]
      have hA := hide hall; clear hall
      go_wp2
      go_ret
      exact ⟨ret_bool (by simp [vecOk, hA.out, hlen.out]; omega), rfl⟩
theorem l7Vector_any (A : Option Addr) (n c : Nat) (v : List Int) (w : World) (hv : Ints w A n v) :
    Calls Try.prog 74 #[.slice A n c] w fun e w' => e = .returned (.bool (vecOk 1000 v)) ∧ w = w' := by
  have hle := hv.le
  have hlen := hide hv.len
  go_enter Try.func74, Try.ntmps74
  go_wp2
  go_loop [3] (fun i => ∃ k : Nat, k ≤ n ∧ i = .int .i64 k ∧ allIn (v.take k) (-1000) 1000 = true) (fun i => n - (intOf i).toNat)
  case atStart => exact ⟨0, Nat.zero_le _, rfl, rfl⟩
  case round =>
    obtain ⟨k, hk, rfl, hall⟩ := hrel
    have Hall := hide hall; clear hall
    by_cases hlt : k < n
    · obtain ⟨b, off, rfl, hb, hc⟩ := hv.at_ hlt
      go_wp2_with (go_at_call 53; refine (l1In_any _ _ _ _).mono ?_; rintro e w' ⟨rfl, rfl⟩)
      · have hq : (!inR (gv v k) (-1000) 1000) = true := by assumption
        go_ret
        exact ⟨ret_bool (by simp [vecOk, allIn_false (v := v) (by rw [hlen.out]; exact hlt) (by simpa using hq)]), rfl⟩
      · have hq : (!inR (gv v k) (-1000) 1000) = false := by assumption
        exact ⟨⟨k + 1, by omega, by go_num, by rw [allIn_snoc (by rw [hlen.out]; exact hlt), Hall.out]; simpa using hq⟩, by simp [intOf]; omega⟩
    · obtain rfl : k = n := by omega
      have hall : allIn v (-1000) 1000 = true := by rw [← Hall.out, List.take_of_length_le (by rw [hlen.out]; omega)]
      have hA := hide hall; clear hall
      go_wp2
      go_ret
      exact ⟨ret_bool (by simp [vecOk, hA.out, hlen.out]; omega), rfl⟩
theorem isVector_any (A : Option Addr) (n c : Nat) (v : List Int) (w : World) (hv : Ints w A n v) :
    Calls Try.prog 75 #[.slice A n c] w fun e w' => e = .returned (.bool (vecOk 1000 v)) ∧ w = w' := by
  have hlen := hide hv.len
  have e0 : vecOk 1000 v = (decide (n ≤ 5) && allIn v (-1000) 1000) := by simp [vecOk, hlen.out]
  rw [e0]; clear e0
  go_enter Try.func75, Try.ntmps75
  go_wp2_with (go_at_call 98; refine (areWithin_any _ _ _ _ _ _ _ hv).mono ?_; rintro e w' ⟨rfl, rfl⟩)
  all_goals go_ret
  all_goals exact ⟨ret_bool (by simp [*] <;> omega), rfl⟩
end Go.Proofs.Ytboggeipdgimdaa
