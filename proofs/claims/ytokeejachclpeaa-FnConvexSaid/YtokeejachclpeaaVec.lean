/-
  Walks: vectors: their bounds, negative parts.
-/
import Derived.Test.YtokeejachclpeaaNum
namespace Go.Proofs.Ytokeejachclpeaa
open Go.RowKit

theorem l8Vector_any (A : Option Addr) (n c : Nat) (v : List Int) (w : World) (hv : Ints w A n v) :
    Calls Try.prog 154 #[.slice A n c] w fun e w' => e = .returned (.bool (vecOk 5000 v)) ∧ w = w' := by
  have hle := hv.le
  have hlen := hide hv.len
  go_enter Try.func154, Try.ntmps154
  go_wp2
  go_loop [3] (fun i => ∃ k : Nat, k ≤ n ∧ i = .int .i64 k ∧ allIn (v.take k) (-5000) 5000 = true) (fun i => n - (intOf i).toNat)
  case atStart => exact ⟨0, Nat.zero_le _, rfl, rfl⟩
  case round =>
    obtain ⟨k, hk, rfl, hall⟩ := hrel
    have Hall := hide hall; clear hall
    by_cases hlt : k < n
    · obtain ⟨b, off, rfl, hb, hc⟩ := hv.at_ hlt
      go_wp2_with (go_at_call 138; refine (l1In_any _ _ _ _).mono ?_; rintro e w' ⟨rfl, rfl⟩)
      · have hq : (!inR (gv v k) (-5000) 5000) = true := by assumption
        go_ret
        exact ⟨ret_bool (by simp [vecOk, allIn_false (v := v) (by rw [hlen.out]; exact hlt) (by simpa using hq)]), rfl⟩
      · have hq : (!inR (gv v k) (-5000) 5000) = false := by assumption
        exact ⟨⟨k + 1, by omega, by go_num, by rw [allIn_snoc (by rw [hlen.out]; exact hlt), Hall.out]; simpa using hq⟩, by simp [intOf]; omega⟩
    · obtain rfl : k = n := by omega
      have hall : allIn v (-5000) 5000 = true := by rw [← Hall.out, List.take_of_length_le (by rw [hlen.out]; omega)]
      have hA := hide hall; clear hall
      go_wp2
      go_ret
      exact ⟨ret_bool (by simp [vecOk, hA.out, hlen.out]; omega), rfl⟩
theorem l7Vector_any (A : Option Addr) (n c : Nat) (v : List Int) (w : World) (hv : Ints w A n v) :
    Calls Try.prog 175 #[.slice A n c] w fun e w' => e = .returned (.bool (vecOk 1000 v)) ∧ w = w' := by
  have hle := hv.le
  have hlen := hide hv.len
  go_enter Try.func175, Try.ntmps175
  go_wp2
  go_loop [3] (fun i => ∃ k : Nat, k ≤ n ∧ i = .int .i64 k ∧ allIn (v.take k) (-1000) 1000 = true) (fun i => n - (intOf i).toNat)
  case atStart => exact ⟨0, Nat.zero_le _, rfl, rfl⟩
  case round =>
    obtain ⟨k, hk, rfl, hall⟩ := hrel
    have Hall := hide hall; clear hall
    by_cases hlt : k < n
    · obtain ⟨b, off, rfl, hb, hc⟩ := hv.at_ hlt
      go_wp2_with (go_at_call 138; refine (l1In_any _ _ _ _).mono ?_; rintro e w' ⟨rfl, rfl⟩)
      · have hq : (!inR (gv v k) (-1000) 1000) = true := by assumption
        go_ret
        exact ⟨ret_bool (by simp [vecOk, allIn_false (v := v) (by rw [hlen.out]; exact hlt) (by simpa using hq)]), rfl⟩
      · have hq : (!inR (gv v k) (-1000) 1000) = false := by assumption
        exact ⟨⟨k + 1, by omega, by go_num, by rw [allIn_snoc (by rw [hlen.out]; exact hlt), Hall.out]; simpa using hq⟩, by simp [intOf]; omega⟩
    · obtain rfl : k = n := by omega
      have hall : allIn v (-1000) 1000 = true := by rw [← Hall.out, List.take_of_length_le (by rw [hlen.out]; omega)]
      have hA := hide hall; clear hall
      go_wp2
      go_ret
      exact ⟨ret_bool (by simp [vecOk, hA.out, hlen.out]; omega), rfl⟩
theorem isVector_any (A : Option Addr) (n c : Nat) (v : List Int) (w : World) (hv : Ints w A n v) :
    Calls Try.prog 187 #[.slice A n c] w fun e w' => e = .returned (.bool (vecOk 1000 v)) ∧ w = w' := by
  have hlen := hide hv.len
  have e0 : vecOk 1000 v = (decide (n ≤ 5) && allIn v (-1000) 1000) := by simp [vecOk, hlen.out]
  rw [e0]; clear e0
  go_enter Try.func187, Try.ntmps187
  go_wp2_with (go_at_call 151; refine (areWithin_any _ _ _ _ _ _ _ hv).mono ?_; rintro e w' ⟨rfl, rfl⟩)
  all_goals go_ret
  all_goals exact ⟨ret_bool (by simp [*] <;> omega), rfl⟩
theorem specNegativePart_any (A : Option Addr) (n c : Nat) (v : List Int) (w : World) (hv : Ints w A n v) :
    Calls Try.prog 33 #[.slice A n c] w fun e w' => e = .returned (.tuple #[.int .i64 (negR v), .bool (vecOk 5000 v)]) ∧ w = w' := by
  have hle := hv.le
  have hlen := hide hv.len
  cases hok : vecOk 5000 v
  · go_enter Try.func33, Try.ntmps33
    go_wp2_with (go_at_call 154; refine (l8Vector_any _ _ _ _ _ hv).mono ?_; rintro e w' ⟨rfl, rfl⟩)
    go_ret2
    exact ⟨by simp [negR, hok], rfl⟩
  · have Hok := hide hok
    have hn5 : n ≤ 5 := by rw [← hlen.out]; exact (vecOk_true Hok.out).1
    go_enter Try.func33, Try.ntmps33
    go_wp2_with (go_at_call 154; refine (l8Vector_any _ _ _ _ _ hv).mono ?_; rintro e w' ⟨rfl, rfl⟩)
    clear hok
    go_loop [4, 5] (fun t i => ∃ k : Nat, k ≤ n ∧ i = .int .i64 k ∧ t = .int .i64 (negSum (v.take k))) (fun _ i => n - (intOf i).toNat)
    case atStart => exact ⟨0, Nat.zero_le _, rfl, rfl⟩
    case round =>
      obtain ⟨k, hk, rfl, rfl⟩ := hrel
      obtain ⟨q1, q2⟩ := negSum_bd Hok.out k
      by_cases hlt : k < n
      · obtain ⟨b, off, rfl, hb, hc⟩ := hv.at_ hlt
        have hs := hide (negSum_snoc (v := v) (k := k) (by rw [hlen.out]; exact hlt))
        obtain ⟨q3, q4⟩ := vecOk_gv Hok.out (k := k) (by rw [hlen.out]; exact hlt)
        go_wp2
        all_goals
          go_round
          case rel => exact ⟨k + 1, by omega, by go_num, by rw [hs.out]; congr 1; omega⟩
          case measure => simp [intOf]; omega
      · obtain rfl : k = n := by omega
        go_wp2
        go_ret2
        exact ⟨by rw [List.take_of_length_le (by rw [hlen.out]; omega)]; simp [negR, Hok.out], rfl⟩
theorem negativePart_any (A : Option Addr) (n c : Nat) (v : List Int) (w : World) (hv : Ints w A n v) :
    Calls Try.prog 26 #[.slice A n c] w fun e w' => e = .returned (.tuple #[.int .i64 (negR v), .bool (vecOk 5000 v)]) ∧ w = w' := by
  have hle := hv.le
  have hlen := hide hv.len
  cases hok : vecOk 5000 v
  · have e0 : negR v = 0 := by simp [negR, hok]
    rw [e0]; clear e0
    have Hok := hide hok; clear hok
    by_cases h5 : n ≤ 5
    · have ha : allIn v (-5000) 5000 = false := by
        have := Hok.out
        simp [vecOk, hlen.out, h5] at this
        exact this
      go_enter Try.func26, Try.ntmps26
      go_wp2_with (go_at_call 151; refine (areWithin_any _ _ _ _ _ _ _ hv).mono ?_; rintro e w' ⟨rfl, rfl⟩)
      go_ret2
      exact ⟨rfl, rfl⟩
    · go_enter Try.func26, Try.ntmps26
      go_wp2_with (go_at_call 151; refine (areWithin_any _ _ _ _ _ _ _ hv).mono ?_; rintro e w' ⟨rfl, rfl⟩)
      go_ret2
      exact ⟨rfl, rfl⟩
  · have Hok := hide hok
    have hn5 : n ≤ 5 := by rw [← hlen.out]; exact (vecOk_true Hok.out).1
    have ha : allIn v (-5000) 5000 = true := (vecOk_true Hok.out).2
    go_enter Try.func26, Try.ntmps26
    go_wp2_with (go_at_call 151; refine (areWithin_any _ _ _ _ _ _ _ hv).mono ?_; rintro e w' ⟨rfl, rfl⟩)
    clear hok ha
    go_loop [4, 17] (fun t i => ∃ k : Nat, k ≤ n ∧ i = .int .i64 k ∧ t = .int .i64 (negSum (v.take k))) (fun _ i => n - (intOf i).toNat)
    case atStart => exact ⟨0, Nat.zero_le _, rfl, rfl⟩
    case round =>
      obtain ⟨k, hk, rfl, rfl⟩ := hrel
      obtain ⟨q1, q2⟩ := negSum_bd Hok.out k
      by_cases hlt : k < n
      · obtain ⟨b, off, rfl, hb, hc⟩ := hv.at_ hlt
        have hs := hide (negSum_snoc (v := v) (k := k) (by rw [hlen.out]; exact hlt))
        obtain ⟨q3, q4⟩ := vecOk_gv Hok.out (k := k) (by rw [hlen.out]; exact hlt)
        go_wp2
        all_goals
          go_round
          case rel => exact ⟨k + 1, by omega, by go_num, by rw [hs.out]; congr 1; omega⟩
          case measure => simp [intOf]; omega
      · obtain rfl : k = n := by omega
        go_wp2
        go_ret2
        exact ⟨by rw [List.take_of_length_le (by rw [hlen.out]; omega)]; simp [negR, Hok.out], rfl⟩
end Go.Proofs.Ytokeejachclpeaa
