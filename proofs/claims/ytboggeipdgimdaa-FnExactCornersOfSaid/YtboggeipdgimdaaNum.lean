/-
  Walks: numbers within bounds; ratios compared.
-/
import Derived.Test.YtboggeipdgimdaaProg
import Derived.Test.YtboggeipdgimdaaMem
namespace Go.Proofs.Ytboggeipdgimdaa
open Go.RowKit

theorem within_any (x l h : Int) (w : World) : Calls Try.prog 97 #[.int .i64 x, .int .i64 l, .int .i64 h] w fun e w' => e = .returned (.bool (inR x l h)) ∧ w = w' := by
  unfold inR
  go_enter Try.func97, Try.ntmps97
  go_wp2
  all_goals go_ret
  all_goals exact ⟨by simp [*] <;> omega, rfl⟩
theorem l1In_any (x l h : Int) (w : World) : Calls Try.prog 53 #[.int .i64 x, .int .i64 l, .int .i64 h] w fun e w' => e = .returned (.bool (inR x l h)) ∧ w = w' := by
  unfold inR
  go_enter Try.func53, Try.ntmps53
  go_wp2
  all_goals go_ret
  all_goals exact ⟨by simp [*] <;> omega, rfl⟩
theorem areWithin_any (A : Option Addr) (n c : Nat) (v : List Int) (l h : Int) (w : World) (hv : Ints w A n v) :
    Calls Try.prog 98 #[.slice A n c, .int .i64 l, .int .i64 h] w fun e w' => e = .returned (.bool (allIn v l h)) ∧ w = w' := by
  have hle := hv.le
  have hlen := hide hv.len
  go_enter Try.func98, Try.ntmps98
  go_wp2
  go_loop [11] (fun i => ∃ k : Nat, k ≤ n ∧ i = .int .i64 k ∧ allIn (v.take k) l h = true) (fun i => n - (intOf i).toNat)
  case atStart => exact ⟨0, Nat.zero_le _, rfl, rfl⟩
  case round =>
    obtain ⟨k, hk, rfl, hall⟩ := hrel
    have Hall := hide hall; clear hall
    by_cases hlt : k < n
    · obtain ⟨b, off, rfl, hb, hc⟩ := hv.at_ hlt
      go_wp2_with (go_at_call 97; refine (within_any _ _ _ _).mono ?_; rintro e w' ⟨rfl, rfl⟩)
      · have hq : (!inR (gv v k) l h) = true := by assumption
        go_ret
        exact ⟨ret_bool (allIn_false (by rw [hlen.out]; exact hlt) (by simpa using hq)).symm, rfl⟩
      · have hq : (!inR (gv v k) l h) = false := by assumption
        exact ⟨⟨k + 1, by omega, by go_num, by rw [allIn_snoc (by rw [hlen.out]; exact hlt), Hall.out]; simpa using hq⟩, by simp [intOf]; omega⟩
    · go_wp2
      go_ret
      obtain rfl : k = n := by omega
      exact ⟨ret_bool (by rw [← Hall.out, List.take_of_length_le (by rw [hlen.out]; omega)]), rfl⟩
end Go.Proofs.Ytboggeipdgimdaa
