/-
  Walks: a cursor made.
-/
import Derived.Test.YtokeejachclpeaaDraw
namespace Go.Proofs.Ytokeejachclpeaa
open Go.RowKit

set_option maxHeartbeats 1000000 in
theorem l1New_any (A : Option Addr) (n c : Nat) (w : World) (hB : Byts w A n) :
    Calls Try.prog 163 #[.slice A n c] w fun e w' => ∃ bc : Nat, e = .returned (.pointer (some ⟨bc, 0, none⟩)) ∧ w.heap.size ≤ bc ∧ Below w.heap.size w w' ∧ Cur w' bc A n c := by
  have hnle := hB.1
  go_enter Try.func163, Try.ntmps163
  go_wp2
  go_loop [3, 4] (fun s t => ∃ (h : Int) (i : Nat), i ≤ n ∧ t = .int .i64 i ∧ s = .int .i64 h) (fun _ t => n - (intOf t).toNat)
  case atStart => exact ⟨_, 0, Nat.zero_le _, rfl, rfl⟩
  case round =>
    obtain ⟨h, i, hi, rfl, rfl⟩ := hrel
    by_cases hlt : i < n ∧ i < 4000
    · obtain ⟨b, off, rfl, hbb⟩ := hB.2 (by omega)
      obtain ⟨y, hy, hcy⟩ := hbb i hlt.1
      have h1 : (i : Int) < (n : Int) := by omega
      have h2 : (i : Int) < 4000 := by omega
      clear hbb
      go_wp2
      go_round
      case rel => exact ⟨_, i + 1, by omega, by go_num, rfl⟩
      case measure => simp [intOf]; omega
    · by_cases h1 : i < n
      · have h2 : ¬ (i : Int) < 4000 := by omega
        have h3 : (i : Int) < (n : Int) := by omega
        clear hlt
        go_wp2
        go_ret
        exact ⟨w.heap.size, rfl, Nat.le_refl _, (Below.refl _ _).alloc (Nat.le_refl _) _, 0, _, Nat.zero_le _, heap_alloc_new w _⟩
      · have h3 : ¬ (i : Int) < (n : Int) := by omega
        clear hlt
        go_wp2
        go_ret
        exact ⟨w.heap.size, rfl, Nat.le_refl _, (Below.refl _ _).alloc (Nat.le_refl _) _, 0, _, Nat.zero_le _, heap_alloc_new w _⟩
end Go.Proofs.Ytokeejachclpeaa
