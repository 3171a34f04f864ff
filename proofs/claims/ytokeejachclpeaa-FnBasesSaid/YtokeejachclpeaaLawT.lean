/-
  Walks: the laws' sums, and a byte of the code.
-/
import Derived.Test.YtokeejachclpeaaLawW
import Derived.Test.YtokeejachclpeaaBelM
namespace Go.Proofs.Ytokeejachclpeaa
open Go.RowKit

theorem total_any (A : Option Addr) (n c : Nat) (x : List Int) (w : World) (hx : Ints w A n x) (hn : n ≤ 1048576) (hb : allIn x (-5000) 5000 = true) :
    Calls Try.prog 56 #[.slice A n c] w fun e w' => e = .returned (.int .i64 (sumT x n)) ∧ w = w' := by
  have hxl := hide hx.len
  have HB := hide (fun j (hj : j < x.length) => allIn_gv (v := x) hj hb)
  have HS := hide (sumT_bd (x := x) (fun j hj => allIn_gv hj hb))
  clear hb
  go_enter Try.func56, Try.ntmps56
  go_wp2
  go_loop [3, 4] (fun s t => ∃ k : Nat, k ≤ n ∧ t = .int .i64 k ∧ s = .int .i64 (sumT x k)) (fun _ t => n - (intOf t).toNat)
  case atStart => exact ⟨0, Nat.zero_le _, rfl, rfl⟩
  case round =>
    obtain ⟨k, hk, rfl, rfl⟩ := hrel
    by_cases hlt : k < n
    · obtain ⟨b, off, rfl, hb, hc⟩ := hx.at_ hlt
      have b1 := HS.out k (by rw [hxl.out]; omega)
      have b2 := HB.out k (by rw [hxl.out]; exact hlt)
      have hst := hide (show sumT x (k + 1) = sumT x k + gv x k from rfl)
      have i1 : (0 : Int) ≤ (k : Int) := by omega
      have i2 : (k : Int) < (n : Int) := by omega
      have t1 : IntKind.i64.wrap (sumT x k + gv x k) = sumT x k + gv x k := IntWalk.i64_in _ (by omega)
      go_wp2
      go_round
      case rel => exact ⟨k + 1, by omega, by go_num, by rw [hst.out]⟩
      case measure => simp [intOf]; omega
    · obtain rfl : k = n := by omega
      go_wp2
      go_ret
      exact ⟨rfl, rfl⟩
theorem at3_any (A : Option Addr) (n c : Nat) (w : World) (hB : Byts w A n) (hn : n ≤ 1048576) :
    Calls Try.prog 62 #[.slice A n c, .int .i64 3] w fun e w' => (∃ x : Nat, e = .returned (.int .i64 (x : Int)) ∧ x < 256) ∧ w = w' := by
  go_enter Try.func62, Try.ntmps62
  by_cases h3 : 3 < n
  · obtain ⟨b, off, rfl, hc⟩ := hB.2 (by omega)
    obtain ⟨y, hy, hcy⟩ := hc 3 h3
    have i1 : (3 : Int) < (n : Int) := by omega
    clear hc
    go_wp2
    go_ret
    exact ⟨⟨y, rfl, hy⟩, rfl⟩
  · have i1 : ¬ (3 : Int) < (n : Int) := by omega
    go_wp2
    go_ret
    exact ⟨⟨(111 + n * 11) % 256, by rfl, by omega⟩, rfl⟩
theorem sameInts_eq (A A' : Option Addr) (n n' c c' : Nat) (xs : List Int) (w : World) (hx : Ints w A n xs) (hy : Ints w A' n' xs) :
    Calls Try.prog 15 #[.slice A n c, .slice A' n' c'] w fun e w' => e = .returned (.bool true) ∧ Below w.heap.size w w' := by
  have h := sameInts_any A A' n n' c c' xs xs w hx hy
  simpa using h
theorem at3_val (A : Option Addr) (n c : Nat) (w : World) (hB : Byts w A n) (hn : n ≤ 1048576) :
    ∃ x : Nat, x < 256 ∧ ∀ W, Below w.heap.size w W → Calls Try.prog 62 #[.slice A n c, .int .i64 3] W fun e w' => e = .returned (.int .i64 (x : Int)) ∧ W = w' := by
  by_cases h3 : 3 < n
  · obtain ⟨b, off, rfl, hc⟩ := hB.2 (by omega)
    obtain ⟨y, hy, hcy⟩ := hc 3 h3
    have i1 : (3 : Int) < (n : Int) := by omega
    clear hc
    refine ⟨y, hy, fun W hW => ?_⟩
    have hcW := (hW.cell (p := ⟨b, off + 3, none⟩) (World.block_lt_of_cell? _ _ hcy)).trans hcy
    clear hcy
    go_enter Try.func62, Try.ntmps62
    go_wp2
    go_ret
    exact ⟨rfl, rfl⟩
  · have i1 : ¬ (3 : Int) < (n : Int) := by omega
    refine ⟨(111 + n * 11) % 256, by omega, fun W hW => ?_⟩
    go_enter Try.func62, Try.ntmps62
    go_wp2
    go_ret
    exact ⟨by rfl, rfl⟩
end Go.Proofs.Ytokeejachclpeaa
