/-
  Walks: the minimum of a function.
-/
import Derived.Test.YtokeejachclpeaaFun
namespace Go.Proofs.Ytokeejachclpeaa
open Go.RowKit

/-- The least of the first k + 1 values. -/
def minT (v : List Int) : Nat → Int
  | 0 => gv v 0
  | k + 1 => min (minT v k) (gv v (k + 1))
theorem minT_succ {v : List Int} {k : Nat} (hk : 0 < k) : minT v k = min (minT v (k - 1)) (gv v k) := by
  obtain ⟨j, rfl⟩ : ∃ j, k = j + 1 := ⟨k - 1, by omega⟩
  simp [minT]
/-- The least value. -/
def minV (v : List Int) : Int := minT v (v.length - 1)
def minR (E : Int) (v : List Int) : Int := if isFn E v then minV v else 0

theorem slicesMin_any (A : Option Addr) (n c : Nat) (v : List Int) (w : World) (hv : Ints w A n v) (hn : 0 < n) :
    Calls Try.prog 150 #[.slice A n c] w fun e w' => e = .returned (.int .i64 (minV v)) ∧ w = w' := by
  have hle := hv.le
  have hlen := hide hv.len
  obtain ⟨b, off, rfl, hb, hc⟩ := hv.all_ hn
  have c0 : w.cell? ⟨b, off, none⟩ = some (.int .i64 (gv v 0)) := hc 0 hn
  have i1 : (1 : Int) ≤ (n : Int) := by omega
  have hc' := hide hc; clear hc
  go_enter Try.func150, Try.ntmps150
  go_wp2
  clear c0
  go_loop [3, 4] (fun t i => ∃ k : Nat, 1 ≤ k ∧ k ≤ n ∧ i = .int .i64 k ∧ t = .int .i64 (minT v (k - 1))) (fun _ i => n - (intOf i).toNat)
  case atStart => exact ⟨1, Nat.le_refl _, hn, rfl, rfl⟩
  case round =>
    obtain ⟨k, hk1, hk, rfl, rfl⟩ := hrel
    by_cases hlt : k < n
    · have c1 := hc'.out k hlt
      have hs := hide (minT_succ (v := v) (k := k) (by omega))
      go_wp2
      all_goals
        go_round
        case rel => exact ⟨k + 1, by omega, by omega, by go_num, by rw [show k + 1 - 1 = k by omega, hs.out]; congr 1; omega⟩
        case measure => simp [intOf]; omega
    · obtain rfl : k = n := by omega
      go_wp2
      go_ret
      exact ⟨ret_int (by rw [minV, hlen.out]), rfl⟩
theorem minimumOf_any (E : Int) (A : Option Addr) (n c : Nat) (v : List Int) (w : World) (hv : Ints w A n v) :
    Calls Try.prog 25 #[.agg #[.int .i64 E, .slice A n c]] w fun e w' => e = .returned (.tuple #[.int .i64 (minR E v), .bool (isFn E v)]) ∧ Below w.heap.size w w' := by
  cases hf : isFn E v
  · go_enter Try.func25, Try.ntmps25
    go_wp2_with fail
    refine (isFunction_any _ _ _ _ v _ (hv.alloc _)).mono ?_
    rintro e w1 ⟨rfl, hb1⟩
    go_wp2
    go_ret2
    exact ⟨by simp [minR, hf], ((Below.refl _ _).alloc (Nat.le_refl _) _).trans (hb1.mono (by simp))⟩
  · have Hf := hide hf
    obtain ⟨N, rfl, fo⟩ := FnOk.of hf hv
    go_enter Try.func25, Try.ntmps25
    go_wp2_with fail
    refine (isFunction_any _ _ _ _ v _ (hv.alloc _)).mono ?_
    rintro e w1 ⟨rfl, hb1⟩
    have hFB := (FB.start w N A n c).step hb1
    obtain ⟨-, -, e0, e1⟩ := hFB.parts
    go_wp2_with fail
    refine (slicesMin_any _ _ _ v _ (hv.below hFB.1 (Nat.le_refl _)) fo.n0).mono ?_
    rintro e w2 ⟨rfl, rfl⟩
    go_wp2
    go_ret2
    exact ⟨by simp [minR, Hf.out], hFB.1⟩
theorem l10Least_any (E : Int) (A : Option Addr) (n c : Nat) (v : List Int) (w : World) (hv : Ints w A n v) (hn : 0 < n) :
    Calls Try.prog 178 #[.agg #[.int .i64 E, .slice A n c]] w fun e w' => e = .returned (.int .i64 (minV v)) ∧ Below w.heap.size w w' := by
  have hle := hv.le
  have hlen := hide hv.len
  obtain ⟨b, off, rfl, hb, hc⟩ := hv.all_ hn
  have j1 : w.heap.size ≠ b := by omega
  have c0 : w.cell? ⟨b, off, none⟩ = some (.int .i64 (gv v 0)) := hc 0 hn
  have i1 : (0 : Int) < (n : Int) := by omega
  have hc' := hide hc; clear hc
  go_enter Try.func178, Try.ntmps178
  go_wp2
  clear c0
  go_loop [3, 4] (fun t i => ∃ k : Nat, 1 ≤ k ∧ k ≤ n ∧ i = .int .i64 k ∧ t = .int .i64 (minT v (k - 1))) (fun _ i => n - (intOf i).toNat)
  case atStart => exact ⟨1, Nat.le_refl _, hn, rfl, rfl⟩
  case round =>
    obtain ⟨k, hk1, hk, rfl, rfl⟩ := hrel
    by_cases hlt : k < n
    · have c1 := hc'.out k hlt
      have hs := hide (minT_succ (v := v) (k := k) (by omega))
      go_wp2
      all_goals
        go_round
        case rel => exact ⟨k + 1, by omega, by omega, by go_num, by rw [show k + 1 - 1 = k by omega, hs.out]; congr 1; omega⟩
        case measure => simp [intOf]; omega
    · obtain rfl : k = n := by omega
      go_wp2
      go_ret
      exact ⟨ret_int (by rw [minV, hlen.out]), (Below.refl _ _).alloc (Nat.le_refl _) _⟩
theorem specMinimumOf_any (E : Int) (A : Option Addr) (n c : Nat) (v : List Int) (w : World) (hv : Ints w A n v) :
    Calls Try.prog 92 #[.agg #[.int .i64 E, .slice A n c]] w fun e w' => e = .returned (.tuple #[.int .i64 (minR E v), .bool (isFn E v)]) ∧ Below w.heap.size w w' := by
  cases hf : isFn E v
  · go_enter Try.func92, Try.ntmps92
    go_wp2_with fail
    refine (specIsFunction_any _ _ _ _ v _ (hv.alloc _)).mono ?_
    rintro e w1 ⟨rfl, hb1⟩
    go_wp2
    go_ret2
    exact ⟨by simp [minR, hf], ((Below.refl _ _).alloc (Nat.le_refl _) _).trans (hb1.mono (by simp))⟩
  · have Hf := hide hf
    obtain ⟨N, rfl, fo⟩ := FnOk.of hf hv
    go_enter Try.func92, Try.ntmps92
    go_wp2_with fail
    refine (specIsFunction_any _ _ _ _ v _ (hv.alloc _)).mono ?_
    rintro e w1 ⟨rfl, hb1⟩
    have hFB := (FB.start w N A n c).step hb1
    obtain ⟨-, -, e0, e1⟩ := hFB.parts
    go_wp2_with fail
    refine (l10Least_any _ _ _ _ v _ (hv.below hFB.1 (Nat.le_refl _)) fo.n0).mono ?_
    rintro e w2 ⟨rfl, hb2⟩
    go_wp2
    go_ret2
    exact ⟨by simp [minR, Hf.out], (hFB.step hb2).1⟩
end Go.Proofs.Ytokeejachclpeaa
