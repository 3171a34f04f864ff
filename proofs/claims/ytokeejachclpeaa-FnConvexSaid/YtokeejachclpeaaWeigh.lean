/-
  Walks: weights of sets; the rank of a vector.
-/
import Derived.Test.YtokeejachclpeaaFun
import Derived.Test.YtokeejachclpeaaVec
namespace Go.Proofs.Ytokeejachclpeaa
open Go.RowKit

/-- The weight of what the set has among the first k elements. -/
def wtN (x : List Int) (s : Nat) : Nat → Int
  | 0 => 0
  | k + 1 => if hasB s k then wtN x s k + gv x k else wtN x s k
def weigh (x : List Int) (s : Nat) : Int := wtN x s x.length
theorem wtN_bd {x : List Int} (hx : allIn x (-5000) 5000 = true) (s : Nat) : ∀ k : Nat, k ≤ x.length → -5000 * (k : Int) ≤ wtN x s k ∧ wtN x s k ≤ 5000 * (k : Int)
  | 0, _ => by simp [wtN]
  | k + 1, hk => by
    have h1 := wtN_bd hx s k (by omega)
    have h2 := allIn_gv (k := k) (by omega) hx
    unfold wtN; split <;> omega
theorem weigh_bd {x : List Int} (hx : vecOk 5000 x = true) (s : Nat) : -25000 ≤ weigh x s ∧ weigh x s ≤ 25000 := by
  obtain ⟨h1, h2⟩ := vecOk_true hx
  have := wtN_bd h2 s x.length (Nat.le_refl _)
  unfold weigh; omega
theorem allIn_mono {x : List Int} {r q : Int} (h : allIn x (-r) r = true) (hr : r ≤ q) : allIn x (-q) q = true := by
  unfold allIn at *
  rw [List.all_eq_true] at *
  intro y hy
  have := inR_true (h y hy)
  simp [inR]; omega
theorem vecOk_mono {x : List Int} (h : vecOk 1000 x = true) : vecOk 5000 x = true := by
  obtain ⟨h1, h2⟩ := vecOk_true h
  simp [vecOk, h1, allIn_mono (q := 5000) h2 (by omega)]
theorem wtN_zero (x : List Int) : ∀ k, wtN x 0 k = 0
  | 0 => rfl
  | k + 1 => by unfold wtN; simp [hasB, wtN_zero x k]
theorem weigh_zero (x : List Int) : weigh x 0 = 0 := wtN_zero x _

theorem weightOf_any (A : Option Addr) (n c : Nat) (x : List Int) (s : Nat) (w : World) (hv : Ints w A n x) (hx : vecOk 5000 x = true) (hs : s < 1024) :
    Calls Try.prog 152 #[.slice A n c, .int .i64 s] w fun e w' => e = .returned (.int .i64 (weigh x s)) ∧ w = w' := by
  have hle := hv.le
  have hlen := hide hv.len
  have HX := hide (vecOk_true hx)
  have hn5 : n ≤ 5 := by rw [← hlen.out]; exact HX.out.1
  clear hx
  go_enter Try.func152, Try.ntmps152
  go_wp2
  go_loop [5, 10] (fun t i => ∃ k : Nat, k ≤ n ∧ i = .int .i64 k ∧ t = .int .i64 (wtN x s k)) (fun _ i => n - (intOf i).toNat)
  case atStart => exact ⟨0, Nat.zero_le _, rfl, rfl⟩
  case round =>
    obtain ⟨k, hk, rfl, rfl⟩ := hrel
    obtain ⟨t1, t2⟩ := wtN_bd HX.out.2 s k (by rw [hlen.out]; exact hk)
    by_cases hlt : k < n
    · obtain ⟨b, off, rfl, hb, hc⟩ := hv.at_ hlt
      obtain ⟨q1, q2⟩ := allIn_gv (k := k) (by rw [hlen.out]; exact hlt) HX.out.2
      cases hh : hasB s k
      · have hs1 := hide (show wtN x s (k + 1) = wtN x s k by simp [wtN, hh])
        go_wp2
        go_round
        case rel => exact ⟨k + 1, by omega, by go_num, by rw [hs1.out]⟩
        case measure => simp [intOf]; omega
      · have hs1 := hide (show wtN x s (k + 1) = wtN x s k + gv x k by simp [wtN, hh])
        go_wp2
        go_round
        case rel => exact ⟨k + 1, by omega, by go_num, by rw [hs1.out]⟩
        case measure => simp [intOf]; omega
    · obtain rfl : k = n := by omega
      go_wp2
      go_ret
      exact ⟨ret_int (by rw [weigh, hlen.out]), rfl⟩
theorem l3Weigh_any (A : Option Addr) (n c : Nat) (x : List Int) (s : Nat) (w : World) (hv : Ints w A n x) (hx : vecOk 5000 x = true) (hs : s < 1024) :
    Calls Try.prog 156 #[.slice A n c, .int .i64 s] w fun e w' => e = .returned (.int .i64 (weigh x s)) ∧ w = w' := by
  have hle := hv.le
  have hlen := hide hv.len
  have HX := hide (vecOk_true hx)
  have hn5 : n ≤ 5 := by rw [← hlen.out]; exact HX.out.1
  clear hx
  go_enter Try.func156, Try.ntmps156
  go_wp2
  go_loop [5, 6] (fun t i => ∃ k : Nat, k ≤ n ∧ i = .int .i64 k ∧ t = .int .i64 (wtN x s k)) (fun _ i => n - (intOf i).toNat)
  case atStart => exact ⟨0, Nat.zero_le _, rfl, rfl⟩
  case round =>
    obtain ⟨k, hk, rfl, rfl⟩ := hrel
    obtain ⟨t1, t2⟩ := wtN_bd HX.out.2 s k (by rw [hlen.out]; exact hk)
    by_cases hlt : k < n
    · obtain ⟨b, off, rfl, hb, hc⟩ := hv.at_ hlt
      obtain ⟨q1, q2⟩ := allIn_gv (k := k) (by rw [hlen.out]; exact hlt) HX.out.2
      cases hh : hasB s k
      · have hs1 := hide (show wtN x s (k + 1) = wtN x s k by simp [wtN, hh])
        go_wp2
        go_round
        case rel => exact ⟨k + 1, by omega, by go_num, by rw [hs1.out]⟩
        case measure => simp [intOf]; omega
      · have hs1 := hide (show wtN x s (k + 1) = wtN x s k + gv x k by simp [wtN, hh])
        go_wp2
        go_round
        case rel => exact ⟨k + 1, by omega, by go_num, by rw [hs1.out]⟩
        case measure => simp [intOf]; omega
    · obtain rfl : k = n := by omega
      go_wp2
      go_ret
      exact ⟨ret_int (by rw [weigh, hlen.out]), rfl⟩
theorem isVectorFor_any (E : Int) (A A' : Option Addr) (n c m c' : Nat) (x : List Int) (w : World) (hx : Ints w A' m x) :
    Calls Try.prog 174 #[.agg #[.int .i64 E, .slice A n c], .slice A' m c'] w fun e w' => e = .returned (.bool (vecOk 1000 x && decide ((x.length : Int) = E))) ∧ Below w.heap.size w w' := by
  have hlen := hide hx.len
  rw [hlen.out]
  cases hv : vecOk 1000 x
  all_goals
    go_enter Try.func174, Try.ntmps174
    go_wp2_with fail
    refine (isVector_any _ _ _ x _ (hx.alloc _)).mono ?_
    rintro e w' ⟨rfl, rfl⟩
    rw [hv]
    go_wp2
    go_ret
    exact ⟨ret_bool (by rw [Bool.eq_iff_iff]; simp), (Below.refl _ _).alloc (Nat.le_refl _) _⟩
end Go.Proofs.Ytokeejachclpeaa
