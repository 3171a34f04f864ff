/-
  Walks: functions of sets: validity, gains.
-/
import Derived.Test.YtokeejachclpeaaNum
import Derived.Test.YtokeejachclpeaaBits
namespace Go.Proofs.Ytokeejachclpeaa
open Go.RowKit

theorem isFunction_any (E : Int) (A : Option Addr) (n c : Nat) (v : List Int) (w : World) (hv : Ints w A n v) :
    Calls Try.prog 133 #[.agg #[.int .i64 E, .slice A n c]] w fun e w' => e = .returned (.bool (isFn E v)) ∧ Below w.heap.size w w' := by
  have hle := hv.le
  have hlen := hide hv.len
  cases hin : inR E 0 5
  · have e0 : isFn E v = false := by simp [isFn, hin]
    rw [e0]; clear e0
    go_enter Try.func133, Try.ntmps133
    go_wp2_with (go_at_call 181; refine (within_any _ _ _ _).mono ?_; rintro e w' ⟨rfl, rfl⟩)
    go_ret
    exact ⟨rfl, (Below.refl _ _).alloc (Nat.le_refl _) _⟩
  · obtain ⟨h0, h1⟩ := inR_true hin
    obtain ⟨N, rfl⟩ := Int.eq_ofNat_of_zero_le h0
    have hN : N ≤ 40 := by omega
    have e0 : isFn N v = (decide ((n : Int) = ((p2 N : Nat) : Int)) && allIn v (-1000) 1000) := by simp [isFn, hin, hlen.out]
    rw [e0]; clear e0
    go_enter Try.func133, Try.ntmps133
    go_wp2_with (first | (go_at_call 181; refine (within_any _ _ _ _).mono ?_; rintro e w' ⟨rfl, rfl⟩) | (go_at_call 151; refine (areWithin_any _ _ _ _ _ _ _ (hv.alloc _)).mono ?_; rintro e w' ⟨rfl, rfl⟩))
    all_goals go_ret
    all_goals exact ⟨ret_bool (by simp_all), (Below.refl _ _).alloc (Nat.le_refl _) _⟩
theorem specIsFunction_any (E : Int) (A : Option Addr) (n c : Nat) (v : List Int) (w : World) (hv : Ints w A n v) :
    Calls Try.prog 17 #[.agg #[.int .i64 E, .slice A n c]] w fun e w' => e = .returned (.bool (isFn E v)) ∧ Below w.heap.size w w' := by
  have hle := hv.le
  have hlen := hide hv.len
  cases hin : inR E 0 5
  · have e0 : isFn E v = false := by simp [isFn, hin]
    rw [e0]; clear e0
    go_enter Try.func17, Try.ntmps17
    go_wp2
    go_quiet ((go_at_call 138; exact quiet_left (l1In_any _ _ _ _)))
    go_wp2
    go_ret
    exact ⟨rfl, below_drewN ((Below.refl _ _).alloc (Nat.le_refl _) _) _⟩
  · obtain ⟨h0, h1⟩ := inR_true hin
    obtain ⟨N, rfl⟩ := Int.eq_ofNat_of_zero_le h0
    have hN : N ≤ 40 := by omega
    have e0 : isFn N v = (decide ((n : Int) = ((p2 N : Nat) : Int)) && allIn v (-1000) 1000) := by simp [isFn, hin, hlen.out]
    rw [e0]; clear e0
    by_cases hnp : (n : Int) = ((p2 N : Nat) : Int)
    · have e1 : ((n : Int) != ((p2 N : Nat) : Int)) = false := by simp [hnp]
      have HNP := hide hnp; clear hnp
      go_enter Try.func17, Try.ntmps17
      go_wp2
      go_quiet ((go_at_call 138; exact quiet_left (l1In_any _ _ _ _)))
      go_wp2
      clear e1
      simp only [hin, shl_a N hN]
      go_loop [3] (fun i => ∃ k : Nat, k ≤ n ∧ i = .int .i64 k ∧ allIn (v.take k) (-1000) 1000 = true) (fun i => n - (intOf i).toNat)
      case atStart => exact ⟨0, Nat.zero_le _, rfl, rfl⟩
      case round =>
        obtain ⟨k, hk, rfl, hall⟩ := hrel
        have Hall := hide hall; clear hall
        by_cases hlt : k < n
        · obtain ⟨b, off, rfl, hb, hc⟩ := hv.at_ hlt
          have j1 : w.heap.size ≠ b := by omega
          go_wp2_with (go_at_call 138; refine (l1In_any _ _ _ _).mono ?_; rintro e w' ⟨rfl, rfl⟩)
          · have hq : (!inR (gv v k) (-1000) 1000) = true := by assumption
            go_ret
            exact ⟨ret_bool (by simp [allIn_false (v := v) (by rw [hlen.out]; exact hlt) (by simpa using hq)]), below_drewN ((Below.refl _ _).alloc (Nat.le_refl _) _) _⟩
          · have hq : (!inR (gv v k) (-1000) 1000) = false := by assumption
            exact ⟨⟨k + 1, by omega, by go_num, by rw [allIn_snoc (by rw [hlen.out]; exact hlt), Hall.out]; simpa using hq⟩, by simp [intOf]; omega⟩
        · obtain rfl : k = n := by omega
          have hall : allIn v (-1000) 1000 = true := by rw [← Hall.out, List.take_of_length_le (by rw [hlen.out]; omega)]
          have hA := hide hall; clear hall
          go_wp2
          go_ret
          exact ⟨ret_bool (by simp [hA.out, HNP.out]), below_drewN ((Below.refl _ _).alloc (Nat.le_refl _) _) _⟩
    · have e1 : ((n : Int) != ((p2 N : Nat) : Int)) = true := by simp [hnp]
      have e2 : decide ((n : Int) = ((p2 N : Nat) : Int)) = false := by simp [hnp]
      rw [e2]; clear e2
      go_enter Try.func17, Try.ntmps17
      go_wp2
      go_quiet ((go_at_call 138; exact quiet_left (l1In_any _ _ _ _)))
      go_wp2
      go_ret
      exact ⟨rfl, below_drewN ((Below.refl _ _).alloc (Nat.le_refl _) _) _⟩
theorem gain_any (E : Int) (A : Option Addr) (n c : Nat) (v : List Int) (s k : Nat) (w : World) (hv : Ints w A n v) (hf : isFn E v = true) (hs : s < n) (hk : (k : Int) < E) :
    Calls Try.prog 197 #[.agg #[.int .i64 E, .slice A n c], .int .i64 s, .int .i64 k] w fun e w' => e = .returned (.int .i64 (gainN v s k)) ∧ Below w.heap.size w w' := by
  obtain ⟨N, rfl, fo⟩ := FnOk.of hf hv
  obtain ⟨b, off, rfl, hb, hc⟩ := hv.all_ fo.n0
  have hN := fo.hN
  have n32 := fo.n32
  have n0 := fo.n0
  have j1 : w.heap.size ≠ b := by omega
  clear hf
  have hi := fo.ins hs (k := k) (by omega)
  obtain ⟨q1, q2⟩ := fo.bd hs
  obtain ⟨q3, q4⟩ := fo.bd hi
  have hs' : s < 1024 := by omega
  have hk' : k ≤ 40 := by omega
  have i1 : (0 : Int) ≤ (s : Int) := by omega
  have i2 : (s : Int) < (n : Int) := by omega
  have i3 : (0 : Int) ≤ (insN s k : Int) := by omega
  have i4 : (insN s k : Int) < (n : Int) := by omega
  go_enter Try.func197, Try.ntmps197
  go_wp2
  go_quiet (fail)
  go_wp2
  go_ret
  exact ⟨rfl, below_drewN ((Below.refl _ _).alloc (Nat.le_refl _) _) _⟩
/-- Is s a set of N elements? -/
theorem isSetOf_any (N : Nat) (s : Int) (w : World) (hN : N ≤ 5) : Calls Try.prog 177 #[.int .i64 N, .int .i64 s] w fun e w' => e = .returned (.bool (inR s 0 ((p2 N : Nat) - 1))) ∧ w = w' := by
  have h40 : N ≤ 40 := by omega
  go_enter Try.func177, Try.ntmps177
  go_wp2
  all_goals go_ret
  all_goals exact ⟨ret_bool (by unfold inR; simp only [decide_eq_decide, decide_eq_false_iff_not, eq_comm (a := false)]; omega), rfl⟩
theorem isElement_any (n e : Int) (w : World) : Calls Try.prog 159 #[.int .i64 n, .int .i64 e] w fun r w' => r = .returned (.bool (inR e 0 (n - 1))) ∧ w = w' := by
  go_enter Try.func159, Try.ntmps159
  go_wp2
  all_goals go_ret
  all_goals exact ⟨ret_bool (by unfold inR; simp only [decide_eq_decide, decide_eq_false_iff_not, eq_comm (a := false)]; omega), rfl⟩
theorem l2Full_any (N : Nat) (w : World) (hN : N ≤ 40) : Calls Try.prog 158 #[.int .i64 N] w fun e w' => e = .returned (.int .i64 ((p2 N : Nat) - 1)) ∧ w = w' := by
  have := p2_le hN
  go_enter Try.func158, Try.ntmps158
  go_wp2
  go_ret
  exact ⟨rfl, rfl⟩
theorem allOf_any (N : Nat) (A : Option Addr) (n c : Nat) (w : World) (hN : N ≤ 40) : Calls Try.prog 149 #[.agg #[.int .i64 N, .slice A n c]] w fun e w' => e = .returned (.int .i64 ((p2 N : Nat) - 1)) ∧ Below w.heap.size w w' := by
  have := p2_le hN
  go_enter Try.func149, Try.ntmps149
  go_wp2
  go_ret
  exact ⟨rfl, (Below.refl _ _).alloc (Nat.le_refl _) _⟩
theorem l5In_any (E : Int) (A : Option Addr) (n c : Nat) (v : List Int) (s : Int) (w : World) (hv : Ints w A n v) :
    Calls Try.prog 193 #[.agg #[.int .i64 E, .slice A n c], .int .i64 s] w fun e w' => e = .returned (.bool (isFn E v && inR s 0 ((n : Int) - 1))) ∧ Below w.heap.size w w' := by
  cases hf : isFn E v
  · go_enter Try.func193, Try.ntmps193
    go_wp2_with fail
    refine (specIsFunction_any _ _ _ _ v _ (hv.alloc _)).mono ?_
    rintro e w1 ⟨rfl, hb1⟩
    go_wp2
    go_ret
    exact ⟨rfl, ((Below.refl _ _).alloc (Nat.le_refl _) _).trans (hb1.mono (by simp))⟩
  · obtain ⟨N, rfl, fo⟩ := FnOk.of hf hv
    have hN := fo.hN
    have h40 : N ≤ 40 := by omega
    have hn : (n : Int) = ((p2 N : Nat) : Int) := by have := fo.hn; unfold p2; omega
    rw [hn]; clear hn
    go_enter Try.func193, Try.ntmps193
    go_wp2_with fail
    refine (specIsFunction_any _ _ _ _ v _ (hv.alloc _)).mono ?_
    rintro e w1 ⟨rfl, hb1⟩
    obtain ⟨r1, r2⟩ := bcell hb1
    go_wp2_with (first | (go_at_call 158; refine (l2Full_any _ _ h40).mono ?_; rintro e w' ⟨rfl, rfl⟩) | (go_at_call 138; refine (l1In_any _ _ _ _).mono ?_; rintro e w' ⟨rfl, rfl⟩))
    go_ret
    exact ⟨ret_bool (by simp), ((Below.refl _ _).alloc (Nat.le_refl _) _).trans (hb1.mono (by simp))⟩
end Go.Proofs.Ytokeejachclpeaa
