/-
  Walks: is a vector dual.
-/
import Derived.Test.YtokeejachclpeaaBase
namespace Go.Proofs.Ytokeejachclpeaa
open Go.RowKit

/-- The sum of the first k numbers. -/
def sumT (x : List Int) : Nat → Int
  | 0 => 0
  | k + 1 => sumT x k + gv x k
theorem sumT_bd {x : List Int} (h : ∀ j, j < x.length → -5000 ≤ gv x j ∧ gv x j ≤ 5000) : ∀ k, k ≤ x.length → -5000 * (k : Int) ≤ sumT x k ∧ sumT x k ≤ 5000 * (k : Int)
  | 0, _ => by simp [sumT]
  | k + 1, hk => by
    have ih := sumT_bd h k (by omega)
    have := h k (by omega)
    simp only [sumT]; omega
theorem wtN_full (x : List Int) (N : Nat) : ∀ k, k ≤ N → wtN x (2 ^ N - 1) k = sumT x k
  | 0, _ => rfl
  | k + 1, hk => by
    have ih := wtN_full x N k (by omega)
    have hh : hasB (2 ^ N - 1) k = true := by unfold hasB; rw [Nat.testBit_two_pow_sub_one]; simp; omega
    simp only [wtN, hh, ih, sumT, if_true]
def dualB (E : Int) (v x : List Int) : Bool := belowB E v x && (allIn x (-5000) 0 && decide (weigh x (v.length - 1) = minV v))
theorem allIn_nil (l h : Int) : allIn [] l h = true := rfl

set_option maxHeartbeats 400000 in
theorem isDualVector_any (E : Int) (A : Option Addr) (n c : Nat) (v : List Int) (A' : Option Addr) (m c' : Nat) (x : List Int) (w : World) (hv : Ints w A n v) (hx : Ints w A' m x) :
    Calls Try.prog 30 #[.agg #[.int .i64 E, .slice A n c], .slice A' m c'] w fun e w' => e = .returned (.bool (dualB E v x)) ∧ Below w.heap.size w w' := by
  have hF0 := FB.start w E A n c
  obtain ⟨hbel0, hz0, r0, r1⟩ := hF0.parts
  have hcall := isBelow_any E A n c v A' m c' x _ (hv.below hbel0 (Nat.le_refl _)) (hx.below hbel0 (Nat.le_refl _))
  cases hb : belowB E v x
  · have e0 : dualB E v x = false := by simp [dualB, hb]
    rw [e0]; clear e0
    rw [hb] at hcall
    have HC := hide hcall; clear hcall
    go_enter Try.func30, Try.ntmps30
    go_wp2_with fail
    refine HC.out.mono ?_
    rintro e w1 ⟨rfl, hb1⟩
    go_wp2
    go_ret
    exact ⟨rfl, (hF0.step hb1).1⟩
  rw [hb] at hcall
  have HC := hide hcall; clear hcall
  cases ha : allIn x (-5000) 0
  · have e0 : dualB E v x = false := by simp [dualB, ha]
    rw [e0]; clear e0
    go_enter Try.func30, Try.ntmps30
    go_wp2_with fail
    refine HC.out.mono ?_
    rintro e w1 ⟨rfl, hb1⟩
    have hF1 := hF0.step hb1
    go_wp2_with fail
    refine (areWithin_any _ _ _ x _ _ _ (hx.below hF1.1 (Nat.le_refl _))).mono ?_
    rintro e w2 ⟨rfl, rfl⟩
    rw [ha]
    go_wp2
    go_ret
    exact ⟨rfl, hF1.1⟩
  · obtain ⟨bfn, bg0, blen, bvec, ball⟩ := below_ok hb
    have hvl := hide hv.len
    have e0 : dualB E v x = decide (weigh x (n - 1) = minV v) := by simp [dualB, hb, ha, hvl.out]
    rw [e0]; clear e0
    have Hf := hide bfn
    have Ha := hide ha
    clear bg0 blen ball hb ha
    have hmin := hide (show minR E v = minV v by simp [minR, bfn])
    clear bfn
    obtain ⟨N, rfl, fo⟩ := FnOk.of Hf.out hv
    have hN := fo.hN
    have n0 := fo.n0
    have n32 := fo.n32
    have h40 : N ≤ 40 := by omega
    have hfull := hide (p2_full fo.hn)
    have hlt : n - 1 < 1024 := by omega
    generalize n - 1 = d at *
    clear r0 r1
    go_enter Try.func30, Try.ntmps30
    go_wp2_with fail
    refine HC.out.mono ?_
    rintro e w1 ⟨rfl, hb1⟩
    have hF1 := hF0.step hb1
    obtain ⟨hbel1, hz1, r0, r1⟩ := hF1.parts
    go_wp2_with fail
    refine (areWithin_any _ _ _ x _ _ _ (hx.below hbel1 (Nat.le_refl _))).mono ?_
    rintro e w2 ⟨rfl, rfl⟩
    rw [Ha.out]
    go_wp2_with fail
    refine (minimumOf_any _ _ _ _ v _ (hv.below hbel1 (Nat.le_refl _))).mono ?_
    rintro e w3 ⟨rfl, hb3⟩
    rw [hmin.out, Hf.out]
    have hF3 := hF1.step hb3
    clear r0 r1
    obtain ⟨hbel3, hz3, r0, r1⟩ := hF3.parts
    go_wp2_with fail
    refine (allOf_any N A n c _ h40).mono ?_
    rintro e w4 ⟨rfl, hb4⟩
    rw [hfull.out]
    have hF4 := hF3.step hb4
    go_wp2_with fail
    refine (weightOf_any _ _ _ x d _ (hx.below hF4.1 (Nat.le_refl _)) bvec hlt).mono ?_
    rintro e w5 ⟨rfl, rfl⟩
    go_wp2
    go_ret
    exact ⟨ret_bool (by rw [Bool.eq_iff_iff]; simp), hF4.1⟩
set_option maxHeartbeats 400000 in
theorem specIsDualVector_any (E : Int) (A : Option Addr) (n c : Nat) (v : List Int) (A' : Option Addr) (m c' : Nat) (x : List Int) (w : World) (hv : Ints w A n v) (hx : Ints w A' m x) :
    Calls Try.prog 58 #[.agg #[.int .i64 E, .slice A n c], .slice A' m c'] w fun e w' => e = .returned (.bool (dualB E v x)) ∧ Below w.heap.size w w' := by
  have hF0 := FB.start w E A n c
  obtain ⟨hbel0, hz0, r0, r1⟩ := hF0.parts
  have hcall := specIsBelow_any E A n c v A' m c' x _ (hv.below hbel0 (Nat.le_refl _)) (hx.below hbel0 (Nat.le_refl _))
  cases hb : belowB E v x
  · have e0 : dualB E v x = false := by simp [dualB, hb]
    rw [e0]; clear e0
    rw [hb] at hcall
    have HC := hide hcall; clear hcall
    go_enter Try.func58, Try.ntmps58
    go_wp2_with fail
    refine HC.out.mono ?_
    rintro e w1 ⟨rfl, hb1⟩
    go_wp2
    go_ret
    exact ⟨rfl, (hF0.step hb1).1⟩
  rw [hb] at hcall
  have HC := hide hcall; clear hcall
  obtain ⟨bfn, bg0, blen, bvec, ball⟩ := below_ok hb
  have hvl := hide hv.len
  have hxl := hide hx.len
  have Hb := hide hb
  have Hf := hide bfn
  have hle := hx.le
  have n0' : (x.length : Int) = E := blen
  clear bg0 ball hb bfn blen
  obtain ⟨N, rfl, fo⟩ := FnOk.of Hf.out hv
  have hN := fo.hN
  have hmN : m = N := by have := hxl.out; omega
  have hsum := hide (show weigh x (n - 1) = sumT x m by rw [weigh, fo.hn, hxl.out, hmN]; exact wtN_full x N N (Nat.le_refl _))
  have HV := hide (fun k (hk : k < m) => vecOk_gv bvec (k := k) (by rw [hxl.out]; exact hk))
  have HB := hide (fun k (hk : k ≤ m) => sumT_bd (x := x) (fun j hj => HV.out j (by rw [← hxl.out]; exact hj)) k (by rw [hxl.out]; exact hk))
  have n0 := fo.n0
  have hm5 : m ≤ 5 := by omega
  clear bvec n0' hmN
  clear r0 r1
  go_enter Try.func58, Try.ntmps58
  go_wp2_with fail
  refine HC.out.mono ?_
  rintro e w1 ⟨rfl, hb1⟩
  have hF1 := hF0.step hb1
  obtain ⟨hbel1, hz1, r0, r1⟩ := hF1.parts
  have hx1 := hx.below hbel1 (Nat.le_refl _)
  have hv1 := hv.below hbel1 (Nat.le_refl _)
  go_wp2
  go_loop [5, 6] (fun t i => ∃ k : Nat, k ≤ m ∧ i = .int .i64 k ∧ t = .int .i64 (sumT x k) ∧ allIn (x.take k) (-5000) 0 = true) (fun _ i => m - (intOf i).toNat)
  case atStart => exact ⟨0, Nat.zero_le _, rfl, rfl, rfl⟩
  case round =>
    obtain ⟨k, hk, rfl, rfl, hall⟩ := hrel
    have Hall := hide hall; clear hall
    obtain ⟨s1', s2'⟩ := HB.out k hk
    have s1 : -25000 ≤ sumT x k := by omega
    have s2 : sumT x k ≤ 25000 := by omega
    clear s1' s2'
    by_cases hlt : k < m
    · obtain ⟨b, off, rfl, hbb, hc⟩ := hx1.at_ hlt
      obtain ⟨q1, q2⟩ := HV.out k hlt
      by_cases hp : gv x k > 0
      · have hF := hide (show dualB N v x = false by
          have : allIn x (-5000) 0 = false := allIn_false (k := k) (by rw [hxl.out]; exact hlt) (by simp [inR]; omega)
          simp [dualB, this])
        go_wp2
        go_ret
        exact ⟨ret_bool hF.out.symm, hbel1⟩
      · have hs1 := hide (show sumT x (k + 1) = sumT x k + gv x k from rfl)
        have hs2 := hide (show allIn (x.take (k + 1)) (-5000) 0 = true by rw [allIn_snoc (by rw [hxl.out]; exact hlt), Hall.out]; simp [inR]; omega)
        go_wp2
        go_round
        case rel => exact ⟨k + 1, by omega, by go_num, by rw [hs1.out], hs2.out⟩
        case measure => simp [intOf]; omega
    · obtain rfl : k = m := by omega
      have ha : allIn x (-5000) 0 = true := by have h := Hall.out; rwa [List.take_of_length_le (by rw [hxl.out]; omega)] at h
      have e0 : dualB N v x = decide (sumT x k = minV v) := by simp [dualB, Hb.out, ha, hvl.out, hsum.out]
      have E0 := hide e0; clear e0 ha
      go_wp2_with fail
      refine (l10Least_any _ _ _ _ v _ hv1 n0).mono ?_
      rintro e w3 ⟨rfl, hb3⟩
      go_wp2
      go_ret
      exact ⟨ret_bool (by rw [E0.out, Bool.eq_iff_iff]; simp), (hF1.step hb3).1⟩
end Go.Proofs.Ytokeejachclpeaa
