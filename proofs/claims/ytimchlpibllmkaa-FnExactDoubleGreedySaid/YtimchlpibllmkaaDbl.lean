/-
  Walks: double greed.
-/
import Derived.Test.YtimchlpibllmkaaFun
namespace Go.Proofs.Ytimchlpibllmkaa
open Go.RowKit

/-- The two sets after k elements. -/
def dgN (v : List Int) (N : Nat) : Nat → Nat × Nat
  | 0 => (0, 2 ^ N - 1)
  | k + 1 =>
    if gv v ((dgN v N k).2 - p2 k) - gv v (dgN v N k).2 ≤ gainN v (dgN v N k).1 k then (insN (dgN v N k).1 k, (dgN v N k).2) else ((dgN v N k).1, (dgN v N k).2 - p2 k)
theorem sub_bits : ∀ b : Fin 32, ∀ k : Fin 5, b.val.testBit k.val = true → b.val - 2 ^ k.val = b.val ^^^ 2 ^ k.val ∧ b.val ^^^ (b.val &&& 2 ^ k.val) = b.val - 2 ^ k.val ∧ 2 ^ k.val ≤ b.val := by decide +kernel
theorem sub_p2 {b k : Nat} (hb : b < 32) (hk : k < 5) (h : b.testBit k = true) : b - p2 k = b ^^^ 2 ^ k ∧ diffN b (p2 k) = b - p2 k ∧ p2 k ≤ b := sub_bits ⟨b, hb⟩ ⟨k, hk⟩ h
theorem dg_inv {v : List Int} {N n : Nat} (fo : FnOk N n v) : ∀ k, k ≤ N → (dgN v N k).1 < n ∧ (dgN v N k).2 < n ∧ ∀ j, k ≤ j → j < N → (dgN v N k).2.testBit j = true
  | 0, _ => by
    refine ⟨fo.n0, ?_, fun j _ hj => ?_⟩
    · show 2 ^ N - 1 < n
      rw [fo.hn]; have := Nat.two_pow_pos N; omega
    · show (2 ^ N - 1).testBit j = true
      rw [Nat.testBit_two_pow_sub_one]; simp [hj]
  | k + 1, hk => by
    obtain ⟨h1, h2, h3⟩ := dg_inv fo k (by omega)
    have n32 := fo.n32
    have hN := fo.hN
    unfold dgN
    split
    · exact ⟨fo.ins h1 (by omega), h2, fun j hj hj2 => h3 j (by omega) hj2⟩
    · have hs := (sub_p2 (by omega) (by omega) (h3 k (Nat.le_refl _) (by omega))).1
      refine ⟨h1, by omega, fun j hj hj2 => ?_⟩
      show ((dgN v N k).2 - p2 k).testBit j = true
      rw [hs, Nat.testBit_xor, h3 j (by omega) hj2, Nat.testBit_two_pow]
      simp; omega
def dgR (E : Int) (v : List Int) : Int := if isFn E v then ((dgN v E.toNat E.toNat).1 : Nat) else 0

set_option maxHeartbeats 1000000 in
theorem doubleGreedy_any (E : Int) (A : Option Addr) (n c : Nat) (v : List Int) (w : World) (hv : Ints w A n v) :
    Calls Try.prog 39 #[.agg #[.int .i64 E, .slice A n c]] w fun e w' => e = .returned (.tuple #[.int .i64 (dgR E v), .bool (isFn E v)]) ∧ Below w.heap.size w w' := by
  cases hf : isFn E v
  · have e0 : dgR E v = 0 := by simp [dgR, hf]
    rw [e0]; clear e0
    go_enter Try.func39, Try.ntmps39
    go_wp2_with fail
    refine (isFunction_any _ _ _ _ v _ (hv.alloc _)).mono ?_
    rintro e w1 ⟨rfl, hb1⟩
    go_wp2
    go_ret2
    exact ⟨rfl, ((Below.refl _ _).alloc (Nat.le_refl _) _).trans (hb1.mono (by simp))⟩
  · have Hf := hide hf
    obtain ⟨N, rfl, fo⟩ := FnOk.of hf hv
    have e0 : dgR N v = ((dgN v N N).1 : Nat) := by simp [dgR, hf]
    rw [e0]; clear e0
    obtain ⟨b, off, rfl, hb, hc⟩ := hv.all_ fo.n0
    have HC := hide hc; clear hc
    have hN := fo.hN
    have h40 : N ≤ 40 := by omega
    have n32 := fo.n32
    have n0 := fo.n0
    have hfull := hide (show ((p2 N : Nat) : Int) - 1 = (((dgN v N 0).2 : Nat) : Int) by show _ = ((2 ^ N - 1 : Nat) : Int); unfold p2; have := Nat.two_pow_pos N; omega)
    go_enter Try.func39, Try.ntmps39
    go_wp2_with fail
    refine (isFunction_any _ _ _ _ v _ (hv.alloc _)).mono ?_
    rintro e w1 ⟨rfl, hb1⟩
    have hFB := (FB.start w N (some ⟨b, off, none⟩) n c).step hb1
    obtain ⟨hbel, hz, r0, r1⟩ := hFB.parts
    go_wp2_with fail
    refine (allOf_any N _ n c w1 h40).mono ?_
    rintro e w2 ⟨rfl, hb2⟩
    have hFB2 := hFB.step hb2
    clear r0 r1
    obtain ⟨-, -, r0, r1⟩ := hFB2.parts
    rw [hfull.out]
    go_wp2
    clear r0 r1 hf
    go_loopw [4, 5, 15] (fun ta tb i wr => ∃ k : Nat, k ≤ N ∧ i = .int .i64 k ∧ ta = .int .i64 ((dgN v N k).1 : Nat) ∧ tb = .int .i64 ((dgN v N k).2 : Nat) ∧ FB w wr N (some ⟨b, off, none⟩) n c) (fun _ _ i _ => N - (intOf i).toNat)
    case atStart => exact ⟨0, Nat.zero_le _, rfl, rfl, rfl, hFB2⟩
    case round =>
      obtain ⟨k, hk, rfl, rfl, rfl, hFBr⟩ := hrel
      obtain ⟨hbelr, hzr, r0, r1⟩ := hFBr.parts
      obtain ⟨ia, ib, hbits⟩ := dg_inv fo k hk
      by_cases hlt : k < N
      · have hbit := hbits k (Nat.le_refl _) hlt
        obtain ⟨s1, s2, s3⟩ := sub_p2 (by omega) (by omega) hbit
        have hs := hide (show dgN v N (k + 1) = if gv v ((dgN v N k).2 - p2 k) - gv v (dgN v N k).2 ≤ gainN v (dgN v N k).1 k then (insN (dgN v N k).1 k, (dgN v N k).2) else ((dgN v N k).1, (dgN v N k).2 - p2 k) from rfl)
        obtain ⟨g1, g2⟩ := fo.gain ia hlt
        generalize ha : (dgN v N k).1 = a at *
        generalize hbb : (dgN v N k).2 = bb at *
        clear ha hbb hbits hbit s1
        have S2 := hide s2; clear s2
        obtain ⟨d, hd⟩ : ∃ d, bb - p2 k = d := ⟨_, rfl⟩
        rw [hd] at hs S2
        have hdn : d < n := by omega
        obtain ⟨v1, v2⟩ := fo.bd ib
        obtain ⟨v3, v4⟩ := fo.bd hdn
        have x1 : wr.cell? ⟨b, off + d, none⟩ = some (.int .i64 (gv v d)) := (hbelr.cell (p := ⟨b, off + d, none⟩) hb).trans (HC.out _ hdn)
        have x2 : wr.cell? ⟨b, off + bb, none⟩ = some (.int .i64 (gv v bb)) := (hbelr.cell (p := ⟨b, off + bb, none⟩) hb).trans (HC.out _ ib)
        have hp2 := p2_le (k := k) (by omega)
        have hk40 : k ≤ 40 := by omega
        have ha10 : a < 1024 := by omega
        have hb10 : bb < 1024 := by omega
        have hp10 : p2 k < 1024 := by have := fo.p2 hlt; omega
        have i1 : (0 : Int) ≤ (d : Int) := by omega
        have i2 : (d : Int) < (n : Int) := by omega
        have i3 : (0 : Int) ≤ (bb : Int) := by omega
        have i4 : (bb : Int) < (n : Int) := by omega
        have t1 : bits .andNot .i64 (bb : Int) ((p2 k : Nat) : Int) = (d : Int) := by rw [bdiff_n bb (p2 k) hb10 hp10, S2.out]
        have t2 : IntKind.i64.wrap (gv v d - gv v bb) = gv v d - gv v bb := IntWalk.i64_in _ (by omega)
        have hyr := hide (hv.below hbelr (Nat.le_refl _))
        clear hd
        have HB := hide hbelr; clear hbelr
        by_cases hq : gv v d - gv v bb ≤ gainN v a k
        · have e1 : decide (gv v d - gv v bb ≤ gainN v a k) = true := by simp [hq]
          have hn1 := hide (show dgN v N (k + 1) = (insN a k, bb) by rw [hs.out, if_pos hq])
          go_wp2
          go_region_held3 (fun w' => w'.cell? ⟨w.heap.size, 0, none⟩ = some (.int .i64 (N : Int)) ∧ w'.cell? ⟨w.heap.size, 1, none⟩ = some (.slice (some ⟨b, off, none⟩) n c) ∧ w'.cell? ⟨b, off + d, none⟩ = some (.int .i64 (gv v d)) ∧ w'.cell? ⟨b, off + bb, none⟩ = some (.int .i64 (gv v bb)))
            (first
              | go_keep
              | exact ⟨(hb3.cell (p := ⟨w.heap.size, 0, none⟩) hzr).trans r0, (hb3.cell (p := ⟨w.heap.size, 1, none⟩) hzr).trans r1, (hb3.cell (p := ⟨b, off + d, none⟩) (Nat.lt_of_lt_of_le hb HB.out.size)).trans x1, (hb3.cell (p := ⟨b, off + bb, none⟩) (Nat.lt_of_lt_of_le hb HB.out.size)).trans x2⟩)
            (first
              | (go_at_call 58; refine (gain_any N _ n c v a k _ hyr.out.drew Hf.out ia (by omega)).mono ?_; rintro e w3 ⟨rfl, hb3⟩))
          go_wp2
          go_roundw
          case rel => exact ⟨k + 1, by omega, by go_num, by rw [hn1.out]; rfl, by rw [hn1.out], hFBr.drew.step hb3⟩
          case measure => simp [intOf]; omega
        · have e1 : decide (gv v d - gv v bb ≤ gainN v a k) = false := by simp; omega
          have hn1 := hide (show dgN v N (k + 1) = (a, d) by rw [hs.out, if_neg hq])
          go_wp2
          go_region_held3 (fun w' => w'.cell? ⟨w.heap.size, 0, none⟩ = some (.int .i64 (N : Int)) ∧ w'.cell? ⟨w.heap.size, 1, none⟩ = some (.slice (some ⟨b, off, none⟩) n c) ∧ w'.cell? ⟨b, off + d, none⟩ = some (.int .i64 (gv v d)) ∧ w'.cell? ⟨b, off + bb, none⟩ = some (.int .i64 (gv v bb)))
            (first
              | go_keep
              | exact ⟨(hb3.cell (p := ⟨w.heap.size, 0, none⟩) hzr).trans r0, (hb3.cell (p := ⟨w.heap.size, 1, none⟩) hzr).trans r1, (hb3.cell (p := ⟨b, off + d, none⟩) (Nat.lt_of_lt_of_le hb HB.out.size)).trans x1, (hb3.cell (p := ⟨b, off + bb, none⟩) (Nat.lt_of_lt_of_le hb HB.out.size)).trans x2⟩)
            (first
              | (go_at_call 58; refine (gain_any N _ n c v a k _ hyr.out.drew Hf.out ia (by omega)).mono ?_; rintro e w3 ⟨rfl, hb3⟩))
          go_wp2
          go_roundw
          case rel => exact ⟨k + 1, by omega, by go_num, by rw [hn1.out], by rw [hn1.out], hFBr.drew.step hb3⟩
          case measure => simp [intOf]; omega
      · obtain rfl : k = N := by omega
        go_wp2
        go_ret2
        exact ⟨rfl, hbelr⟩
set_option maxHeartbeats 1000000 in
theorem specDoubleGreedy_any (E : Int) (A : Option Addr) (n c : Nat) (v : List Int) (w : World) (hv : Ints w A n v) :
    Calls Try.prog 38 #[.agg #[.int .i64 E, .slice A n c]] w fun e w' => e = .returned (.tuple #[.int .i64 (dgR E v), .bool (isFn E v)]) ∧ Below w.heap.size w w' := by
  cases hf : isFn E v
  · have e0 : dgR E v = 0 := by simp [dgR, hf]
    rw [e0]; clear e0
    go_enter Try.func38, Try.ntmps38
    go_wp2_with fail
    refine (specIsFunction_any _ _ _ _ v _ (hv.alloc _)).mono ?_
    rintro e w1 ⟨rfl, hb1⟩
    go_wp2
    go_ret2
    exact ⟨rfl, ((Below.refl _ _).alloc (Nat.le_refl _) _).trans (hb1.mono (by simp))⟩
  · have Hf := hide hf
    obtain ⟨N, rfl, fo⟩ := FnOk.of hf hv
    have e0 : dgR N v = ((dgN v N N).1 : Nat) := by simp [dgR, hf]
    rw [e0]; clear e0
    obtain ⟨b, off, rfl, hb, hc⟩ := hv.all_ fo.n0
    have HC := hide hc; clear hc
    have hN := fo.hN
    have h40 : N ≤ 40 := by omega
    have n32 := fo.n32
    have n0 := fo.n0
    have hfull := hide (show ((p2 N : Nat) : Int) - 1 = (((dgN v N 0).2 : Nat) : Int) by show _ = ((2 ^ N - 1 : Nat) : Int); unfold p2; have := Nat.two_pow_pos N; omega)
    go_enter Try.func38, Try.ntmps38
    go_wp2_with fail
    refine (specIsFunction_any _ _ _ _ v _ (hv.alloc _)).mono ?_
    rintro e w1 ⟨rfl, hb1⟩
    have hFB := (FB.start w N (some ⟨b, off, none⟩) n c).step hb1
    obtain ⟨hbel, hz, r0, r1⟩ := hFB.parts
    go_wp2_with fail
    refine (l2Full_any N w1 h40).mono ?_
    rintro e w2 ⟨rfl, rfl⟩
    rw [hfull.out]
    go_wp2
    clear r0 r1 hf
    go_loopw [4, 5, 6] (fun ta tb i wr => ∃ k : Nat, k ≤ N ∧ i = .int .i64 k ∧ ta = .int .i64 ((dgN v N k).1 : Nat) ∧ tb = .int .i64 ((dgN v N k).2 : Nat) ∧ FB w wr N (some ⟨b, off, none⟩) n c) (fun _ _ i _ => N - (intOf i).toNat)
    case atStart => exact ⟨0, Nat.zero_le _, rfl, rfl, rfl, hFB⟩
    case round =>
      obtain ⟨k, hk, rfl, rfl, rfl, hFBr⟩ := hrel
      obtain ⟨hbelr, hzr, r0, r1⟩ := hFBr.parts
      obtain ⟨ia, ib, hbits⟩ := dg_inv fo k hk
      by_cases hlt : k < N
      · have hbit := hbits k (Nat.le_refl _) hlt
        obtain ⟨s1, s2, s3⟩ := sub_p2 (by omega) (by omega) hbit
        have hi := fo.ins ia hlt
        have hs := hide (show dgN v N (k + 1) = if gv v ((dgN v N k).2 - p2 k) - gv v (dgN v N k).2 ≤ gv v (insN (dgN v N k).1 k) - gv v (dgN v N k).1 then (insN (dgN v N k).1 k, (dgN v N k).2) else ((dgN v N k).1, (dgN v N k).2 - p2 k) from rfl)
        generalize ha : (dgN v N k).1 = a at *
        generalize hbb : (dgN v N k).2 = bb at *
        clear ha hbb hbits hbit s1 s2
        obtain ⟨d, hd⟩ : ∃ d, bb - p2 k = d := ⟨_, rfl⟩
        rw [hd] at hs
        have hdi := hide (show ((bb : Int) - ((p2 k : Nat) : Int)) = (d : Int) by omega)
        have hdn : d < n := by omega
        obtain ⟨v1, v2⟩ := fo.bd ib
        obtain ⟨v3, v4⟩ := fo.bd hdn
        obtain ⟨v5, v6⟩ := fo.bd ia
        obtain ⟨v7, v8⟩ := fo.bd hi
        have x1 : wr.cell? ⟨b, off + d, none⟩ = some (.int .i64 (gv v d)) := (hbelr.cell (p := ⟨b, off + d, none⟩) hb).trans (HC.out _ hdn)
        have x2 : wr.cell? ⟨b, off + bb, none⟩ = some (.int .i64 (gv v bb)) := (hbelr.cell (p := ⟨b, off + bb, none⟩) hb).trans (HC.out _ ib)
        have x3 : wr.cell? ⟨b, off + a, none⟩ = some (.int .i64 (gv v a)) := (hbelr.cell (p := ⟨b, off + a, none⟩) hb).trans (HC.out _ ia)
        have x4 : wr.cell? ⟨b, off + insN a k, none⟩ = some (.int .i64 (gv v (insN a k))) := (hbelr.cell (p := ⟨b, off + insN a k, none⟩) hb).trans (HC.out _ hi)
        have hp2 := p2_le (k := k) (by omega)
        have hk40 : k ≤ 40 := by omega
        have ha10 : a < 1024 := by omega
        have hb10 : bb < 1024 := by omega
        have i0 : (0 : Int) ≤ (k : Int) := by omega
        have i1 : (0 : Int) ≤ (d : Int) := by omega
        have i2 : (d : Int) < (n : Int) := by omega
        have i3 : (0 : Int) ≤ (bb : Int) := by omega
        have i4 : (bb : Int) < (n : Int) := by omega
        have i5 : (0 : Int) ≤ (a : Int) := by omega
        have i6 : (a : Int) < (n : Int) := by omega
        have i7 : (0 : Int) ≤ (insN a k : Int) := by omega
        have i8 : (insN a k : Int) < (n : Int) := by omega
        have t1 : IntKind.i64.wrap ((bb : Int) - ((p2 k : Nat) : Int)) = (d : Int) := by rw [hdi.out]; exact IntWalk.i64_in _ (by omega)
        have t2 : IntKind.i64.wrap (gv v d - gv v bb) = gv v d - gv v bb := IntWalk.i64_in _ (by omega)
        have t3 : IntKind.i64.wrap (gv v (insN a k) - gv v a) = gv v (insN a k) - gv v a := IntWalk.i64_in _ (by omega)
        have t4 : (bb : Int) - ((p2 k : Nat) : Int) = (d : Int) := hdi.out
        clear hd
        have HB := hide hbelr; clear hbelr
        by_cases hq : gv v d - gv v bb ≤ gv v (insN a k) - gv v a
        · have hn1 := hide (show dgN v N (k + 1) = (insN a k, bb) by rw [hs.out, if_pos hq])
          go_wp2
          go_quiet (fail)
          go_wp2
          go_quiet (fail)
          go_wp2
          go_roundw
          case rel => exact ⟨k + 1, by omega, by go_num, by rw [hn1.out], by rw [hn1.out], hFBr.drewN _⟩
          case measure => simp [intOf]; omega
        · have hn1 := hide (show dgN v N (k + 1) = (a, d) by rw [hs.out, if_neg hq])
          go_wp2
          go_quiet (fail)
          go_wp2
          go_quiet (fail)
          go_wp2
          go_roundw
          case rel => exact ⟨k + 1, by omega, by go_num, by rw [hn1.out], by rw [hn1.out], hFBr.drewN _⟩
          case measure => simp [intOf]; omega
      · obtain rfl : k = N := by omega
        go_wp2
        go_ret2
        exact ⟨rfl, hbelr⟩
end Go.Proofs.Ytimchlpibllmkaa
