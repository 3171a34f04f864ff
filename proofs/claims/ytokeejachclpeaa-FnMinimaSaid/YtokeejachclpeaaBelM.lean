/-
  Walks: vectors below a function; bases.
  Walks: bases, tight sets.
  Walks: bases by the reference; tight sets; dual vectors.
  Walks: is a vector dual.
-/
import Derived.Test.YtokeejachclpeaaWgtM
import Derived.Test.YtokeejachclpeaaMinM
import Derived.Deep.RegionWith
import Derived.Test.YtokeejachclpeaaClass
import Derived.BigQuiet
namespace Go.Proofs.Ytokeejachclpeaa
open Go.RowKit

/-- 0 for the empty set. -/
def grdB (E : Int) (v : List Int) : Bool := isFn E v && decide (gv v 0 = 0)
/-- One number from -5000 to 5000 for each element. -/
def longOk (E : Int) (x : List Int) : Bool := decide ((x.length : Int) = E) && allIn x (-5000) 5000
/-- What the weight of a set lacks to its value. -/
def slk (v x : List Int) (s : Nat) : Int := gv v s - weigh x s
def belowB (E : Int) (v x : List Int) : Bool := grdB E v && (longOk E x && decide (∀ s, s < v.length → 0 ≤ slk v x s))
def baseB (E : Int) (v x : List Int) : Bool := belowB E v x && decide (slk v x (v.length - 1) = 0)
theorem grd_fn {E : Int} {v : List Int} (h : grdB E v = true) : isFn E v = true := by simp [grdB] at h; exact h.1
theorem long_vec {E : Int} {v x : List Int} (hf : isFn E v = true) (h : longOk E x = true) : vecOk 5000 x = true := by
  obtain ⟨N, rfl, hN, _, _⟩ := isFn_true hf
  simp [longOk] at h
  simp [vecOk, h.2]; omega
structure BelowOk (E : Int) (v x : List Int) : Prop where
  fn : isFn E v = true
  g0 : gv v 0 = 0
  len : (x.length : Int) = E
  vec : vecOk 5000 x = true
  all : ∀ s, s < v.length → 0 ≤ slk v x s
theorem below_ok {E : Int} {v x : List Int} (h : belowB E v x = true) : BelowOk E v x := by
  simp [belowB, grdB] at h
  obtain ⟨⟨h1, h2⟩, h3, h4⟩ := h
  refine ⟨h1, h2, ?_, long_vec h1 h3, h4⟩
  simp [longOk] at h3; exact h3.1
theorem slk_bd {N n : Nat} {v x : List Int} (fo : FnOk N n v) (hx : vecOk 5000 x = true) {s : Nat} (hs : s < n) : -26000 ≤ slk v x s ∧ slk v x s ≤ 26000 := by
  have := fo.bd hs; have := weigh_bd hx s; unfold slk; omega

theorem isGrounded_any (E : Int) (A : Option Addr) (n c : Nat) (v : List Int) (w : World) (hv : Ints w A n v) :
    Calls Try.prog 139 #[.agg #[.int .i64 E, .slice A n c]] w fun e w' => e = .returned (.bool (grdB E v)) ∧ Below w.heap.size w w' := by
  unfold grdB
  cases hf : isFn E v
  · go_enter Try.func139, Try.ntmps139
    go_wp2_with fail
    refine (isFunction_any _ _ _ _ v _ (hv.alloc _)).mono ?_
    rintro e w1 ⟨rfl, hb1⟩
    go_wp2
    go_ret
    exact ⟨rfl, ((Below.refl _ _).alloc (Nat.le_refl _) _).trans (hb1.mono (by simp))⟩
  · have Hf := hide hf
    obtain ⟨N, rfl, fo⟩ := FnOk.of hf hv
    obtain ⟨b, off, rfl, hb, hc⟩ := hv.all_ fo.n0
    have n0 := fo.n0
    go_enter Try.func139, Try.ntmps139
    go_wp2_with fail
    refine (isFunction_any _ _ _ _ v _ (hv.alloc _)).mono ?_
    rintro e w1 ⟨rfl, hb1⟩
    obtain ⟨hbel, hz, r0, r1⟩ := ((FB.start w N (some ⟨b, off, none⟩) n c).step hb1).parts
    have c0 : w1.cell? ⟨b, off, none⟩ = some (.int .i64 (gv v 0)) := (hbel.cell (p := ⟨b, off, none⟩) hb).trans (hc 0 n0)
    rw [Hf.out]
    go_wp2
    go_ret
    exact ⟨ret_bool (by rw [Bool.eq_iff_iff]; simp), hbel⟩
theorem specIsGrounded_any (E : Int) (A : Option Addr) (n c : Nat) (v : List Int) (w : World) (hv : Ints w A n v) :
    Calls Try.prog 24 #[.agg #[.int .i64 E, .slice A n c]] w fun e w' => e = .returned (.bool (grdB E v)) ∧ Below w.heap.size w w' := by
  unfold grdB
  cases hf : isFn E v
  · go_enter Try.func24, Try.ntmps24
    go_wp2_with fail
    refine (specIsFunction_any _ _ _ _ v _ (hv.alloc _)).mono ?_
    rintro e w1 ⟨rfl, hb1⟩
    go_wp2
    go_ret
    exact ⟨rfl, ((Below.refl _ _).alloc (Nat.le_refl _) _).trans (hb1.mono (by simp))⟩
  · have Hf := hide hf
    obtain ⟨N, rfl, fo⟩ := FnOk.of hf hv
    obtain ⟨b, off, rfl, hb, hc⟩ := hv.all_ fo.n0
    have n0 := fo.n0
    go_enter Try.func24, Try.ntmps24
    go_wp2_with fail
    refine (specIsFunction_any _ _ _ _ v _ (hv.alloc _)).mono ?_
    rintro e w1 ⟨rfl, hb1⟩
    obtain ⟨hbel, hz, r0, r1⟩ := ((FB.start w N (some ⟨b, off, none⟩) n c).step hb1).parts
    have c0 : w1.cell? ⟨b, off, none⟩ = some (.int .i64 (gv v 0)) := (hbel.cell (p := ⟨b, off, none⟩) hb).trans (hc 0 n0)
    rw [Hf.out]
    go_wp2
    go_ret
    exact ⟨ret_bool (by rw [Bool.eq_iff_iff]; simp), hbel⟩
theorem isLongVector_any (E : Int) (A A' : Option Addr) (n c m c' : Nat) (x : List Int) (w : World) (hx : Ints w A' m x) :
    Calls Try.prog 157 #[.agg #[.int .i64 E, .slice A n c], .slice A' m c'] w fun e w' => e = .returned (.bool (longOk E x)) ∧ Below w.heap.size w w' := by
  have hlen := hide hx.len
  unfold longOk
  rw [hlen.out]
  by_cases h : (m : Int) = E
  · subst h
    go_enter Try.func157, Try.ntmps157
    go_wp2_with fail
    refine (areWithin_any _ _ _ x _ _ _ (hx.alloc _)).mono ?_
    rintro e w' ⟨rfl, rfl⟩
    go_wp2
    go_ret
    exact ⟨ret_bool (by simp), (Below.refl _ _).alloc (Nat.le_refl _) _⟩
  · have e1 : ((m : Int) == E) = false := by simp [h]
    have e2 : decide ((m : Int) = E) = false := by simp [h]
    rw [e2]; clear e2
    go_enter Try.func157, Try.ntmps157
    go_wp2
    go_ret
    exact ⟨rfl, (Below.refl _ _).alloc (Nat.le_refl _) _⟩
theorem slack_any (E : Int) (A : Option Addr) (n c : Nat) (v : List Int) (A' : Option Addr) (m c' : Nat) (x : List Int) (s : Nat) (w : World) (hv : Ints w A n v) (hf : isFn E v = true) (hx : Ints w A' m x) (hxo : vecOk 5000 x = true) (hs : s < n) :
    Calls Try.prog 148 #[.agg #[.int .i64 E, .slice A n c], .slice A' m c', .int .i64 s] w fun e w' => e = .returned (.int .i64 (slk v x s)) ∧ Below w.heap.size w w' := by
  obtain ⟨N, rfl, fo⟩ := FnOk.of hf hv
  obtain ⟨b, off, rfl, hb, hc⟩ := hv.all_ fo.n0
  have hN := fo.hN
  have n32 := fo.n32
  have n0 := fo.n0
  have j1 : w.heap.size ≠ b := by omega
  clear hf
  have hs10 : s < 1024 := by omega
  have x0 := hc _ hs
  have g0 := fo.bd hs
  have g1 := weigh_bd hxo s
  have i1 : (0 : Int) ≤ (s : Int) := by omega
  have i2 : (s : Int) < (n : Int) := by omega
  have t1 : IntKind.i64.wrap (gv v s - weigh x s) = slk v x s := IntWalk.i64_in _ (by omega)
  clear hc
  go_enter Try.func148, Try.ntmps148
  go_wp2
  go_quiet ((go_at_call 152; exact quiet_left (weightOf_any _ _ _ x s _ (hx.alloc _) hxo hs10)))
  clear t1
  go_wp2
  go_ret
  exact ⟨rfl, below_drewN ((Below.refl _ _).alloc (Nat.le_refl _) _) _⟩
set_option maxHeartbeats 400000 in
theorem isBelow_any (E : Int) (A : Option Addr) (n c : Nat) (v : List Int) (A' : Option Addr) (m c' : Nat) (x : List Int) (w : World) (hv : Ints w A n v) (hx : Ints w A' m x) :
    Calls Try.prog 37 #[.agg #[.int .i64 E, .slice A n c], .slice A' m c'] w fun e w' => e = .returned (.bool (belowB E v x)) ∧ Below w.heap.size w w' := by
  cases hg : grdB E v
  · have e0 : belowB E v x = false := by simp [belowB, hg]
    rw [e0]; clear e0
    go_enter Try.func37, Try.ntmps37
    go_wp2_with fail
    refine (isGrounded_any _ _ _ _ v _ (hv.alloc _)).mono ?_
    rintro e w1 ⟨rfl, hb1⟩
    rw [hg]
    go_wp2
    go_ret
    exact ⟨rfl, ((Below.refl _ _).alloc (Nat.le_refl _) _).trans (hb1.mono (by simp))⟩
  cases hl : longOk E x
  · have e0 : belowB E v x = false := by simp [belowB, hl]
    rw [e0]; clear e0
    go_enter Try.func37, Try.ntmps37
    go_wp2_with fail
    refine (isGrounded_any _ _ _ _ v _ (hv.alloc _)).mono ?_
    rintro e w1 ⟨rfl, hb1⟩
    have hFB := (FB.start w E A n c).step hb1
    obtain ⟨hbel, hz, r0, r1⟩ := hFB.parts
    rw [hg]
    go_wp2_with fail
    refine (isLongVector_any _ _ _ _ _ _ _ x _ (hx.below hbel (Nat.le_refl _))).mono ?_
    rintro e w2 ⟨rfl, hb2⟩
    rw [hl]
    go_wp2
    go_ret
    exact ⟨rfl, (hFB.step hb2).1⟩
  · have Hf := hide (grd_fn hg)
    have HV := hide (long_vec Hf.out hl)
    have hvl := hide hv.len
    have e0 : belowB E v x = decide (∀ s, s < n → 0 ≤ slk v x s) := by simp [belowB, hg, hl, hvl.out]
    rw [e0]; clear e0
    have Hg := hide hg
    have Hl := hide hl
    clear hg hl
    go_enter Try.func37, Try.ntmps37
    go_wp2_with fail
    refine (isGrounded_any _ _ _ _ v _ (hv.alloc _)).mono ?_
    rintro e w1 ⟨rfl, hb1⟩
    have hFB := (FB.start w E A n c).step hb1
    obtain ⟨hbel, hz, r0, r1⟩ := hFB.parts
    rw [Hg.out]
    go_wp2_with fail
    refine (isLongVector_any _ _ _ _ _ _ _ x _ (hx.below hbel (Nat.le_refl _))).mono ?_
    rintro e w2 ⟨rfl, hb2⟩
    have hFB2 := hFB.step hb2
    clear r0 r1
    obtain ⟨-, -, r0, r1⟩ := hFB2.parts
    rw [Hl.out]
    have hle := hv.le
    go_wp2
    clear r0 r1
    go_loopw [18] (fun i wr => ∃ k : Nat, k ≤ n ∧ i = .int .i64 k ∧ (∀ s, s < k → 0 ≤ slk v x s) ∧ FB w wr E A n c) (fun i _ => n - (intOf i).toNat)
    case atStart => exact ⟨0, Nat.zero_le _, rfl, fun _ h => absurd h (by omega), hFB2⟩
    case round =>
      obtain ⟨k, hk, rfl, hall, hFBr⟩ := hrel
      obtain ⟨hbelr, hzr, r0, r1⟩ := hFBr.parts
      have HALL := hide hall; clear hall
      by_cases hlt : k < n
      · have hS := slack_any E A n c v A' m c' x k wr (hv.below hbelr (Nat.le_refl _)) Hf.out (hx.below hbelr (Nat.le_refl _)) HV.out hlt
        have HS := hide hS; clear hS
        go_wp2_with fail
        refine HS.out.mono ?_
        rintro e w3 ⟨rfl, hb3⟩
        by_cases hq : slk v x k < 0
        · have e1 : decide (slk v x k < 0) = true := by simp [hq]
          go_wp2
          go_ret
          exact ⟨ret_bool (by symm; rw [decide_eq_false_iff_not]; intro h; have := h k hlt; omega), (hFBr.step hb3).1⟩
        · have e1 : decide (slk v x k < 0) = false := by simp; omega
          go_wp2
          go_roundw
          case rel => exact ⟨k + 1, by omega, by go_num, fun s hs => by
            by_cases e : s = k
            · subst e; omega
            · exact HALL.out s (by omega), hFBr.step hb3⟩
          case measure => simp [intOf]; omega
      · obtain rfl : k = n := by omega
        go_wp2
        go_ret
        exact ⟨ret_bool (by symm; rw [decide_eq_true_eq]; exact HALL.out), hbelr⟩
set_option maxHeartbeats 400000 in
theorem specIsBelow_any (E : Int) (A : Option Addr) (n c : Nat) (v : List Int) (A' : Option Addr) (m c' : Nat) (x : List Int) (w : World) (hv : Ints w A n v) (hx : Ints w A' m x) :
    Calls Try.prog 155 #[.agg #[.int .i64 E, .slice A n c], .slice A' m c'] w fun e w' => e = .returned (.bool (belowB E v x)) ∧ Below w.heap.size w w' := by
  have hxl := hide hx.len
  cases hg : grdB E v
  · have e0 : belowB E v x = false := by simp [belowB, hg]
    rw [e0]; clear e0
    go_enter Try.func155, Try.ntmps155
    go_wp2_with fail
    refine (specIsGrounded_any _ _ _ _ v _ (hv.alloc _)).mono ?_
    rintro e w1 ⟨rfl, hb1⟩
    rw [hg]
    go_wp2
    go_ret
    exact ⟨rfl, ((Below.refl _ _).alloc (Nat.le_refl _) _).trans (hb1.mono (by simp))⟩
  by_cases hm : (m : Int) = E
  · subst hm
    cases hl : vecOk 5000 x
    · have e0 : belowB m v x = false := by
        have : longOk m x = false := by
          cases h : longOk m x
          · rfl
          · rw [long_vec (grd_fn hg) h] at hl; cases hl
        simp [belowB, this]
      rw [e0]; clear e0
      go_enter Try.func155, Try.ntmps155
      go_wp2_with fail
      refine (specIsGrounded_any _ _ _ _ v _ (hv.alloc _)).mono ?_
      rintro e w1 ⟨rfl, hb1⟩
      have hFB := (FB.start w m A n c).step hb1
      obtain ⟨hbel, hz, r0, r1⟩ := hFB.parts
      rw [hg]
      go_wp2_with fail
      refine (l8Vector_any _ _ _ x _ (hx.below hbel (Nat.le_refl _))).mono ?_
      rintro e w2 ⟨rfl, rfl⟩
      rw [hl]
      go_wp2
      go_ret
      exact ⟨rfl, hbel⟩
    · have Hf := hide (grd_fn hg)
      have HV := hide hl
      have hvl := hide hv.len
      have e0 : belowB m v x = decide (∀ s, s < n → 0 ≤ slk v x s) := by
        simp [belowB, hg, hvl.out, longOk, hxl.out, (vecOk_true hl).2]
      rw [e0]; clear e0
      have Hg := hide hg
      clear hg hl
      obtain ⟨N, hNm, fo⟩ := FnOk.of Hf.out hv
      obtain ⟨b, off, rfl, hb, hc⟩ := hv.all_ fo.n0
      have HC := hide hc; clear hc
      have n32 := fo.n32
      clear hNm
      go_enter Try.func155, Try.ntmps155
      go_wp2_with fail
      refine (specIsGrounded_any _ _ _ _ v _ (hv.alloc _)).mono ?_
      rintro e w1 ⟨rfl, hb1⟩
      have hFB := (FB.start w m (some ⟨b, off, none⟩) n c).step hb1
      obtain ⟨hbel, hz, r0, r1⟩ := hFB.parts
      rw [Hg.out]
      go_wp2_with fail
      refine (l8Vector_any _ _ _ x _ (hx.below hbel (Nat.le_refl _))).mono ?_
      rintro e w2 ⟨rfl, rfl⟩
      rw [HV.out]
      go_wp2
      clear r0 r1
      go_loopw [5] (fun i wr => ∃ k : Nat, k ≤ n ∧ i = .int .i64 k ∧ (∀ s, s < k → 0 ≤ slk v x s) ∧ FB w wr m (some ⟨b, off, none⟩) n c) (fun i _ => n - (intOf i).toNat)
      case atStart => exact ⟨0, Nat.zero_le _, rfl, fun _ h => absurd h (by omega), hFB⟩
      case round =>
        obtain ⟨k, hk, rfl, hall, hFBr⟩ := hrel
        obtain ⟨hbelr, hzr, r0, r1⟩ := hFBr.parts
        have HALL := hide hall; clear hall
        by_cases hlt : k < n
        · have c1 : wr.cell? ⟨b, off + k, none⟩ = some (.int .i64 (gv v k)) := (hbelr.cell (p := ⟨b, off + k, none⟩) hb).trans (HC.out _ hlt)
          have hk10 : k < 1024 := by omega
          have hxr := hide (hx.below hbelr (Nat.le_refl _))
          have i1 : (0 : Int) ≤ (k : Int) := by omega
          have i2 : (k : Int) < (n : Int) := by omega
          have HB := hide hbelr; clear hbelr
          by_cases hq : gv v k < weigh x k
          · have e1 : decide (gv v k < weigh x k) = true := by simp [hq]
            go_wp2
            go_quiet ((go_at_call 156; exact quiet_left (l3Weigh_any _ _ _ x k _ hxr.out HV.out hk10)))
            go_wp2
            go_ret
            exact ⟨ret_bool (by symm; rw [decide_eq_false_iff_not]; intro h; have := h k hlt; unfold slk at this; omega), below_drewN HB.out _⟩
          · have e1 : decide (gv v k < weigh x k) = false := by simp; omega
            have hq2 : 0 ≤ slk v x k := by unfold slk; omega
            go_wp2
            go_quiet ((go_at_call 156; exact quiet_left (l3Weigh_any _ _ _ x k _ hxr.out HV.out hk10)))
            go_wp2
            go_roundw
            case rel => exact ⟨k + 1, by omega, by go_num, fun s hs => by
              by_cases e : s = k
              · subst e; omega
              · exact HALL.out s (by omega), hFBr.drewN _⟩
            case measure => simp [intOf]; omega
        · obtain rfl : k = n := by omega
          go_wp2
          go_ret
          exact ⟨ret_bool (by symm; rw [decide_eq_true_eq]; exact HALL.out), hbelr⟩
  · have e0 : belowB E v x = false := by simp [belowB, longOk, hxl.out, hm]
    rw [e0]; clear e0
    have e1 : ((m : Int) != E) = true := by simp [hm]
    go_enter Try.func155, Try.ntmps155
    go_wp2_with fail
    refine (specIsGrounded_any _ _ _ _ v _ (hv.alloc _)).mono ?_
    rintro e w1 ⟨rfl, hb1⟩
    obtain ⟨hbel, hz, r0, r1⟩ := ((FB.start w E A n c).step hb1).parts
    rw [hg]
    go_wp2
    go_ret
    exact ⟨rfl, hbel⟩
end Go.Proofs.Ytokeejachclpeaa
namespace Go.Proofs.Ytokeejachclpeaa
open Go.RowKit

theorem p2_full {N n : Nat} (hn : n = 2 ^ N) : ((p2 N : Nat) : Int) - 1 = ((n - 1 : Nat) : Int) := by
  have := Nat.two_pow_pos N; unfold p2; omega

theorem allOfFn_any (E : Int) (A : Option Addr) (n c : Nat) (v : List Int) (w : World) (hl : v.length = n) (hf : isFn E v = true) : Calls Try.prog 149 #[.agg #[.int .i64 E, .slice A n c]] w fun e w' => e = .returned (.int .i64 ((n - 1 : Nat) : Int)) ∧ Below w.heap.size w w' := by
  obtain ⟨N, rfl, hN, hn, _⟩ := isFn_true hf
  rw [← p2_full (N := N) (n := n) (by omega)]
  exact allOf_any N A n c w (by omega)
set_option maxHeartbeats 1000000 in
theorem isBase_any (E : Int) (A : Option Addr) (n c : Nat) (v : List Int) (A' : Option Addr) (m c' : Nat) (x : List Int) (w : World) (hv : Ints w A n v) (hx : Ints w A' m x) :
    Calls Try.prog 21 #[.agg #[.int .i64 E, .slice A n c], .slice A' m c'] w fun e w' => e = .returned (.bool (baseB E v x)) ∧ Below w.heap.size w w' := by
  have hF0 := FB.start w E A n c
  obtain ⟨hbel0, hz0, r0, r1⟩ := hF0.parts
  cases hb : belowB E v x
  · have e0 : baseB E v x = false := by simp [baseB, hb]
    rw [e0]; clear e0
    have hno := hide (fun W (h1 : Ints W A n v) (h2 : Ints W A' m x) => hb ▸ isBelow_any E A n c v A' m c' x W h1 h2)
    clear hb
    go_enter Try.func21, Try.ntmps21
    go_wp2
    first
      | go_region_with (go_at_call 37; refine (hno.out _ (hv.below hbel0 (Nat.le_refl _)).drew (hx.below hbel0 (Nat.le_refl _)).drew).mono ?_; rintro e w1 ⟨rfl, hb1⟩)
      | fail
    all_goals
      go_wp2
      go_ret
      exact ⟨rfl, (hF0.drew.step hb1).1⟩
  · obtain ⟨bfn, bg0, blen, bvec, ball⟩ := below_ok hb
    have hvl := hide hv.len
    have e0 : baseB E v x = decide (slk v x (n - 1) = 0) := by simp [baseB, hb, hvl.out]
    rw [e0]; clear e0
    have Hf := hide bfn
    clear bfn bg0 blen ball
    obtain ⟨N, rfl, fo⟩ := FnOk.of Hf.out hv
    have hN := fo.hN
    have n0 := fo.n0
    have h40 : N ≤ 40 := by omega
    have hfull := hide (p2_full fo.hn)
    have hlt : n - 1 < n := by omega
    generalize n - 1 = d at *
    go_enter Try.func21, Try.ntmps21
    go_wp2
    go_region_held3 (fun w' => w'.cell? ⟨w.heap.size, 0, none⟩ = some (.int .i64 (N : Int)) ∧ w'.cell? ⟨w.heap.size, 1, none⟩ = some (.slice A n c))
      (first
        | go_keep
        | exact ⟨(hb3.cell (p := ⟨w.heap.size, 0, none⟩) (hFc.2.1)).trans hFc.2.2.1, (hb3.cell (p := ⟨w.heap.size, 1, none⟩) (hFc.2.1)).trans hFc.2.2.2⟩
        | exact ⟨hFc.2.2.1, hFc.2.2.2⟩
        | exact ⟨hFa.2.2.1, hFa.2.2.2⟩)
      (first
        | (go_at_call 37; refine (isBelow_any N A n c v A' m c' x _ (hv.below hbel0 (Nat.le_refl _)).drew (hx.below hbel0 (Nat.le_refl _)).drew).mono ?_; rintro e w1 ⟨rfl, hb1⟩; rw [hb]; have hFa := hF0.drew.step hb1)
        | (go_at_call 149; refine (allOf_any N A n c _ h40).mono ?_; rintro e w2 ⟨rfl, hb2⟩; rw [hfull.out]; have hFc := hFa.step hb2)
        | (go_at_call 148; refine (slack_any N A n c v A' m c' x d _ (hv.below hFc.1 (Nat.le_refl _)) Hf.out (hx.below hFc.1 (Nat.le_refl _)) bvec hlt).mono ?_; rintro e w3 ⟨rfl, hb3⟩))
    go_wp2
    go_ret
    exact ⟨ret_bool (by rw [Bool.eq_iff_iff]; simp), (hFc.step hb3).1⟩
end Go.Proofs.Ytokeejachclpeaa
namespace Go.Proofs.Ytokeejachclpeaa
open Go.RowKit

set_option maxHeartbeats 1000000 in
theorem specIsBase_any (E : Int) (A : Option Addr) (n c : Nat) (v : List Int) (A' : Option Addr) (m c' : Nat) (x : List Int) (w : World) (hv : Ints w A n v) (hx : Ints w A' m x) :
    Calls Try.prog 38 #[.agg #[.int .i64 E, .slice A n c], .slice A' m c'] w fun e w' => e = .returned (.bool (baseB E v x)) ∧ Below w.heap.size w w' := by
  have hF0 := FB.start w E A n c
  obtain ⟨hbel0, hz0, r0, r1⟩ := hF0.parts
  cases hb : belowB E v x
  · have e0 : baseB E v x = false := by simp [baseB, hb]
    rw [e0]; clear e0
    have q0 := wc_cell r0
    have q1 := wc_cell r1
    have hno := hide (fun W (h1 : Ints W A n v) (h2 : Ints W A' m x) => hb ▸ specIsBelow_any E A n c v A' m c' x W h1 h2)
    clear hb
    go_enter Try.func38, Try.ntmps38
    go_wp2
    refine region_below (by kernel_rfl) (by kernel_rfl) ?_
    repeat (go_big_quiet_step ((go_at_call 155; exact wc_call (hno.out _ (wc_ints (hv.below hbel0 (Nat.le_refl _)) _) (wc_ints (hx.below hbel0 (Nat.le_refl _)) _)))))
    refine wpQuiet_nil ?_
    intro _ hw'
    obtain ⟨p, rfl⟩ := hw'
    go_wp2
    go_ret
    exact ⟨rfl, (hF0.step p.below).1⟩
  · obtain ⟨bfn, bg0, blen, bvec, ball⟩ := below_ok hb
    have hvl := hide hv.len
    have e0 : baseB E v x = decide (slk v x (n - 1) = 0) := by simp [baseB, hb, hvl.out]
    rw [e0]; clear e0
    have Hf := hide bfn
    clear bfn bg0 blen ball
    obtain ⟨N, rfl, fo⟩ := FnOk.of Hf.out hv
    have hN := fo.hN
    have n0 := fo.n0
    have n32 := fo.n32
    have h40 : N ≤ 40 := by omega
    have hfull := hide (p2_full fo.hn)
    have hlt : n - 1 < n := by omega
    have hnd := hide (show (n : Int) - 1 = ((n - 1 : Nat) : Int) by omega)
    obtain ⟨b, off, rfl, hbb, hc⟩ := hv.all_ n0
    generalize n - 1 = d at *
    have hd10 : d < 1024 := by omega
    have i1 : (0 : Int) ≤ (d : Int) := by omega
    have i2 : (d : Int) < (n : Int) := by omega
    have t1 : IntKind.i64.wrap ((n : Int) - 1) = (d : Int) := by rw [hnd.out]; exact IntWalk.i64_in _ (by omega)
    have c0 := (hbel0.cell (p := ⟨b, off + d, none⟩) hbb).trans (hc d hlt)
    have hb0 : b < (w.alloc (.cells #[.int .i64 (N : Int), .slice (some ⟨b, off, none⟩) n c] 26)).heap.size := Nat.lt_of_lt_of_le hbb hbel0.size
    have e2 : (weigh x d == gv v d) = decide (slk v x d = 0) := by rw [Bool.eq_iff_iff]; simp only [beq_iff_eq, decide_eq_true_eq]; unfold slk; omega
    have hq : decide (slk v x d = 0) = decide (slk v x d = 0) := rfl
    generalize decide (slk v x d = 0) = res at *
    clear hc hq
    go_enter Try.func38, Try.ntmps38
    go_wp2
    go_region_held3 (fun w' => w'.cell? ⟨w.heap.size, 0, none⟩ = some (.int .i64 (N : Int)) ∧ w'.cell? ⟨w.heap.size, 1, none⟩ = some (.slice (some ⟨b, off, none⟩) n c) ∧ w'.cell? ⟨b, off + d, none⟩ = some (.int .i64 (gv v d)))
      (first
        | go_keep
        | exact ⟨(hb1.cell (p := ⟨w.heap.size, 0, none⟩) hz0).trans r0, (hb1.cell (p := ⟨w.heap.size, 1, none⟩) hz0).trans r1, (hb1.cell (p := ⟨b, off + d, none⟩) hb0).trans c0⟩)
      (first
        | (go_at_call 155; refine (specIsBelow_any N _ n c v A' m c' x _ (hv.below hbel0 (Nat.le_refl _)).drew (hx.below hbel0 (Nat.le_refl _)).drew).mono ?_; rintro e w1 ⟨rfl, hb1⟩; rw [hb]; have hFa := hF0.drew.step hb1)
        | (go_at_call 158; refine (l2Full_any N _ h40).mono ?_; rintro e w2 ⟨rfl, rfl⟩; rw [hfull.out])
        | (go_at_call 156; refine (l3Weigh_any A' m c' x d _ (hx.below hFa.1 (Nat.le_refl _)) bvec hd10).mono ?_; rintro e w3 ⟨rfl, rfl⟩))
    go_wp2
    go_ret
    exact ⟨rfl, hFa.1⟩
def tightL (E : Int) (v x : List Int) : List Int := if belowB E v x then selI (fun s => decide (slk v x s = 0)) v.length else []
set_option maxHeartbeats 400000 in
theorem tightSets_any (E : Int) (A : Option Addr) (n c : Nat) (v : List Int) (A' : Option Addr) (m c' : Nat) (x : List Int) (w : World) (hv : Ints w A n v) (hx : Ints w A' m x) :
    Calls Try.prog 35 #[.agg #[.int .i64 E, .slice A n c], .slice A' m c'] w fun e w' => ∃ B r cr, e = .returned (.tuple #[.slice B r cr, .bool (belowB E v x)]) ∧ Own w' w.heap.size B r cr (tightL E v x) ∧ r ≤ 1048576 ∧ Below w.heap.size w w' := by
  cases hb : belowB E v x
  · have e0 : tightL E v x = [] := by simp [tightL, hb]
    rw [e0]; clear e0
    go_enter Try.func35, Try.ntmps35
    go_wp2_with fail
    refine (isBelow_any _ _ _ _ v _ _ _ x _ (hv.alloc _) (hx.alloc _)).mono ?_
    rintro e w1 ⟨rfl, hb1⟩
    rw [hb]
    go_wp2
    go_ret2
    exact ⟨none, 0, 0, rfl, own_nil _ _, by omega, ((FB.start w E A n c).step hb1).1⟩
  · obtain ⟨bfn, bg0, blen, bvec, ball⟩ := below_ok hb
    have Hf := hide bfn
    have Hb := hide hb
    have hvl := hv.len
    have e0 : tightL E v x = selI (fun s => decide (slk v x s = 0)) n := by simp [tightL, hb, hvl]
    rw [e0]; clear e0 hvl
    clear bfn bg0 blen ball hb
    have hle := hv.le
    obtain ⟨N, rfl, fo⟩ := FnOk.of Hf.out hv
    have n32 := fo.n32
    go_enter Try.func35, Try.ntmps35
    go_wp2_with fail
    refine (isBelow_any _ _ _ _ v _ _ _ x _ (hv.alloc _) (hx.alloc _)).mono ?_
    rintro e w1 ⟨rfl, hb1⟩
    have hFB := (FB.start w N A n c).step hb1
    obtain ⟨hbel, hz, r0, r1⟩ := hFB.parts
    rw [Hb.out]
    go_wp2
    clear r0 r1
    go_loopw [6, 15] (fun t i wr => ∃ (k r : Nat) (B : Option Addr) (cr : Nat), k ≤ n ∧ i = .int .i64 k ∧ t = .slice B r cr ∧ Own wr (w.heap.size + 1) B r cr (selI (fun s => decide (slk v x s = 0)) k) ∧ FB w wr N A n c) (fun _ i _ => n - (intOf i).toNat)
    case atStart => exact ⟨0, 0, none, 0, Nat.zero_le _, rfl, rfl, own_nil _ _, hFB⟩
    case round =>
      obtain ⟨k, r, B, cr, hk, rfl, rfl, hown, hFBr⟩ := hrel
      obtain ⟨hbelr, hzr, r0, r1⟩ := hFBr.parts
      have hrl : r ≤ k := by have := hown.len; have := selI_le (fun s => decide (slk v x s = 0)) k; omega
      by_cases hlt : k < n
      · have hS := slack_any N A n c v A' m c' x k wr (hv.below hbelr (Nat.le_refl _)) Hf.out (hx.below hbelr (Nat.le_refl _)) bvec hlt
        have HS := hide hS; clear hS
        cases hq : (slk v x k == 0)
        · have hs := hide (selI_no (p := fun s => decide (slk v x s = 0)) (k := k) (by simpa using hq))
          go_wp2_with fail
          refine HS.out.mono ?_
          rintro e w3 ⟨rfl, hb3⟩
          go_wp2
          go_roundw
          case rel => exact ⟨k + 1, r, B, cr, by omega, by go_num, rfl, by rw [hs.out]; exact hown.below hb3 (Nat.le_refl _), hFBr.step hb3⟩
          case measure => simp [intOf]; omega
        · have hs := hide (selI_yes (p := fun s => decide (slk v x s = 0)) (k := k) (by simpa using hq))
          go_wp2_with fail
          refine HS.out.mono ?_
          rintro e w3 ⟨rfl, hb3⟩
          have hFB3 := hFBr.step hb3
          have hown3 := hown.below hb3 (Nat.le_refl _)
          have hsz := hFB3.2.1
          go_wp2_with (refine wpl_app (by rfl) _ _ (by rfl) (w.heap.size + 1) B r cr w3.heap.size (selI (fun s => decide (slk v x s = 0)) k) (k : Int) (by rfl) (by rfl) (hown3.alloc _) (cell_new w3 _) (by omega) (by simp; omega) ?_; intro g cap w4 hown4 hgrow hat hlt4)
          go_roundw
          case rel => exact ⟨k + 1, r + 1, _, cap, by omega, by go_num, rfl, by rw [hs.out]; exact hown4, app_FB hFB3 hown3 hgrow (Below.refl _ _) rfl⟩
          case measure => simp [intOf]; omega
      · obtain rfl : k = n := by omega
        go_wp2
        go_ret2
        exact ⟨B, r, cr, rfl, hown.less (Nat.le_succ _), by omega, hbelr⟩
set_option maxHeartbeats 1000000 in
theorem specTightSets_any (E : Int) (A : Option Addr) (n c : Nat) (v : List Int) (A' : Option Addr) (m c' : Nat) (x : List Int) (w : World) (hv : Ints w A n v) (hx : Ints w A' m x) :
    Calls Try.prog 36 #[.agg #[.int .i64 E, .slice A n c], .slice A' m c'] w fun e w' => ∃ B r cr, e = .returned (.tuple #[.slice B r cr, .bool (belowB E v x)]) ∧ Own w' w.heap.size B r cr (tightL E v x) ∧ r ≤ 1048576 ∧ Below w.heap.size w w' := by
  have hF0 : FB w ((w.alloc (.cells #[.int .i64 E, .slice A n c] 26)).alloc (.cells #[] 3)) E A n c := (FB.start w E A n c).step ((Below.refl _ _).alloc (Nat.le_refl _) _)
  have hO0 : Own ((w.alloc (.cells #[.int .i64 E, .slice A n c] 26)).alloc (.cells #[] 3)) (w.heap.size + 1) (some ⟨w.heap.size + 1, 0, none⟩) 0 0 [] := by
    simpa using own_none (w.alloc (.cells #[.int .i64 E, .slice A n c] 26))
  cases hb : belowB E v x
  · have e0 : tightL E v x = [] := by simp [tightL, hb]
    rw [e0]; clear e0
    go_enter Try.func36, Try.ntmps36
    go_wp2
    go_loopw [6, 7] (fun t i wr => t = .slice (some ⟨w.heap.size + 1, 0, none⟩) 0 0 ∧ i = .int .i64 0 ∧ Own wr (w.heap.size + 1) (some ⟨w.heap.size + 1, 0, none⟩) 0 0 [] ∧ FB w wr E A n c) (fun _ _ _ => 0)
    case atStart => exact ⟨rfl, rfl, hO0, hF0⟩
    case round =>
      obtain ⟨rfl, rfl, hown, hFBr⟩ := hrel
      obtain ⟨hbelr, hzr, r0, r1⟩ := hFBr.parts
      go_wp2_with fail
      refine (specIsBelow_any _ _ _ _ v _ _ _ x _ (hv.below hbelr (Nat.le_refl _)) (hx.below hbelr (Nat.le_refl _))).mono ?_
      rintro e w1 ⟨rfl, hb1⟩
      rw [hb]
      have hFB1 := hFBr.step hb1
      clear r0 r1
      obtain ⟨hbel1, hz1, r0, r1⟩ := hFB1.parts
      go_wp2_with fail
      refine (specIsBelow_any _ _ _ _ v _ _ _ x _ (hv.below hbel1 (Nat.le_refl _)) (hx.below hbel1 (Nat.le_refl _))).mono ?_
      rintro e w2 ⟨rfl, hb2⟩
      rw [hb]
      go_wp2
      go_ret2
      exact ⟨_, 0, 0, rfl, ((hown.below hb1 (Nat.le_refl _)).below hb2 (Nat.le_refl _)).less (Nat.le_succ _), by omega, (hFB1.step hb2).1⟩
  · obtain ⟨bfn, bg0, blen, bvec, ball⟩ := below_ok hb
    have Hf := hide bfn
    have Hb := hide hb
    have hvl := hv.len
    have e0 : tightL E v x = selI (fun s => decide (slk v x s = 0)) n := by simp [tightL, hb, hvl]
    rw [e0]; clear e0 hvl
    clear bfn bg0 blen ball hb
    have hle := hv.le
    obtain ⟨N, rfl, fo⟩ := FnOk.of Hf.out hv
    have n32 := fo.n32
    obtain ⟨b, off, rfl, hbb, hc⟩ := hv.all_ fo.n0
    have HC := hide hc; clear hc
    go_enter Try.func36, Try.ntmps36
    go_wp2
    go_loopw [6, 7] (fun t i wr => ∃ (k r : Nat) (B : Option Addr) (cr : Nat), k ≤ n ∧ i = .int .i64 k ∧ t = .slice B r cr ∧ Own wr (w.heap.size + 1) B r cr (selI (fun s => decide (slk v x s = 0)) k) ∧ FB w wr N (some ⟨b, off, none⟩) n c) (fun _ i _ => n - (intOf i).toNat)
    case atStart => exact ⟨0, 0, _, 0, Nat.zero_le _, rfl, rfl, hO0, hF0⟩
    case round =>
      obtain ⟨k, r, B, cr, hk, rfl, rfl, hown, hFBr⟩ := hrel
      obtain ⟨hbelr, hzr, r0, r1⟩ := hFBr.parts
      have hrl : r ≤ k := by have := hown.len; have := selI_le (fun s => decide (slk v x s = 0)) k; omega
      go_wp2_with fail
      refine (specIsBelow_any _ _ _ _ v _ _ _ x _ (hv.below hbelr (Nat.le_refl _)) (hx.below hbelr (Nat.le_refl _))).mono ?_
      rintro e w1 ⟨rfl, hb1⟩
      rw [Hb.out]
      have hFB1 := hFBr.step hb1
      have hown1 := hown.below hb1 (Nat.le_refl _)
      clear r0 r1
      obtain ⟨hbel1, hz1, r0, r1⟩ := hFB1.parts
      by_cases hlt : k < n
      · have c1 : w1.cell? ⟨b, off + k, none⟩ = some (.int .i64 (gv v k)) := (hbel1.cell (p := ⟨b, off + k, none⟩) hbb).trans (HC.out _ hlt)
        have i1 : (0 : Int) ≤ (k : Int) := by omega
        have i2 : (k : Int) < (n : Int) := by omega
        have hk10 : k < 1024 := by omega
        have hxr := hide (hx.below hbel1 (Nat.le_refl _))
        have hb1' := hide hbel1; clear hbel1
        have hsz := hFB1.2.1
        cases hq : (weigh x k == gv v k)
        · have hne : ¬ (weigh x k = gv v k) := by simpa using hq
          have hs0 : decide (slk v x k = 0) = false := by rw [decide_eq_false_iff_not]; unfold slk; omega
          have hs := hide (selI_no (p := fun s => decide (slk v x s = 0)) (k := k) hs0)
          clear hs0 hne
          go_wp2
          go_quiet ((go_at_call 156; exact quiet_left (l3Weigh_any _ _ _ x k _ hxr.out bvec hk10)))
          go_wp2
          go_roundw
          case rel => exact ⟨k + 1, r, B, cr, by omega, by go_num, rfl, by rw [hs.out]; exact hown1, hFB1.drewN _⟩
          case measure => simp [intOf]; omega
        · have hne : weigh x k = gv v k := by simpa using hq
          have hs0 : decide (slk v x k = 0) = true := by rw [decide_eq_true_eq]; unfold slk; omega
          have hs := hide (selI_yes (p := fun s => decide (slk v x s = 0)) (k := k) hs0)
          clear hs0 hne
          go_wp2
          go_quiet ((go_at_call 156; exact quiet_left (l3Weigh_any _ _ _ x k _ hxr.out bvec hk10)))
          have hown2 : Own (w1.drewN nq) _ _ _ _ _ := hown1
          have hFB2 := hFB1.drewN nq
          generalize w1.drewN nq = w2 at *
          have hsz2 := hFB2.2.1
          go_wp2_with (refine wpl_app (by rfl) _ _ (by rfl) (w.heap.size + 1) B r cr w2.heap.size (selI (fun s => decide (slk v x s = 0)) k) (k : Int) (by rfl) (by rfl) (hown2.alloc _) (cell_new w2 _) (by omega) (by simp; omega) ?_; intro g cap w4 hown4 hgrow hat hlt4)
          go_roundw
          case rel => exact ⟨k + 1, r + 1, _, cap, by omega, by go_num, rfl, by rw [hs.out]; exact hown4, app_FB hFB2 hown2 hgrow (Below.refl _ _) rfl⟩
          case measure => simp [intOf]; omega
      · obtain rfl : k = n := by omega
        go_wp2_with fail
        refine (specIsBelow_any _ _ _ _ v _ _ _ x _ (hv.below hbel1 (Nat.le_refl _)) (hx.below hbel1 (Nat.le_refl _))).mono ?_
        rintro e w2 ⟨rfl, hb2⟩
        rw [Hb.out]
        go_wp2
        go_ret2
        exact ⟨B, r, cr, rfl, (hown1.below hb2 (Nat.le_refl _)).less (Nat.le_succ _), by omega, (hFB1.step hb2).1⟩
end Go.Proofs.Ytokeejachclpeaa
namespace Go.Proofs.Ytokeejachclpeaa
open Go.RowKit

/-- The sum of the first k numbers. -/
def sumT (x : List Int) : Nat → Int
  | 0 => 0
  | k + 1 => sumT x k + gv x k
theorem sumT_bd {x : List Int} (h : ∀ j, j < x.length → -5000 ≤ gv x j ∧ gv x j ≤ 5000) : ∀ k, k ≤ x.length → -5000 * (k : Int) ≤ sumT x k ∧ sumT x k ≤ 5000 * (k : Int)
  | 0, _ => by simp [sumT]
  | k + 1, hk => by
    have ih := sumT_bd h k (by omega)
    have := h k (by omega)
    simp only [sumT]; omega
theorem wtN_full (x : List Int) (N : Nat) : ∀ k, k ≤ N → wtN x (2 ^ N - 1) k = sumT x k
  | 0, _ => rfl
  | k + 1, hk => by
    have ih := wtN_full x N k (by omega)
    have hh : hasB (2 ^ N - 1) k = true := by unfold hasB; rw [Nat.testBit_two_pow_sub_one]; simp; omega
    simp only [wtN, hh, ih, sumT, if_true]
def dualB (E : Int) (v x : List Int) : Bool := belowB E v x && (allIn x (-5000) 0 && decide (weigh x (v.length - 1) = minV v))
theorem allIn_nil (l h : Int) : allIn [] l h = true := rfl

set_option maxHeartbeats 400000 in
theorem isDualVector_any (E : Int) (A : Option Addr) (n c : Nat) (v : List Int) (A' : Option Addr) (m c' : Nat) (x : List Int) (w : World) (hv : Ints w A n v) (hx : Ints w A' m x) :
    Calls Try.prog 30 #[.agg #[.int .i64 E, .slice A n c], .slice A' m c'] w fun e w' => e = .returned (.bool (dualB E v x)) ∧ Below w.heap.size w w' := by
  have hF0 := FB.start w E A n c
  obtain ⟨hbel0, hz0, r0, r1⟩ := hF0.parts
  have hcall := isBelow_any E A n c v A' m c' x _ (hv.below hbel0 (Nat.le_refl _)) (hx.below hbel0 (Nat.le_refl _))
  cases hb : belowB E v x
  · have e0 : dualB E v x = false := by simp [dualB, hb]
    rw [e0]; clear e0
    rw [hb] at hcall
    have HC := hide hcall; clear hcall
    go_enter Try.func30, Try.ntmps30
    go_wp2_with fail
    refine HC.out.mono ?_
    rintro e w1 ⟨rfl, hb1⟩
    go_wp2
    go_ret
    exact ⟨rfl, (hF0.step hb1).1⟩
  rw [hb] at hcall
  have HC := hide hcall; clear hcall
  cases ha : allIn x (-5000) 0
  · have e0 : dualB E v x = false := by simp [dualB, ha]
    rw [e0]; clear e0
    go_enter Try.func30, Try.ntmps30
    go_wp2_with fail
    refine HC.out.mono ?_
    rintro e w1 ⟨rfl, hb1⟩
    have hF1 := hF0.step hb1
    go_wp2_with fail
    refine (areWithin_any _ _ _ x _ _ _ (hx.below hF1.1 (Nat.le_refl _))).mono ?_
    rintro e w2 ⟨rfl, rfl⟩
    rw [ha]
    go_wp2
    go_ret
    exact ⟨rfl, hF1.1⟩
  · obtain ⟨bfn, bg0, blen, bvec, ball⟩ := below_ok hb
    have hvl := hide hv.len
    have e0 : dualB E v x = decide (weigh x (n - 1) = minV v) := by simp [dualB, hb, ha, hvl.out]
    rw [e0]; clear e0
    have Hf := hide bfn
    have Ha := hide ha
    clear bg0 blen ball hb ha
    have hmin := hide (show minR E v = minV v by simp [minR, bfn])
    clear bfn
    obtain ⟨N, rfl, fo⟩ := FnOk.of Hf.out hv
    have hN := fo.hN
    have n0 := fo.n0
    have n32 := fo.n32
    have h40 : N ≤ 40 := by omega
    have hfull := hide (p2_full fo.hn)
    have hlt : n - 1 < 1024 := by omega
    generalize n - 1 = d at *
    clear r0 r1
    go_enter Try.func30, Try.ntmps30
    go_wp2_with fail
    refine HC.out.mono ?_
    rintro e w1 ⟨rfl, hb1⟩
    have hF1 := hF0.step hb1
    obtain ⟨hbel1, hz1, r0, r1⟩ := hF1.parts
    go_wp2_with fail
    refine (areWithin_any _ _ _ x _ _ _ (hx.below hbel1 (Nat.le_refl _))).mono ?_
    rintro e w2 ⟨rfl, rfl⟩
    rw [Ha.out]
    go_wp2_with fail
    refine (minimumOf_any _ _ _ _ v _ (hv.below hbel1 (Nat.le_refl _))).mono ?_
    rintro e w3 ⟨rfl, hb3⟩
    rw [hmin.out, Hf.out]
    have hF3 := hF1.step hb3
    clear r0 r1
    obtain ⟨hbel3, hz3, r0, r1⟩ := hF3.parts
    go_wp2_with fail
    refine (allOf_any N A n c _ h40).mono ?_
    rintro e w4 ⟨rfl, hb4⟩
    rw [hfull.out]
    have hF4 := hF3.step hb4
    go_wp2_with fail
    refine (weightOf_any _ _ _ x d _ (hx.below hF4.1 (Nat.le_refl _)) bvec hlt).mono ?_
    rintro e w5 ⟨rfl, rfl⟩
    go_wp2
    go_ret
    exact ⟨ret_bool (by rw [Bool.eq_iff_iff]; simp), hF4.1⟩
set_option maxHeartbeats 400000 in
theorem specIsDualVector_any (E : Int) (A : Option Addr) (n c : Nat) (v : List Int) (A' : Option Addr) (m c' : Nat) (x : List Int) (w : World) (hv : Ints w A n v) (hx : Ints w A' m x) :
    Calls Try.prog 58 #[.agg #[.int .i64 E, .slice A n c], .slice A' m c'] w fun e w' => e = .returned (.bool (dualB E v x)) ∧ Below w.heap.size w w' := by
  have hF0 := FB.start w E A n c
  obtain ⟨hbel0, hz0, r0, r1⟩ := hF0.parts
  have hcall := specIsBelow_any E A n c v A' m c' x _ (hv.below hbel0 (Nat.le_refl _)) (hx.below hbel0 (Nat.le_refl _))
  cases hb : belowB E v x
  · have e0 : dualB E v x = false := by simp [dualB, hb]
    rw [e0]; clear e0
    rw [hb] at hcall
    have HC := hide hcall; clear hcall
    go_enter Try.func58, Try.ntmps58
    go_wp2_with fail
    refine HC.out.mono ?_
    rintro e w1 ⟨rfl, hb1⟩
    go_wp2
    go_ret
    exact ⟨rfl, (hF0.step hb1).1⟩
  rw [hb] at hcall
  have HC := hide hcall; clear hcall
  obtain ⟨bfn, bg0, blen, bvec, ball⟩ := below_ok hb
  have hvl := hide hv.len
  have hxl := hide hx.len
  have Hb := hide hb
  have Hf := hide bfn
  have hle := hx.le
  have n0' : (x.length : Int) = E := blen
  clear bg0 ball hb bfn blen
  obtain ⟨N, rfl, fo⟩ := FnOk.of Hf.out hv
  have hN := fo.hN
  have hmN : m = N := by have := hxl.out; omega
  have hsum := hide (show weigh x (n - 1) = sumT x m by rw [weigh, fo.hn, hxl.out, hmN]; exact wtN_full x N N (Nat.le_refl _))
  have HV := hide (fun k (hk : k < m) => vecOk_gv bvec (k := k) (by rw [hxl.out]; exact hk))
  have HB := hide (fun k (hk : k ≤ m) => sumT_bd (x := x) (fun j hj => HV.out j (by rw [← hxl.out]; exact hj)) k (by rw [hxl.out]; exact hk))
  have n0 := fo.n0
  have hm5 : m ≤ 5 := by omega
  clear bvec n0' hmN
  clear r0 r1
  go_enter Try.func58, Try.ntmps58
  go_wp2_with fail
  refine HC.out.mono ?_
  rintro e w1 ⟨rfl, hb1⟩
  have hF1 := hF0.step hb1
  obtain ⟨hbel1, hz1, r0, r1⟩ := hF1.parts
  have hx1 := hx.below hbel1 (Nat.le_refl _)
  have hv1 := hv.below hbel1 (Nat.le_refl _)
  go_wp2
  go_loop [5, 6] (fun t i => ∃ k : Nat, k ≤ m ∧ i = .int .i64 k ∧ t = .int .i64 (sumT x k) ∧ allIn (x.take k) (-5000) 0 = true) (fun _ i => m - (intOf i).toNat)
  case atStart => exact ⟨0, Nat.zero_le _, rfl, rfl, rfl⟩
  case round =>
    obtain ⟨k, hk, rfl, rfl, hall⟩ := hrel
    have Hall := hide hall; clear hall
    obtain ⟨s1', s2'⟩ := HB.out k hk
    have s1 : -25000 ≤ sumT x k := by omega
    have s2 : sumT x k ≤ 25000 := by omega
    clear s1' s2'
    by_cases hlt : k < m
    · obtain ⟨b, off, rfl, hbb, hc⟩ := hx1.at_ hlt
      obtain ⟨q1, q2⟩ := HV.out k hlt
      by_cases hp : gv x k > 0
      · have hF := hide (show dualB N v x = false by
          have : allIn x (-5000) 0 = false := allIn_false (k := k) (by rw [hxl.out]; exact hlt) (by simp [inR]; omega)
          simp [dualB, this])
        go_wp2
        go_ret
        exact ⟨ret_bool hF.out.symm, hbel1⟩
      · have hs1 := hide (show sumT x (k + 1) = sumT x k + gv x k from rfl)
        have hs2 := hide (show allIn (x.take (k + 1)) (-5000) 0 = true by rw [allIn_snoc (by rw [hxl.out]; exact hlt), Hall.out]; simp [inR]; omega)
        go_wp2
        go_round
        case rel => exact ⟨k + 1, by omega, by go_num, by rw [hs1.out], hs2.out⟩
        case measure => simp [intOf]; omega
    · obtain rfl : k = m := by omega
      have ha : allIn x (-5000) 0 = true := by have h := Hall.out; rwa [List.take_of_length_le (by rw [hxl.out]; omega)] at h
      have e0 : dualB N v x = decide (sumT x k = minV v) := by simp [dualB, Hb.out, ha, hvl.out, hsum.out]
      have E0 := hide e0; clear e0 ha
      go_wp2_with fail
      refine (l10Least_any _ _ _ _ v _ hv1 n0).mono ?_
      rintro e w3 ⟨rfl, hb3⟩
      go_wp2
      go_ret
      exact ⟨ret_bool (by rw [E0.out, Bool.eq_iff_iff]; simp), (hF1.step hb3).1⟩
end Go.Proofs.Ytokeejachclpeaa
