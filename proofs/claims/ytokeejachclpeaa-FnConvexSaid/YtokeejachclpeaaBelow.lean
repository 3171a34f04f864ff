/-
  Walks: vectors below a function; bases.
-/
import Derived.Test.YtokeejachclpeaaWeigh
namespace Go.Proofs.Ytokeejachclpeaa
open Go.RowKit

/-- 0 for the empty set. -/
def grdB (E : Int) (v : List Int) : Bool := isFn E v && decide (gv v 0 = 0)
/-- One number from -5000 to 5000 for each element. -/
def longOk (E : Int) (x : List Int) : Bool := decide ((x.length : Int) = E) && allIn x (-5000) 5000
/-- What the weight of a set lacks to its value. -/
def slk (v x : List Int) (s : Nat) : Int := gv v s - weigh x s
def belowB (E : Int) (v x : List Int) : Bool := grdB E v && (longOk E x && decide (∀ s, s < v.length → 0 ≤ slk v x s))
def baseB (E : Int) (v x : List Int) : Bool := belowB E v x && decide (slk v x (v.length - 1) = 0)
theorem grd_fn {E : Int} {v : List Int} (h : grdB E v = true) : isFn E v = true := by simp [grdB] at h; exact h.1
theorem long_vec {E : Int} {v x : List Int} (hf : isFn E v = true) (h : longOk E x = true) : vecOk 5000 x = true := by
  obtain ⟨N, rfl, hN, _, _⟩ := isFn_true hf
  simp [longOk] at h
  simp [vecOk, h.2]; omega
structure BelowOk (E : Int) (v x : List Int) : Prop where
  fn : isFn E v = true
  g0 : gv v 0 = 0
  len : (x.length : Int) = E
  vec : vecOk 5000 x = true
  all : ∀ s, s < v.length → 0 ≤ slk v x s
theorem below_ok {E : Int} {v x : List Int} (h : belowB E v x = true) : BelowOk E v x := by
  simp [belowB, grdB] at h
  obtain ⟨⟨h1, h2⟩, h3, h4⟩ := h
  refine ⟨h1, h2, ?_, long_vec h1 h3, h4⟩
  simp [longOk] at h3; exact h3.1
theorem slk_bd {N n : Nat} {v x : List Int} (fo : FnOk N n v) (hx : vecOk 5000 x = true) {s : Nat} (hs : s < n) : -26000 ≤ slk v x s ∧ slk v x s ≤ 26000 := by
  have := fo.bd hs; have := weigh_bd hx s; unfold slk; omega

theorem isGrounded_any (E : Int) (A : Option Addr) (n c : Nat) (v : List Int) (w : World) (hv : Ints w A n v) :
    Calls Try.prog 139 #[.agg #[.int .i64 E, .slice A n c]] w fun e w' => e = .returned (.bool (grdB E v)) ∧ Below w.heap.size w w' := by
  unfold grdB
  cases hf : isFn E v
  · go_enter Try.func139, Try.ntmps139
    go_wp2_with fail
    refine (isFunction_any _ _ _ _ v _ (hv.alloc _)).mono ?_
    rintro e w1 ⟨rfl, hb1⟩
    go_wp2
    go_ret
    exact ⟨rfl, ((Below.refl _ _).alloc (Nat.le_refl _) _).trans (hb1.mono (by simp))⟩
  · have Hf := hide hf
    obtain ⟨N, rfl, fo⟩ := FnOk.of hf hv
    obtain ⟨b, off, rfl, hb, hc⟩ := hv.all_ fo.n0
    have n0 := fo.n0
    go_enter Try.func139, Try.ntmps139
    go_wp2_with fail
    refine (isFunction_any _ _ _ _ v _ (hv.alloc _)).mono ?_
    rintro e w1 ⟨rfl, hb1⟩
    obtain ⟨hbel, hz, r0, r1⟩ := ((FB.start w N (some ⟨b, off, none⟩) n c).step hb1).parts
    have c0 : w1.cell? ⟨b, off, none⟩ = some (.int .i64 (gv v 0)) := (hbel.cell (p := ⟨b, off, none⟩) hb).trans (hc 0 n0)
    rw [Hf.out]
    go_wp2
    go_ret
    exact ⟨ret_bool (by rw [Bool.eq_iff_iff]; simp), hbel⟩
theorem specIsGrounded_any (E : Int) (A : Option Addr) (n c : Nat) (v : List Int) (w : World) (hv : Ints w A n v) :
    Calls Try.prog 24 #[.agg #[.int .i64 E, .slice A n c]] w fun e w' => e = .returned (.bool (grdB E v)) ∧ Below w.heap.size w w' := by
  unfold grdB
  cases hf : isFn E v
  · go_enter Try.func24, Try.ntmps24
    go_wp2_with fail
    refine (specIsFunction_any _ _ _ _ v _ (hv.alloc _)).mono ?_
    rintro e w1 ⟨rfl, hb1⟩
    go_wp2
    go_ret
    exact ⟨rfl, ((Below.refl _ _).alloc (Nat.le_refl _) _).trans (hb1.mono (by simp))⟩
  · have Hf := hide hf
    obtain ⟨N, rfl, fo⟩ := FnOk.of hf hv
    obtain ⟨b, off, rfl, hb, hc⟩ := hv.all_ fo.n0
    have n0 := fo.n0
    go_enter Try.func24, Try.ntmps24
    go_wp2_with fail
    refine (specIsFunction_any _ _ _ _ v _ (hv.alloc _)).mono ?_
    rintro e w1 ⟨rfl, hb1⟩
    obtain ⟨hbel, hz, r0, r1⟩ := ((FB.start w N (some ⟨b, off, none⟩) n c).step hb1).parts
    have c0 : w1.cell? ⟨b, off, none⟩ = some (.int .i64 (gv v 0)) := (hbel.cell (p := ⟨b, off, none⟩) hb).trans (hc 0 n0)
    rw [Hf.out]
    go_wp2
    go_ret
    exact ⟨ret_bool (by rw [Bool.eq_iff_iff]; simp), hbel⟩
theorem isLongVector_any (E : Int) (A A' : Option Addr) (n c m c' : Nat) (x : List Int) (w : World) (hx : Ints w A' m x) :
    Calls Try.prog 157 #[.agg #[.int .i64 E, .slice A n c], .slice A' m c'] w fun e w' => e = .returned (.bool (longOk E x)) ∧ Below w.heap.size w w' := by
  have hlen := hide hx.len
  unfold longOk
  rw [hlen.out]
  by_cases h : (m : Int) = E
  · subst h
    go_enter Try.func157, Try.ntmps157
    go_wp2_with fail
    refine (areWithin_any _ _ _ x _ _ _ (hx.alloc _)).mono ?_
    rintro e w' ⟨rfl, rfl⟩
    go_wp2
    go_ret
    exact ⟨ret_bool (by simp), (Below.refl _ _).alloc (Nat.le_refl _) _⟩
  · have e1 : ((m : Int) == E) = false := by simp [h]
    have e2 : decide ((m : Int) = E) = false := by simp [h]
    rw [e2]; clear e2
    go_enter Try.func157, Try.ntmps157
    go_wp2
    go_ret
    exact ⟨rfl, (Below.refl _ _).alloc (Nat.le_refl _) _⟩
theorem slack_any (E : Int) (A : Option Addr) (n c : Nat) (v : List Int) (A' : Option Addr) (m c' : Nat) (x : List Int) (s : Nat) (w : World) (hv : Ints w A n v) (hf : isFn E v = true) (hx : Ints w A' m x) (hxo : vecOk 5000 x = true) (hs : s < n) :
    Calls Try.prog 148 #[.agg #[.int .i64 E, .slice A n c], .slice A' m c', .int .i64 s] w fun e w' => e = .returned (.int .i64 (slk v x s)) ∧ Below w.heap.size w w' := by
  obtain ⟨N, rfl, fo⟩ := FnOk.of hf hv
  obtain ⟨b, off, rfl, hb, hc⟩ := hv.all_ fo.n0
  have hN := fo.hN
  have n32 := fo.n32
  have n0 := fo.n0
  have j1 : w.heap.size ≠ b := by omega
  clear hf
  have hs10 : s < 1024 := by omega
  have x0 := hc _ hs
  have g0 := fo.bd hs
  have g1 := weigh_bd hxo s
  have i1 : (0 : Int) ≤ (s : Int) := by omega
  have i2 : (s : Int) < (n : Int) := by omega
  have t1 : IntKind.i64.wrap (gv v s - weigh x s) = slk v x s := IntWalk.i64_in _ (by omega)
  clear hc
  go_enter Try.func148, Try.ntmps148
  go_wp2
  go_quiet ((go_at_call 152; exact quiet_left (weightOf_any _ _ _ x s _ (hx.alloc _) hxo hs10)))
  clear t1
  go_wp2
  go_ret
  exact ⟨rfl, below_drewN ((Below.refl _ _).alloc (Nat.le_refl _) _) _⟩
set_option maxHeartbeats 400000 in
theorem isBelow_any (E : Int) (A : Option Addr) (n c : Nat) (v : List Int) (A' : Option Addr) (m c' : Nat) (x : List Int) (w : World) (hv : Ints w A n v) (hx : Ints w A' m x) :
    Calls Try.prog 37 #[.agg #[.int .i64 E, .slice A n c], .slice A' m c'] w fun e w' => e = .returned (.bool (belowB E v x)) ∧ Below w.heap.size w w' := by
  cases hg : grdB E v
  · have e0 : belowB E v x = false := by simp [belowB, hg]
    rw [e0]; clear e0
    go_enter Try.func37, Try.ntmps37
    go_wp2_with fail
    refine (isGrounded_any _ _ _ _ v _ (hv.alloc _)).mono ?_
    rintro e w1 ⟨rfl, hb1⟩
    rw [hg]
    go_wp2
    go_ret
    exact ⟨rfl, ((Below.refl _ _).alloc (Nat.le_refl _) _).trans (hb1.mono (by simp))⟩
  cases hl : longOk E x
  · have e0 : belowB E v x = false := by simp [belowB, hl]
    rw [e0]; clear e0
    go_enter Try.func37, Try.ntmps37
    go_wp2_with fail
    refine (isGrounded_any _ _ _ _ v _ (hv.alloc _)).mono ?_
    rintro e w1 ⟨rfl, hb1⟩
    have hFB := (FB.start w E A n c).step hb1
    obtain ⟨hbel, hz, r0, r1⟩ := hFB.parts
    rw [hg]
    go_wp2_with fail
    refine (isLongVector_any _ _ _ _ _ _ _ x _ (hx.below hbel (Nat.le_refl _))).mono ?_
    rintro e w2 ⟨rfl, hb2⟩
    rw [hl]
    go_wp2
    go_ret
    exact ⟨rfl, (hFB.step hb2).1⟩
  · have Hf := hide (grd_fn hg)
    have HV := hide (long_vec Hf.out hl)
    have hvl := hide hv.len
    have e0 : belowB E v x = decide (∀ s, s < n → 0 ≤ slk v x s) := by simp [belowB, hg, hl, hvl.out]
    rw [e0]; clear e0
    have Hg := hide hg
    have Hl := hide hl
    clear hg hl
    go_enter Try.func37, Try.ntmps37
    go_wp2_with fail
    refine (isGrounded_any _ _ _ _ v _ (hv.alloc _)).mono ?_
    rintro e w1 ⟨rfl, hb1⟩
    have hFB := (FB.start w E A n c).step hb1
    obtain ⟨hbel, hz, r0, r1⟩ := hFB.parts
    rw [Hg.out]
    go_wp2_with fail
    refine (isLongVector_any _ _ _ _ _ _ _ x _ (hx.below hbel (Nat.le_refl _))).mono ?_
    rintro e w2 ⟨rfl, hb2⟩
    have hFB2 := hFB.step hb2
    clear r0 r1
    obtain ⟨-, -, r0, r1⟩ := hFB2.parts
    rw [Hl.out]
    have hle := hv.le
    go_wp2
    clear r0 r1
    go_loopw [18] (fun i wr => ∃ k : Nat, k ≤ n ∧ i = .int .i64 k ∧ (∀ s, s < k → 0 ≤ slk v x s) ∧ FB w wr E A n c) (fun i _ => n - (intOf i).toNat)
    case atStart => exact ⟨0, Nat.zero_le _, rfl, fun _ h => absurd h (by omega), hFB2⟩
    case round =>
      obtain ⟨k, hk, rfl, hall, hFBr⟩ := hrel
      obtain ⟨hbelr, hzr, r0, r1⟩ := hFBr.parts
      have HALL := hide hall; clear hall
      by_cases hlt : k < n
      · have hS := slack_any E A n c v A' m c' x k wr (hv.below hbelr (Nat.le_refl _)) Hf.out (hx.below hbelr (Nat.le_refl _)) HV.out hlt
        have HS := hide hS; clear hS
        go_wp2_with fail
        refine HS.out.mono ?_
        rintro e w3 ⟨rfl, hb3⟩
        by_cases hq : slk v x k < 0
        · have e1 : decide (slk v x k < 0) = true := by simp [hq]
          go_wp2
          go_ret
          exact ⟨ret_bool (by symm; rw [decide_eq_false_iff_not]; intro h; have := h k hlt; omega), (hFBr.step hb3).1⟩
        · have e1 : decide (slk v x k < 0) = false := by simp; omega
          go_wp2
          go_roundw
          case rel => exact ⟨k + 1, by omega, by go_num, fun s hs => by
            by_cases e : s = k
            · subst e; omega
            · exact HALL.out s (by omega), hFBr.step hb3⟩
          case measure => simp [intOf]; omega
      · obtain rfl : k = n := by omega
        go_wp2
        go_ret
        exact ⟨ret_bool (by symm; rw [decide_eq_true_eq]; exact HALL.out), hbelr⟩
set_option maxHeartbeats 400000 in
theorem specIsBelow_any (E : Int) (A : Option Addr) (n c : Nat) (v : List Int) (A' : Option Addr) (m c' : Nat) (x : List Int) (w : World) (hv : Ints w A n v) (hx : Ints w A' m x) :
    Calls Try.prog 155 #[.agg #[.int .i64 E, .slice A n c], .slice A' m c'] w fun e w' => e = .returned (.bool (belowB E v x)) ∧ Below w.heap.size w w' := by
  have hxl := hide hx.len
  cases hg : grdB E v
  · have e0 : belowB E v x = false := by simp [belowB, hg]
    rw [e0]; clear e0
    go_enter Try.func155, Try.ntmps155
    go_wp2_with fail
    refine (specIsGrounded_any _ _ _ _ v _ (hv.alloc _)).mono ?_
    rintro e w1 ⟨rfl, hb1⟩
    rw [hg]
    go_wp2
    go_ret
    exact ⟨rfl, ((Below.refl _ _).alloc (Nat.le_refl _) _).trans (hb1.mono (by simp))⟩
  by_cases hm : (m : Int) = E
  · subst hm
    cases hl : vecOk 5000 x
    · have e0 : belowB m v x = false := by
        have : longOk m x = false := by
          cases h : longOk m x
          · rfl
          · rw [long_vec (grd_fn hg) h] at hl; cases hl
        simp [belowB, this]
      rw [e0]; clear e0
      go_enter Try.func155, Try.ntmps155
      go_wp2_with fail
      refine (specIsGrounded_any _ _ _ _ v _ (hv.alloc _)).mono ?_
      rintro e w1 ⟨rfl, hb1⟩
      have hFB := (FB.start w m A n c).step hb1
      obtain ⟨hbel, hz, r0, r1⟩ := hFB.parts
      rw [hg]
      go_wp2_with fail
      refine (l8Vector_any _ _ _ x _ (hx.below hbel (Nat.le_refl _))).mono ?_
      rintro e w2 ⟨rfl, rfl⟩
      rw [hl]
      go_wp2
      go_ret
      exact ⟨rfl, hbel⟩
    · have Hf := hide (grd_fn hg)
      have HV := hide hl
      have hvl := hide hv.len
      have e0 : belowB m v x = decide (∀ s, s < n → 0 ≤ slk v x s) := by
        simp [belowB, hg, hvl.out, longOk, hxl.out, (vecOk_true hl).2]
      rw [e0]; clear e0
      have Hg := hide hg
      clear hg hl
      obtain ⟨N, hNm, fo⟩ := FnOk.of Hf.out hv
      obtain ⟨b, off, rfl, hb, hc⟩ := hv.all_ fo.n0
      have HC := hide hc; clear hc
      have n32 := fo.n32
      clear hNm
      go_enter Try.func155, Try.ntmps155
      go_wp2_with fail
      refine (specIsGrounded_any _ _ _ _ v _ (hv.alloc _)).mono ?_
      rintro e w1 ⟨rfl, hb1⟩
      have hFB := (FB.start w m (some ⟨b, off, none⟩) n c).step hb1
      obtain ⟨hbel, hz, r0, r1⟩ := hFB.parts
      rw [Hg.out]
      go_wp2_with fail
      refine (l8Vector_any _ _ _ x _ (hx.below hbel (Nat.le_refl _))).mono ?_
      rintro e w2 ⟨rfl, rfl⟩
      rw [HV.out]
      go_wp2
      clear r0 r1
      go_loopw [5] (fun i wr => ∃ k : Nat, k ≤ n ∧ i = .int .i64 k ∧ (∀ s, s < k → 0 ≤ slk v x s) ∧ FB w wr m (some ⟨b, off, none⟩) n c) (fun i _ => n - (intOf i).toNat)
      case atStart => exact ⟨0, Nat.zero_le _, rfl, fun _ h => absurd h (by omega), hFB⟩
      case round =>
        obtain ⟨k, hk, rfl, hall, hFBr⟩ := hrel
        obtain ⟨hbelr, hzr, r0, r1⟩ := hFBr.parts
        have HALL := hide hall; clear hall
        by_cases hlt : k < n
        · have c1 : wr.cell? ⟨b, off + k, none⟩ = some (.int .i64 (gv v k)) := (hbelr.cell (p := ⟨b, off + k, none⟩) hb).trans (HC.out _ hlt)
          have hk10 : k < 1024 := by omega
          have hxr := hide (hx.below hbelr (Nat.le_refl _))
          have i1 : (0 : Int) ≤ (k : Int) := by omega
          have i2 : (k : Int) < (n : Int) := by omega
          have HB := hide hbelr; clear hbelr
          by_cases hq : gv v k < weigh x k
          · have e1 : decide (gv v k < weigh x k) = true := by simp [hq]
            go_wp2
            go_quiet ((go_at_call 156; exact quiet_left (l3Weigh_any _ _ _ x k _ hxr.out HV.out hk10)))
            go_wp2
            go_ret
            exact ⟨ret_bool (by symm; rw [decide_eq_false_iff_not]; intro h; have := h k hlt; unfold slk at this; omega), below_drewN HB.out _⟩
          · have e1 : decide (gv v k < weigh x k) = false := by simp; omega
            have hq2 : 0 ≤ slk v x k := by unfold slk; omega
            go_wp2
            go_quiet ((go_at_call 156; exact quiet_left (l3Weigh_any _ _ _ x k _ hxr.out HV.out hk10)))
            go_wp2
            go_roundw
            case rel => exact ⟨k + 1, by omega, by go_num, fun s hs => by
              by_cases e : s = k
              · subst e; omega
              · exact HALL.out s (by omega), hFBr.drewN _⟩
            case measure => simp [intOf]; omega
        · obtain rfl : k = n := by omega
          go_wp2
          go_ret
          exact ⟨ret_bool (by symm; rw [decide_eq_true_eq]; exact HALL.out), hbelr⟩
  · have e0 : belowB E v x = false := by simp [belowB, longOk, hxl.out, hm]
    rw [e0]; clear e0
    have e1 : ((m : Int) != E) = true := by simp [hm]
    go_enter Try.func155, Try.ntmps155
    go_wp2_with fail
    refine (specIsGrounded_any _ _ _ _ v _ (hv.alloc _)).mono ?_
    rintro e w1 ⟨rfl, hb1⟩
    obtain ⟨hbel, hz, r0, r1⟩ := ((FB.start w E A n c).step hb1).parts
    rw [hg]
    go_wp2
    go_ret
    exact ⟨rfl, hbel⟩
end Go.Proofs.Ytokeejachclpeaa
