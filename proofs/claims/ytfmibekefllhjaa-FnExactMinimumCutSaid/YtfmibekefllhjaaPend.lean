/-
  Walks: minimum cuts, pendant pairs, legal orders.
-/
import Derived.Test.YtfmibekefllhjaaSymm
import Derived.Test.YtfmibekefllhjaaSubM
import Derived.Test.YtfmibekefllhjaaCurM
namespace Go.Proofs.Ytfmibekefllhjaa
open Go.RowKit

def cutB (E : Int) (v : List Int) : Bool := subB E v && (symB E v && decide (2 ≤ E))
set_option maxHeartbeats 400000 in
theorem canCut_any (E : Int) (A : Option Addr) (n c : Nat) (v : List Int) (w : World) (hv : Ints w A n v) :
    Calls Try.prog 53 #[.agg #[.int .i64 E, .slice A n c]] w fun e w' => e = .returned (.bool (cutB E v)) ∧ Below w.heap.size w w' := by
  have hF0 := FB.start w E A n c
  obtain ⟨hbel0, hz0, r0, r1⟩ := hF0.parts
  have h1 := isSubmodular_any E A n c v _ (hv.below hbel0 (Nat.le_refl _))
  have h2 := hide (fun W (h : Below w.heap.size w W) => isSymmetricFunction_any E A n c v W (hv.below h (Nat.le_refl _)))
  cases hg : subB E v
  · have e0 : cutB E v = false := by simp [cutB, hg]
    rw [e0]; clear e0
    rw [hg] at h1
    have H1 := hide h1; clear h1 hg
    go_enter Try.func53, Try.ntmps53
    go_wp2_with fail
    refine H1.out.mono ?_
    rintro e w1 ⟨rfl, hb1⟩
    go_wp2
    go_ret
    exact ⟨rfl, (hF0.step hb1).1⟩
  rw [hg] at h1
  have H1 := hide h1; clear h1
  cases hi : symB E v
  · have e0 : cutB E v = false := by simp [cutB, hi]
    rw [e0]; clear e0
    rw [hi] at h2
    clear hi hg
    go_enter Try.func53, Try.ntmps53
    go_wp2_with fail
    refine H1.out.mono ?_
    rintro e w1 ⟨rfl, hb1⟩
    have hF1 := hF0.step hb1
    clear r0 r1
    obtain ⟨hbel1, hz1, r0, r1⟩ := hF1.parts
    go_wp2_with fail
    refine (h2.out _ hbel1).mono ?_
    rintro e w2 ⟨rfl, hb2⟩
    go_wp2
    go_ret
    exact ⟨rfl, (hF1.step hb2).1⟩
  · have e0 : cutB E v = decide (2 ≤ E) := by simp [cutB, hi, hg]
    rw [e0]; clear e0
    rw [hi] at h2
    clear hi hg
    go_enter Try.func53, Try.ntmps53
    go_wp2_with fail
    refine H1.out.mono ?_
    rintro e w1 ⟨rfl, hb1⟩
    have hF1 := hF0.step hb1
    clear r0 r1
    obtain ⟨hbel1, hz1, r0, r1⟩ := hF1.parts
    go_wp2_with fail
    refine (h2.out _ hbel1).mono ?_
    rintro e w2 ⟨rfl, hb2⟩
    have hF2 := hF1.step hb2
    clear r0 r1
    obtain ⟨hbel2, hz2, r0, r1⟩ := hF2.parts
    go_wp2
    go_ret
    exact ⟨rfl, hbel2⟩
set_option maxHeartbeats 400000 in
theorem l14Fit_any (E : Int) (A : Option Addr) (n c : Nat) (v : List Int) (w : World) (hv : Ints w A n v) :
    Calls Try.prog 52 #[.agg #[.int .i64 E, .slice A n c]] w fun e w' => e = .returned (.bool (cutB E v)) ∧ Below w.heap.size w w' := by
  have hF0 := FB.start w E A n c
  obtain ⟨hbel0, hz0, r0, r1⟩ := hF0.parts
  have h1 := specIsSubmodular_any E A n c v _ (hv.below hbel0 (Nat.le_refl _))
  have h2 := hide (fun W (h : Below w.heap.size w W) => specIsSymmetricFunction_any E A n c v W (hv.below h (Nat.le_refl _)))
  by_cases hE : 2 ≤ E
  case neg =>
    have e0 : cutB E v = false := by simp [cutB, hE]
    have e1 : decide (E ≥ 2) = false := by simp; omega
    rw [e0]; clear e0 h1
    go_enter Try.func52, Try.ntmps52
    go_wp2
    go_ret
    exact ⟨rfl, hbel0⟩
  have e1 : decide (E ≥ 2) = true := by simp [hE]
  cases hg : subB E v
  · have e0 : cutB E v = false := by simp [cutB, hg]
    rw [e0]; clear e0
    rw [hg] at h1
    have H1 := hide h1; clear h1 hg
    go_enter Try.func52, Try.ntmps52
    go_wp2_with fail
    refine H1.out.mono ?_
    rintro e w1 ⟨rfl, hb1⟩
    go_wp2
    go_ret
    exact ⟨rfl, (hF0.step hb1).1⟩
  rw [hg] at h1
  have H1 := hide h1; clear h1
  have e0 : cutB E v = symB E v := by simp [cutB, hg, hE]
  rw [e0]; clear e0 hg
  go_enter Try.func52, Try.ntmps52
  go_wp2_with fail
  refine H1.out.mono ?_
  rintro e w1 ⟨rfl, hb1⟩
  have hF1 := hF0.step hb1
  clear r0 r1
  obtain ⟨hbel1, hz1, r0, r1⟩ := hF1.parts
  go_wp2_with fail
  refine (h2.out _ hbel1).mono ?_
  rintro e w2 ⟨rfl, hb2⟩
  go_wp2
  go_ret
  exact ⟨ret_bool (by simp), (hF1.step hb2).1⟩
theorem cut_fn {E : Int} {v : List Int} (h : cutB E v = true) : isFn E v = true ∧ 2 ≤ E := by
  simp only [cutB, subB, Bool.and_eq_true, decide_eq_true_eq] at h
  exact ⟨h.1.1, h.2.2⟩

/-! The minimum cut. -/
/-- The first of the sets from 1 on, below k, with the least value. -/
def cutN (v : List Int) : Nat → Nat
  | 0 => 1
  | k + 1 => if decide (2 ≤ k) && decide (gv v k < gv v (cutN v k)) then k else cutN v k
theorem cutN_two (v : List Int) : cutN v 2 = 1 := by simp [cutN]
theorem cutN_lt (v : List Int) : ∀ k, cutN v k < max 2 k
  | 0 => by simp [cutN]
  | k + 1 => by
    have ih := cutN_lt v k
    unfold cutN
    split <;> omega
theorem cutN_yes {v : List Int} {k : Nat} (h2 : 2 ≤ k) (h : gv v k < gv v (cutN v k)) : cutN v (k + 1) = k := by simp [cutN, h2, h]
theorem cutN_no {v : List Int} {k : Nat} (h : ¬ gv v k < gv v (cutN v k)) : cutN v (k + 1) = cutN v k := by simp [cutN, h]
def mcS (E : Int) (v : List Int) : Int := if cutB E v then (cutN v (v.length - 1) : Nat) else 0
def mcV (E : Int) (v : List Int) : Int := if cutB E v then gv v (cutN v (v.length - 1)) else 0
set_option maxHeartbeats 1000000 in
theorem minimumCut_any (E : Int) (A : Option Addr) (n c : Nat) (v : List Int) (w : World) (hv : Ints w A n v) :
    Calls Try.prog 20 #[.agg #[.int .i64 E, .slice A n c]] w fun e w' => e = .returned (.tuple #[.int .i64 (mcV E v), .int .i64 (mcS E v), .bool (cutB E v)]) ∧ Below w.heap.size w w' := by
  have hF0 := FB.start w E A n c
  obtain ⟨hbel0, hz0, r0, r1⟩ := hF0.parts
  have hcall := canCut_any E A n c v _ (hv.below hbel0 (Nat.le_refl _))
  cases hp : cutB E v
  · have e0 : mcV E v = 0 := by simp [mcV, hp]
    have e1 : mcS E v = 0 := by simp [mcS, hp]
    rw [e0, e1]; clear e0 e1
    rw [hp] at hcall
    have HC := hide hcall; clear hcall
    go_enter Try.func20, Try.ntmps20
    go_wp2_with fail
    refine HC.out.mono ?_
    rintro e w1 ⟨rfl, hb1⟩
    go_wp2
    go_ret3
    exact ⟨rfl, (hF0.step hb1).1⟩
  obtain ⟨hf, hE⟩ := cut_fn hp
  have hvl := hv.len
  rw [hp] at hcall
  have HC := hide hcall; clear hcall
  have e0 : mcV E v = gv v (cutN v (n - 1)) := by simp [mcV, hp, hvl]
  have e1 : mcS E v = ((cutN v (n - 1) : Nat) : Int) := by simp [mcS, hp, hvl]
  rw [e0, e1]; clear e0 e1 hp hvl
  obtain ⟨N, rfl, fo⟩ := FnOk.of hf hv
  clear hf
  obtain ⟨b, off, rfl, hbb, hc⟩ := hv.all_ fo.n0
  have HCC := hide hc; clear hc
  have hN := fo.hN
  have n32 := fo.n32
  have n4 : 4 ≤ n := by
    rw [fo.hn]
    exact (show 2 ^ 2 ≤ 2 ^ N from Nat.pow_le_pow_right (by omega) (by omega))
  have HA := hide (fun W => fn_full fo ▸ allOf_any N (some ⟨b, off, none⟩) n c W (by omega))
  have h40 : N ≤ 40 := by omega
  clear r0 r1
  go_enter Try.func20, Try.ntmps20
  go_wp2_with fail
  refine HC.out.mono ?_
  rintro e w1 ⟨rfl, hb1⟩
  have hFB := hF0.step hb1
  go_wp2
  go_loopw [5, 6] (fun x t wr => ∃ k : Nat, 2 ≤ k ∧ k ≤ n - 1 ∧ t = .int .i64 k ∧ x = .int .i64 ((cutN v k : Nat) : Int) ∧ FB w wr N (some ⟨b, off, none⟩) n c) (fun _ t _ => n - (intOf t).toNat)
  case atStart => exact ⟨2, Nat.le_refl _, by omega, rfl, by rw [cutN_two]; rfl, hFB⟩
  case round =>
    obtain ⟨k, hk2, hk, rfl, rfl, hFBr⟩ := hrel
    obtain ⟨hbelr, hzr, r0, r1⟩ := hFBr.parts
    have hcl := cutN_lt v k
    have hcn : cutN v k < n := by omega
    have i1 : (0 : Int) ≤ ((cutN v k : Nat) : Int) := by omega
    have i2 : ((cutN v k : Nat) : Int) < (n : Int) := by omega
    by_cases hlt : k < n - 1
    · have i3 : (0 : Int) ≤ (k : Int) := by omega
      have i4 : (k : Int) < (n : Int) := by omega
      have hy := hide (fun h => cutN_yes (v := v) hk2 h)
      have hno := hide (fun h => cutN_no (v := v) (k := k) h)
      have hlt' : ((k : Nat) : Int) < ((n - 1 : Nat) : Int) := by omega
      have hsub : IntKind.i64.wrap ((n : Int) - 1) = ((n - 1 : Nat) : Int) := by rw [IntWalk.i64_in _ (by omega)]; omega
      go_wp2_with fail
      refine (HA.out _).mono ?_
      rintro e w2 ⟨rfl, hb2⟩
      have hFB2 := hFBr.step hb2
      clear r0 r1
      obtain ⟨hbel2, hz2, r0, r1⟩ := hFB2.parts
      have c1 : w2.cell? ⟨b, off + k, none⟩ = some (.int .i64 (gv v k)) := (hbel2.cell (p := ⟨b, off + k, none⟩) hbb).trans (HCC.out _ (by omega))
      have c2 : w2.cell? ⟨b, off + cutN v k, none⟩ = some (.int .i64 (gv v (cutN v k))) := (hbel2.cell (p := ⟨b, off + cutN v k, none⟩) hbb).trans (HCC.out _ hcn)
      by_cases hq : gv v k < gv v (cutN v k)
      · have hq2 : decide (gv v k < gv v (cutN v k)) = true := by simp [hq]
        have hs := hide (hy.out (by omega))
        clear hq
        go_wp2
        go_quiet (fail)
        go_wp2
        go_roundw
        case rel => exact ⟨k + 1, by omega, by omega, by go_num, by rw [hs.out], hFB2.drewN _⟩
        case measure => simp [intOf]; omega
      · have hq2 : decide (gv v k < gv v (cutN v k)) = false := by simp [hq]
        have hs := hide (hno.out (by omega))
        clear hq
        go_wp2
        go_quiet (fail)
        go_wp2
        go_roundw
        case rel => exact ⟨k + 1, by omega, by omega, by go_num, by rw [hs.out], hFB2.drewN _⟩
        case measure => simp [intOf]; omega
    · have hkn : k = n - 1 := by omega
      have HK := hide (show cutN v k = cutN v (n - 1) by rw [hkn])
      have hlt' : ¬ ((k : Nat) : Int) < ((n - 1 : Nat) : Int) := by omega
      have hsub : IntKind.i64.wrap ((n : Int) - 1) = ((n - 1 : Nat) : Int) := by rw [IntWalk.i64_in _ (by omega)]; omega
      clear hkn
      go_wp2_with fail
      refine (HA.out _).mono ?_
      rintro e w2 ⟨rfl, hb2⟩
      have hFB2 := hFBr.step hb2
      clear r0 r1
      obtain ⟨hbel2, hz2, r0, r1⟩ := hFB2.parts
      have c2 : w2.cell? ⟨b, off + cutN v k, none⟩ = some (.int .i64 (gv v (cutN v k))) := (hbel2.cell (p := ⟨b, off + cutN v k, none⟩) hbb).trans (HCC.out _ hcn)
      go_wp2
      go_ret3
      exact ⟨by rw [← HK.out]; rfl, hFB2.1⟩
set_option maxHeartbeats 1000000 in
theorem specMinimumCut_any (E : Int) (A : Option Addr) (n c : Nat) (v : List Int) (w : World) (hv : Ints w A n v) :
    Calls Try.prog 19 #[.agg #[.int .i64 E, .slice A n c]] w fun e w' => e = .returned (.tuple #[.int .i64 (mcV E v), .int .i64 (mcS E v), .bool (cutB E v)]) ∧ Below w.heap.size w w' := by
  have hF0 := FB.start w E A n c
  obtain ⟨hbel0, hz0, r0, r1⟩ := hF0.parts
  have hcall := l14Fit_any E A n c v _ (hv.below hbel0 (Nat.le_refl _))
  cases hp : cutB E v
  · have e0 : mcV E v = 0 := by simp [mcV, hp]
    have e1 : mcS E v = 0 := by simp [mcS, hp]
    rw [e0, e1]; clear e0 e1
    rw [hp] at hcall
    have HC := hide hcall; clear hcall
    go_enter Try.func19, Try.ntmps19
    go_wp2_with fail
    refine HC.out.mono ?_
    rintro e w1 ⟨rfl, hb1⟩
    go_wp2
    go_ret3
    exact ⟨rfl, (hF0.step hb1).1⟩
  obtain ⟨hf, hE⟩ := cut_fn hp
  have hvl := hv.len
  rw [hp] at hcall
  have HC := hide hcall; clear hcall
  have e0 : mcV E v = gv v (cutN v (n - 1)) := by simp [mcV, hp, hvl]
  have e1 : mcS E v = ((cutN v (n - 1) : Nat) : Int) := by simp [mcS, hp, hvl]
  rw [e0, e1]; clear e0 e1 hp hvl
  obtain ⟨N, rfl, fo⟩ := FnOk.of hf hv
  clear hf
  obtain ⟨b, off, rfl, hbb, hc⟩ := hv.all_ fo.n0
  have HCC := hide hc; clear hc
  have hN := fo.hN
  have n32 := fo.n32
  have n4 : 4 ≤ n := by
    rw [fo.hn]
    exact (show 2 ^ 2 ≤ 2 ^ N from Nat.pow_le_pow_right (by omega) (by omega))
  have HA := hide (fun W => fn_full fo ▸ allOf_any N (some ⟨b, off, none⟩) n c W (by omega))
  have h40 : N ≤ 40 := by omega
  clear r0 r1
  go_enter Try.func19, Try.ntmps19
  go_wp2_with fail
  refine HC.out.mono ?_
  rintro e w1 ⟨rfl, hb1⟩
  have hFB := hF0.step hb1
  go_wp2
  go_loopw [5, 6] (fun x t wr => ∃ k : Nat, 2 ≤ k ∧ k ≤ n - 1 ∧ t = .int .i64 k ∧ x = .int .i64 ((cutN v k : Nat) : Int) ∧ FB w wr N (some ⟨b, off, none⟩) n c) (fun _ t _ => n - (intOf t).toNat)
  case atStart => exact ⟨2, Nat.le_refl _, by omega, rfl, by rw [cutN_two]; rfl, hFB⟩
  case round =>
    obtain ⟨k, hk2, hk, rfl, rfl, hFBr⟩ := hrel
    obtain ⟨hbelr, hzr, r0, r1⟩ := hFBr.parts
    have hcl := cutN_lt v k
    have hcn : cutN v k < n := by omega
    have i1 : (0 : Int) ≤ ((cutN v k : Nat) : Int) := by omega
    have i2 : ((cutN v k : Nat) : Int) < (n : Int) := by omega
    by_cases hlt : k < n - 1
    · have i3 : (0 : Int) ≤ (k : Int) := by omega
      have i4 : (k : Int) < (n : Int) := by omega
      have hy := hide (fun h => cutN_yes (v := v) hk2 h)
      have hno := hide (fun h => cutN_no (v := v) (k := k) h)
      have hlt' : ((k : Nat) : Int) < ((n - 1 : Nat) : Int) := by omega
      have hsub : IntKind.i64.wrap ((n : Int) - 1) = ((n - 1 : Nat) : Int) := by rw [IntWalk.i64_in _ (by omega)]; omega
      have hFB2 := hFBr
      have c1 : wr.cell? ⟨b, off + k, none⟩ = some (.int .i64 (gv v k)) := (hbelr.cell (p := ⟨b, off + k, none⟩) hbb).trans (HCC.out _ (by omega))
      have c2 : wr.cell? ⟨b, off + cutN v k, none⟩ = some (.int .i64 (gv v (cutN v k))) := (hbelr.cell (p := ⟨b, off + cutN v k, none⟩) hbb).trans (HCC.out _ hcn)
      by_cases hq : gv v k < gv v (cutN v k)
      · have hq2 : decide (gv v k < gv v (cutN v k)) = true := by simp [hq]
        have hs := hide (hy.out (by omega))
        clear hq
        go_wp2
        go_quiet (fail)
        go_wp2
        go_roundw
        case rel => exact ⟨k + 1, by omega, by omega, by go_num, by rw [hs.out], hFB2.drewN _⟩
        case measure => simp [intOf]; omega
      · have hq2 : decide (gv v k < gv v (cutN v k)) = false := by simp [hq]
        have hs := hide (hno.out (by omega))
        clear hq
        go_wp2
        go_quiet (fail)
        go_wp2
        go_roundw
        case rel => exact ⟨k + 1, by omega, by omega, by go_num, by rw [hs.out], hFB2.drewN _⟩
        case measure => simp [intOf]; omega
    · have hkn : k = n - 1 := by omega
      have HK := hide (show cutN v k = cutN v (n - 1) by rw [hkn])
      have hlt' : ¬ ((k : Nat) : Int) < ((n - 1 : Nat) : Int) := by omega
      have hsub : IntKind.i64.wrap ((n : Int) - 1) = ((n - 1 : Nat) : Int) := by rw [IntWalk.i64_in _ (by omega)]; omega
      clear hkn
      have hFB2 := hFBr
      have c2 : wr.cell? ⟨b, off + cutN v k, none⟩ = some (.int .i64 (gv v (cutN v k))) := (hbelr.cell (p := ⟨b, off + cutN v k, none⟩) hbb).trans (HCC.out _ hcn)
      go_wp2
      go_ret3
      exact ⟨by rw [← HK.out]; rfl, hFB2.1⟩

/-! Pendant pairs. -/
def okP (v : List Int) (t u k : Nat) : Bool := decide (∀ s, s < k → hasB s u = true → hasB s t = false → gv v (p2 u) ≤ gv v s)
theorem okP_zero (v : List Int) (t u : Nat) : okP v t u 0 = true := by simp [okP]
theorem okP_step {v : List Int} {t u k : Nat} (h : okP v t u k = true) (h2 : hasB k u = true → hasB k t = false → gv v (p2 u) ≤ gv v k) : okP v t u (k + 1) = true := by
  simp only [okP, decide_eq_true_eq] at *
  intro s hs h3 h4
  by_cases he : s = k
  · subst he; exact h2 h3 h4
  · exact h s (by omega) h3 h4
theorem okP_no {v : List Int} {t u k n : Nat} (hk : k < n) (h3 : hasB k u = true) (h4 : hasB k t = false) (h : gv v k < gv v (p2 u)) : okP v t u n = false := by
  simp only [okP, decide_eq_false_iff_not]
  intro hall
  have := hall k hk h3 h4
  omega
def ppOk (E : Int) (v : List Int) (t u : Int) : Bool := cutB E v && (inR t 0 (E - 1) && (inR u 0 (E - 1) && !decide (t = u)))
def ppB (E : Int) (v : List Int) (t u : Int) : Bool := ppOk E v t u && okP v t.toNat u.toNat v.length
set_option maxHeartbeats 2000000 in
theorem isPendantPair_any (E : Int) (A : Option Addr) (n c : Nat) (v : List Int) (t u : Int) (w : World) (hv : Ints w A n v) :
    Calls Try.prog 22 #[.agg #[.int .i64 E, .slice A n c], .int .i64 t, .int .i64 u] w fun e w' => e = .returned (.bool (ppB E v t u)) ∧ Below w.heap.size w w' := by
  have hF0 := FB.start w E A n c
  obtain ⟨hbel0, hz0, r0, r1⟩ := hF0.parts
  have hcall := canCut_any E A n c v _ (hv.below hbel0 (Nat.le_refl _))
  cases hp : cutB E v
  · have e0 : ppB E v t u = false := by simp [ppB, ppOk, hp]
    rw [e0]; clear e0
    rw [hp] at hcall
    have HC := hide hcall; clear hcall
    go_enter Try.func22, Try.ntmps22
    go_wp2_with fail
    refine HC.out.mono ?_
    rintro e w1 ⟨rfl, hb1⟩
    go_wp2
    go_ret
    exact ⟨rfl, (hF0.step hb1).1⟩
  obtain ⟨hf, hE⟩ := cut_fn hp
  have hvl := hv.len
  rw [hp] at hcall
  have HC := hide hcall; clear hcall
  obtain ⟨N, rfl, fo⟩ := FnOk.of hf hv
  have hN := fo.hN
  have hw1 : IntKind.i64.wrap ((N : Int) - 1) = (N : Int) - 1 := IntWalk.i64_in _ (by omega)
  clear hf
  cases ht : inR t 0 ((N : Int) - 1)
  · have e0 : ppB N v t u = false := by simp [ppB, ppOk, ht]
    rw [e0]; clear e0 r0 r1
    go_enter Try.func22, Try.ntmps22
    go_wp2_with fail
    refine HC.out.mono ?_
    rintro e w1 ⟨rfl, hb1⟩
    obtain ⟨hbel1, hz1, r0, r1⟩ := (hF0.step hb1).parts
    go_wp2_with fail
    refine (isElement_any _ _ _).mono ?_
    rintro e w2 ⟨rfl, rfl⟩
    rw [ht]
    go_wp2
    go_ret
    exact ⟨rfl, hbel1⟩
  cases hu : inR u 0 ((N : Int) - 1)
  · have e0 : ppB N v t u = false := by simp [ppB, ppOk, hu]
    rw [e0]; clear e0 r0 r1
    go_enter Try.func22, Try.ntmps22
    go_wp2_with fail
    refine HC.out.mono ?_
    rintro e w1 ⟨rfl, hb1⟩
    obtain ⟨hbel1, hz1, r0, r1⟩ := (hF0.step hb1).parts
    go_wp2_with fail
    refine (isElement_any _ _ _).mono ?_
    rintro e w2 ⟨rfl, rfl⟩
    rw [ht]
    go_wp2_with fail
    refine (isElement_any _ _ _).mono ?_
    rintro e w2 ⟨rfl, rfl⟩
    rw [hu]
    go_wp2
    go_ret
    exact ⟨rfl, hbel1⟩
  have Ht := hide ht
  have Hu := hide hu
  by_cases htu : t = u
  · have e0 : ppB N v t u = false := by simp [ppB, ppOk, htu]
    have e1 : (t == u) = true := by simp [htu]
    rw [e0]; clear e0 r0 r1 htu ht hu
    go_enter Try.func22, Try.ntmps22
    go_wp2_with fail
    refine HC.out.mono ?_
    rintro e w1 ⟨rfl, hb1⟩
    obtain ⟨hbel1, hz1, r0, r1⟩ := (hF0.step hb1).parts
    go_wp2_with fail
    refine (isElement_any _ _ _).mono ?_
    rintro e w2 ⟨rfl, rfl⟩
    rw [Ht.out]
    go_wp2_with fail
    refine (isElement_any _ _ _).mono ?_
    rintro e w2 ⟨rfl, rfl⟩
    rw [Hu.out]
    go_wp2
    go_ret
    exact ⟨rfl, hbel1⟩
  have e1 : (t == u) = false := by simp [htu]
  have e0 : ppB N v t u = okP v t.toNat u.toNat n := by simp [ppB, ppOk, hp, ht, hu, htu, hvl]
  rw [e0]; clear e0 r0 r1 htu hp hvl
  obtain ⟨T, rfl⟩ : ∃ T : Nat, t = (T : Int) := ⟨t.toNat, by have := inR_true ht; omega⟩
  obtain ⟨U, rfl⟩ : ∃ U : Nat, u = (U : Int) := ⟨u.toNat, by have := inR_true hu; omega⟩
  have hT : T < N := by have := inR_true ht; omega
  have hU : U < N := by have := inR_true hu; omega
  rw [Int.toNat_natCast, Int.toNat_natCast]
  clear ht hu
  obtain ⟨b, off, rfl, hbb, hc⟩ := hv.all_ fo.n0
  have HCC := hide hc; clear hc
  have n32 := fo.n32
  have pU := fo.p2 hU
  have i1 : (0 : Int) ≤ ((p2 U : Nat) : Int) := by omega
  have i2 : ((p2 U : Nat) : Int) < (n : Int) := by omega
  have T40 : T ≤ 40 := by omega
  have U40 : U ≤ 40 := by omega
  go_enter Try.func22, Try.ntmps22
  go_wp2_with fail
  refine HC.out.mono ?_
  rintro e w1 ⟨rfl, hb1⟩
  have hFB := hF0.step hb1
  obtain ⟨hbel1, hz1, r0, r1⟩ := hFB.parts
  go_wp2_with fail
  refine (isElement_any _ _ _).mono ?_
  rintro e w2 ⟨rfl, rfl⟩
  rw [Ht.out]
  go_wp2_with fail
  refine (isElement_any _ _ _).mono ?_
  rintro e w2 ⟨rfl, rfl⟩
  rw [Hu.out]
  go_wp2
  clear r0 r1 hw1
  go_loopw [34] (fun x wr => ∃ k : Nat, k ≤ n ∧ x = .int .i64 k ∧ okP v T U k = true ∧ FB w wr N (some ⟨b, off, none⟩) n c) (fun x _ => n - (intOf x).toNat)
  case atStart => exact ⟨0, Nat.zero_le _, rfl, okP_zero _ _ _, hFB⟩
  case round =>
    obtain ⟨k, hk, rfl, hok, hFBr⟩ := hrel
    obtain ⟨hbelr, hzr, r0, r1⟩ := hFBr.parts
    have Hok := hide hok; clear hok
    by_cases hlt : k < n
    · have k10 : k < 1024 := by omega
      have i3 : (0 : Int) ≤ (k : Int) := by omega
      have i4 : (k : Int) < (n : Int) := by omega
      have c1 : wr.cell? ⟨b, off + k, none⟩ = some (.int .i64 (gv v k)) := (hbelr.cell (p := ⟨b, off + k, none⟩) hbb).trans (HCC.out _ hlt)
      have c2 : wr.cell? ⟨b, off + p2 U, none⟩ = some (.int .i64 (gv v (p2 U))) := (hbelr.cell (p := ⟨b, off + p2 U, none⟩) hbb).trans (HCC.out _ pU)
      cases h1 : hasB k U
      · have hs := hide (okP_step Hok.out (fun h => by rw [h1] at h; cases h))
        go_wp2
        go_roundw
        case rel => exact ⟨k + 1, by omega, by go_num, hs.out, hFBr⟩
        case measure => simp [intOf]; omega
      · cases h2 : hasB k T
        · by_cases hq : gv v k < gv v (p2 U)
          · have hno := hide (okP_no hlt h1 h2 hq)
            have hq2 : decide (gv v k < gv v (p2 U)) = true := by simp [hq]
            clear hq
            go_wp2
            go_ret
            exact ⟨by rw [hno.out]; rfl, (hFBr).1⟩
          · have hs := hide (okP_step Hok.out (fun _ _ => by omega))
            have hq2 : decide (gv v k < gv v (p2 U)) = false := by simp [hq]
            clear hq
            go_wp2
            go_roundw
            case rel => exact ⟨k + 1, by omega, by go_num, hs.out, hFBr⟩
            case measure => simp [intOf]; omega
        · have hs := hide (okP_step Hok.out (fun _ h => by rw [h2] at h; cases h))
          go_wp2
          go_roundw
          case rel => exact ⟨k + 1, by omega, by go_num, hs.out, hFBr⟩
          case measure => simp [intOf]; omega
    · obtain rfl : k = n := by omega
      go_wp2
      go_ret
      exact ⟨by rw [Hok.out]; rfl, hbelr⟩
set_option maxHeartbeats 2000000 in
theorem specIsPendantPair_any (E : Int) (A : Option Addr) (n c : Nat) (v : List Int) (t u : Int) (w : World) (hv : Ints w A n v) :
    Calls Try.prog 21 #[.agg #[.int .i64 E, .slice A n c], .int .i64 t, .int .i64 u] w fun e w' => e = .returned (.bool (ppB E v t u)) ∧ Below w.heap.size w w' := by
  have hF0 := FB.start w E A n c
  obtain ⟨hbel0, hz0, r0, r1⟩ := hF0.parts
  have hcall := l14Fit_any E A n c v _ (hv.below hbel0 (Nat.le_refl _))
  cases hp : cutB E v
  · have e0 : ppB E v t u = false := by simp [ppB, ppOk, hp]
    rw [e0]; clear e0
    rw [hp] at hcall
    have HC := hide hcall; clear hcall
    go_enter Try.func21, Try.ntmps21
    go_wp2_with fail
    refine HC.out.mono ?_
    rintro e w1 ⟨rfl, hb1⟩
    go_wp2
    go_ret
    exact ⟨rfl, (hF0.step hb1).1⟩
  obtain ⟨hf, hE⟩ := cut_fn hp
  have hvl := hv.len
  rw [hp] at hcall
  have HC := hide hcall; clear hcall
  obtain ⟨N, rfl, fo⟩ := FnOk.of hf hv
  have hN := fo.hN
  have hw1 : IntKind.i64.wrap ((N : Int) - 1) = (N : Int) - 1 := IntWalk.i64_in _ (by omega)
  clear hf
  cases ht : inR t 0 ((N : Int) - 1)
  · have e0 : ppB N v t u = false := by simp [ppB, ppOk, ht]
    rw [e0]; clear e0 r0 r1
    go_enter Try.func21, Try.ntmps21
    go_wp2_with fail
    refine HC.out.mono ?_
    rintro e w1 ⟨rfl, hb1⟩
    obtain ⟨hbel1, hz1, r0, r1⟩ := (hF0.step hb1).parts
    go_wp2_with fail
    refine (l1In_any _ _ _ _).mono ?_
    rintro e w2 ⟨rfl, rfl⟩
    rw [ht]
    go_wp2
    go_ret
    exact ⟨rfl, hbel1⟩
  cases hu : inR u 0 ((N : Int) - 1)
  · have e0 : ppB N v t u = false := by simp [ppB, ppOk, hu]
    rw [e0]; clear e0 r0 r1
    go_enter Try.func21, Try.ntmps21
    go_wp2_with fail
    refine HC.out.mono ?_
    rintro e w1 ⟨rfl, hb1⟩
    obtain ⟨hbel1, hz1, r0, r1⟩ := (hF0.step hb1).parts
    go_wp2_with fail
    refine (l1In_any _ _ _ _).mono ?_
    rintro e w2 ⟨rfl, rfl⟩
    rw [ht]
    go_wp2_with fail
    refine (l1In_any _ _ _ _).mono ?_
    rintro e w2 ⟨rfl, rfl⟩
    rw [hu]
    go_wp2
    go_ret
    exact ⟨rfl, hbel1⟩
  have Ht := hide ht
  have Hu := hide hu
  by_cases htu : t = u
  · have e0 : ppB N v t u = false := by simp [ppB, ppOk, htu]
    have e1 : (t == u) = true := by simp [htu]
    rw [e0]; clear e0 r0 r1 htu ht hu
    go_enter Try.func21, Try.ntmps21
    go_wp2_with fail
    refine HC.out.mono ?_
    rintro e w1 ⟨rfl, hb1⟩
    obtain ⟨hbel1, hz1, r0, r1⟩ := (hF0.step hb1).parts
    go_wp2_with fail
    refine (l1In_any _ _ _ _).mono ?_
    rintro e w2 ⟨rfl, rfl⟩
    rw [Ht.out]
    go_wp2_with fail
    refine (l1In_any _ _ _ _).mono ?_
    rintro e w2 ⟨rfl, rfl⟩
    rw [Hu.out]
    go_wp2
    go_ret
    exact ⟨rfl, hbel1⟩
  have e1 : (t == u) = false := by simp [htu]
  have e0 : ppB N v t u = okP v t.toNat u.toNat n := by simp [ppB, ppOk, hp, ht, hu, htu, hvl]
  rw [e0]; clear e0 r0 r1 htu hp hvl
  obtain ⟨T, rfl⟩ : ∃ T : Nat, t = (T : Int) := ⟨t.toNat, by have := inR_true ht; omega⟩
  obtain ⟨U, rfl⟩ : ∃ U : Nat, u = (U : Int) := ⟨u.toNat, by have := inR_true hu; omega⟩
  have hT : T < N := by have := inR_true ht; omega
  have hU : U < N := by have := inR_true hu; omega
  rw [Int.toNat_natCast, Int.toNat_natCast]
  clear ht hu
  obtain ⟨b, off, rfl, hbb, hc⟩ := hv.all_ fo.n0
  have HCC := hide hc; clear hc
  have n32 := fo.n32
  have pU := fo.p2 hU
  have i1 : (0 : Int) ≤ ((p2 U : Nat) : Int) := by omega
  have i2 : ((p2 U : Nat) : Int) < (n : Int) := by omega
  have T40 : T ≤ 40 := by omega
  have U40 : U ≤ 40 := by omega
  go_enter Try.func21, Try.ntmps21
  go_wp2_with fail
  refine HC.out.mono ?_
  rintro e w1 ⟨rfl, hb1⟩
  have hFB := hF0.step hb1
  obtain ⟨hbel1, hz1, r0, r1⟩ := hFB.parts
  go_wp2_with fail
  refine (l1In_any _ _ _ _).mono ?_
  rintro e w2 ⟨rfl, rfl⟩
  rw [Ht.out]
  go_wp2_with fail
  refine (l1In_any _ _ _ _).mono ?_
  rintro e w2 ⟨rfl, rfl⟩
  rw [Hu.out]
  go_wp2
  clear r0 r1 hw1
  go_loopw [7] (fun x wr => ∃ k : Nat, k ≤ n ∧ x = .int .i64 k ∧ okP v T U k = true ∧ FB w wr N (some ⟨b, off, none⟩) n c) (fun x _ => n - (intOf x).toNat)
  case atStart => exact ⟨0, Nat.zero_le _, rfl, okP_zero _ _ _, hFB⟩
  case round =>
    obtain ⟨k, hk, rfl, hok, hFBr⟩ := hrel
    obtain ⟨hbelr, hzr, r0, r1⟩ := hFBr.parts
    have Hok := hide hok; clear hok
    by_cases hlt : k < n
    · have k10 : k < 1024 := by omega
      have i3 : (0 : Int) ≤ (k : Int) := by omega
      have i4 : (k : Int) < (n : Int) := by omega
      have c1 : wr.cell? ⟨b, off + k, none⟩ = some (.int .i64 (gv v k)) := (hbelr.cell (p := ⟨b, off + k, none⟩) hbb).trans (HCC.out _ hlt)
      have c2 : wr.cell? ⟨b, off + p2 U, none⟩ = some (.int .i64 (gv v (p2 U))) := (hbelr.cell (p := ⟨b, off + p2 U, none⟩) hbb).trans (HCC.out _ pU)
      cases h1 : hasB k U
      · have hs := hide (okP_step Hok.out (fun h => by rw [h1] at h; cases h))
        go_wp2
        go_quiet (fail)
        go_wp2
        go_roundw
        case rel => exact ⟨k + 1, by omega, by go_num, hs.out, hFBr.drewN _⟩
        case measure => simp [intOf]; omega
      · cases h2 : hasB k T
        · by_cases hq : gv v k < gv v (p2 U)
          · have hno := hide (okP_no hlt h1 h2 hq)
            have hq2 : decide (gv v k < gv v (p2 U)) = true := by simp [hq]
            clear hq
            go_wp2
            go_quiet (fail)
            go_wp2
            go_ret
            exact ⟨by rw [hno.out]; rfl, (hFBr.drewN _).1⟩
          · have hs := hide (okP_step Hok.out (fun _ _ => by omega))
            have hq2 : decide (gv v k < gv v (p2 U)) = false := by simp [hq]
            clear hq
            go_wp2
            go_quiet (fail)
            go_wp2
            go_roundw
            case rel => exact ⟨k + 1, by omega, by go_num, hs.out, hFBr.drewN _⟩
            case measure => simp [intOf]; omega
        · have hs := hide (okP_step Hok.out (fun _ h => by rw [h2] at h; cases h))
          go_wp2
          go_quiet (fail)
          go_wp2
          go_roundw
          case rel => exact ⟨k + 1, by omega, by go_num, hs.out, hFBr.drewN _⟩
          case measure => simp [intOf]; omega
    · obtain rfl : k = n := by omega
      go_wp2
      go_ret
      exact ⟨by rw [Hok.out]; rfl, hbelr⟩
end Go.Proofs.Ytfmibekefllhjaa
