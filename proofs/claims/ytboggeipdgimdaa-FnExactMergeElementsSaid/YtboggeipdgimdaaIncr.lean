/-
  Walks: increasing functions, polymatroids.
-/
import Derived.Test.YtboggeipdgimdaaSub
import Derived.Test.YtboggeipdgimdaaBelow
namespace Go.Proofs.Ytboggeipdgimdaa
open Go.RowKit

/-- No element takes anything off the sets below s. -/
def okI (v : List Int) (N s : Nat) : Bool := decide (∀ t, t < s → ∀ e, e < N → 0 ≤ gainN v t e)
def colI (v : List Int) (s e : Nat) : Bool := decide (∀ j, j < e → 0 ≤ gainN v s j)
def incB (E : Int) (v : List Int) : Bool := isFn E v && okI v E.toNat v.length
theorem okI_zero (v : List Int) (N : Nat) : okI v N 0 = true := by simp [okI]
theorem colI_zero (v : List Int) (s : Nat) : colI v s 0 = true := by simp [colI]
theorem okI_step {v : List Int} {N s : Nat} (h : okI v N s = true) (h2 : colI v s N = true) : okI v N (s + 1) = true := by
  simp only [okI, colI, decide_eq_true_eq] at *
  intro t ht e he
  by_cases h3 : t = s
  · subst h3; exact h2 e he
  · exact h t (by omega) e he
theorem colI_step {v : List Int} {s e : Nat} (h : colI v s e = true) (h2 : ¬ gainN v s e < 0) : colI v s (e + 1) = true := by
  simp only [colI, decide_eq_true_eq] at *
  intro j hj
  by_cases h3 : j = e
  · subst h3; omega
  · exact h j (by omega)
theorem inc_no {v : List Int} {N n s e : Nat} (hs : s < n) (he : e < N) (h : gainN v s e < 0) : okI v N n = false := by
  simp only [okI, decide_eq_false_iff_not]
  intro hall
  have := hall s hs e he
  omega
theorem inc_gain {E : Int} {v : List Int} (h : incB E v = true) : isFn E v = true ∧ ∀ s, s < v.length → ∀ e : Nat, (e : Int) < E → 0 ≤ gainN v s e := by
  simp only [incB, okI, Bool.and_eq_true, decide_eq_true_eq] at h
  exact ⟨h.1, fun s hs e he => h.2 s hs e (by omega)⟩

set_option maxHeartbeats 1000000 in
theorem isIncreasing_any (E : Int) (A : Option Addr) (n c : Nat) (v : List Int) (w : World) (hv : Ints w A n v) :
    Calls Try.prog 104 #[.agg #[.int .i64 E, .slice A n c]] w fun e w' => e = .returned (.bool (incB E v)) ∧ Below w.heap.size w w' := by
  have hF0 := FB.start w E A n c
  obtain ⟨hbel0, hz0, r0, r1⟩ := hF0.parts
  have hcall := isFunction_any E A n c v _ (hv.below hbel0 (Nat.le_refl _))
  cases hf : isFn E v
  · have e0 : incB E v = false := by simp [incB, hf]
    rw [e0]; clear e0
    rw [hf] at hcall
    have HC := hide hcall; clear hcall
    go_enter Try.func104, Try.ntmps104
    go_wp2_with fail
    refine HC.out.mono ?_
    rintro e w1 ⟨rfl, hb1⟩
    go_wp2
    go_ret
    exact ⟨rfl, (hF0.step hb1).1⟩
  rw [hf] at hcall
  have HC := hide hcall; clear hcall
  have Hf := hide hf
  have hvl := hv.len
  have e0 : incB E v = okI v E.toNat n := by simp [incB, hf, hvl]
  rw [e0]; clear e0 hvl
  obtain ⟨N, rfl, fo⟩ := FnOk.of hf hv
  rw [Int.toNat_natCast]
  have hN := fo.hN
  have n32 := fo.n32
  clear hf r0 r1
  go_enter Try.func104, Try.ntmps104
  go_wp2_with fail
  refine HC.out.mono ?_
  rintro e w1 ⟨rfl, hb1⟩
  have hFB := hF0.step hb1
  obtain ⟨hbel, hz, r0, r1⟩ := hFB.parts
  go_wp2
  clear r0 r1
  go_loopw [11] (fun t wr => ∃ s : Nat, s ≤ n ∧ t = .int .i64 s ∧ okI v N s = true ∧ FB w wr N A n c) (fun t _ => n - (intOf t).toNat)
  case atStart => exact ⟨0, Nat.zero_le _, rfl, okI_zero _ _, hFB⟩
  case round =>
    obtain ⟨s, hs, rfl, hall, hFBo⟩ := hrel
    obtain ⟨hg, hz, r0, r1⟩ := hFBo.parts
    have Hall := hide hall; clear hall
    by_cases hlt : s < n
    · go_wp2
      clear r0 r1
      go_loopw [16] (fun t wr => ∃ e : Nat, e ≤ N ∧ t = .int .i64 e ∧ colI v s e = true ∧ FB w wr N A n c) (fun t _ => N - (intOf t).toNat)
      case atStart => exact ⟨0, Nat.zero_le _, rfl, colI_zero _ _, hFBo⟩
      case round =>
        obtain ⟨i, hi, rfl, hc, hFBi⟩ := hrel
        obtain ⟨hgi, hzi, r0, r1⟩ := hFBi.parts
        have Hc := hide hc; clear hc
        by_cases hlti : i < N
        · have HG := hide (gain_any N A n c v s i wr (hv.below hgi (Nat.le_refl _)) Hf.out hlt (by omega))
          by_cases hq : gainN v s i < 0
          · have hno := hide (inc_no hlt hlti hq)
            go_wp2_with fail
            refine HG.out.mono ?_
            rintro e w2 ⟨rfl, hb2⟩
            go_wp2
            go_ret
            exact ⟨by rw [hno.out]; rfl, (hFBi.step hb2).1⟩
          · have hst := hide (colI_step Hc.out hq)
            go_wp2_with fail
            refine HG.out.mono ?_
            rintro e w2 ⟨rfl, hb2⟩
            go_wp2
            go_roundw
            case rel => exact ⟨i + 1, by omega, by go_num, hst.out, hFBi.step hb2⟩
            case measure => simp [intOf]; omega
        · obtain rfl : i = N := by omega
          have hst := hide (okI_step Hall.out Hc.out)
          go_wp2
          go_roundw
          case rel => exact ⟨s + 1, by omega, by go_num, hst.out, hFBi⟩
          case measure => simp [intOf]; omega
    · obtain rfl : s = n := by omega
      go_wp2
      go_ret
      exact ⟨by rw [Hall.out]; rfl, hg⟩
set_option maxHeartbeats 1000000 in
theorem specIsIncreasing_any (E : Int) (A : Option Addr) (n c : Nat) (v : List Int) (w : World) (hv : Ints w A n v) :
    Calls Try.prog 103 #[.agg #[.int .i64 E, .slice A n c]] w fun e w' => e = .returned (.bool (incB E v)) ∧ Below w.heap.size w w' := by
  have hF0 := FB.start w E A n c
  cases hf : isFn E v
  · have e0 : incB E v = false := by simp [incB, hf]
    rw [e0]; clear e0
    go_enter Try.func103, Try.ntmps103
    go_wp2
    go_loopw [3] (fun i wr => i = .int .i64 0 ∧ FB w wr E A n c) (fun _ _ => 0)
    case atStart => exact ⟨rfl, hF0⟩
    case round =>
      obtain ⟨rfl, hFBr⟩ := hrel
      obtain ⟨hbelr, hzr, r0, r1⟩ := hFBr.parts
      go_wp2_with fail
      refine (specIsFunction_any _ _ _ _ v _ (hv.below hbelr (Nat.le_refl _))).mono ?_
      rintro e w1 ⟨rfl, hb1⟩
      rw [hf]
      have hFB1 := hFBr.step hb1
      clear r0 r1
      obtain ⟨hbel1, hz1, r0, r1⟩ := hFB1.parts
      go_wp2_with fail
      refine (specIsFunction_any _ _ _ _ v _ (hv.below hbel1 (Nat.le_refl _))).mono ?_
      rintro e w2 ⟨rfl, hb2⟩
      rw [hf]
      go_wp2
      go_ret
      exact ⟨rfl, (hFB1.step hb2).1⟩
  · have Hf := hide hf
    have hvl := hv.len
    have e0 : incB E v = okI v E.toNat n := by simp [incB, hf, hvl]
    rw [e0]; clear e0 hvl
    obtain ⟨N, rfl, fo⟩ := FnOk.of hf hv
    rw [Int.toNat_natCast]
    have hN := fo.hN
    have n32 := fo.n32
    clear hf
    obtain ⟨b, off, rfl, hb, hc⟩ := hv.all_ fo.n0
    have HC := hide hc; clear hc
    go_enter Try.func103, Try.ntmps103
    go_wp2
    go_loopw [3] (fun t wr => ∃ s : Nat, s ≤ n ∧ t = .int .i64 s ∧ okI v N s = true ∧ FB w wr N (some ⟨b, off, none⟩) n c) (fun t _ => n - (intOf t).toNat)
    case atStart => exact ⟨0, Nat.zero_le _, rfl, okI_zero _ _, hF0⟩
    case round =>
      obtain ⟨s, hs, rfl, hall, hFBo⟩ := hrel
      have Hall := hide hall; clear hall
      obtain ⟨hbelo, hzo, r0, r1⟩ := hFBo.parts
      go_wp2_with fail
      refine (specIsFunction_any _ _ _ _ v _ (hv.below hbelo (Nat.le_refl _))).mono ?_
      rintro e w1 ⟨rfl, hb1⟩
      rw [Hf.out]
      have hFB1 := hFBo.step hb1
      clear r0 r1
      obtain ⟨hbel1, hz1, r0, r1⟩ := hFB1.parts
      by_cases hlt : s < n
      · have hs10 : s < 1024 := by omega
        go_wp2
        clear r0 r1
        go_loopw [4] (fun t wr => ∃ e : Nat, e ≤ N ∧ t = .int .i64 e ∧ colI v s e = true ∧ FB w wr N (some ⟨b, off, none⟩) n c) (fun t _ => N - (intOf t).toNat)
        case atStart => exact ⟨0, Nat.zero_le _, rfl, colI_zero _ _, hFB1⟩
        case round =>
          obtain ⟨i, hi, rfl, hcc, hFBi⟩ := hrel
          obtain ⟨hgi, hzi, r0, r1⟩ := hFBi.parts
          have Hc := hide hcc; clear hcc
          by_cases hlti : i < N
          · have hi40 : i ≤ 40 := by omega
            have p1 := fo.ins hlt hlti
            have c1 : wr.cell? ⟨b, off + s, none⟩ = some (.int .i64 (gv v s)) := (hgi.cell (p := ⟨b, off + s, none⟩) hb).trans (HC.out _ hlt)
            have c2 : wr.cell? ⟨b, off + insN s i, none⟩ = some (.int .i64 (gv v (insN s i))) := (hgi.cell (p := ⟨b, off + insN s i, none⟩) hb).trans (HC.out _ p1)
            have i1 : (0 : Int) ≤ (s : Int) := by omega
            have i2 : (s : Int) < (n : Int) := by omega
            have i3 : (0 : Int) ≤ (insN s i : Int) := by omega
            have i4 : (insN s i : Int) < (n : Int) := by omega
            by_cases hq : gainN v s i < 0
            · have hno := hide (inc_no hlt hlti hq)
              have hq2 : decide (gv v (insN s i) < gv v s) = true := by unfold gainN at hq; simp; omega
              clear hq
              go_wp2
              go_quiet (fail)
              go_wp2
              go_ret
              exact ⟨by rw [hno.out]; rfl, (hFBi.drewN _).1⟩
            · have hst := hide (colI_step Hc.out hq)
              have hq2 : decide (gv v (insN s i) < gv v s) = false := by unfold gainN at hq; simp; omega
              clear hq
              go_wp2
              go_quiet (fail)
              go_wp2
              go_roundw
              case rel => exact ⟨i + 1, by omega, by go_num, hst.out, hFBi.drewN _⟩
              case measure => simp [intOf]; omega
          · obtain rfl : i = N := by omega
            have hst := hide (okI_step Hall.out Hc.out)
            go_wp2
            go_roundw
            case rel => exact ⟨s + 1, by omega, by go_num, hst.out, hFBi⟩
            case measure => simp [intOf]; omega
      · obtain rfl : s = n := by omega
        go_wp2_with fail
        refine (specIsFunction_any _ _ _ _ v _ (hv.below hbel1 (Nat.le_refl _))).mono ?_
        rintro e w2 ⟨rfl, hb2⟩
        rw [Hf.out]
        go_wp2
        go_ret
        exact ⟨by rw [Hall.out]; rfl, (hFB1.step hb2).1⟩
def polyB (E : Int) (v : List Int) : Bool := grdB E v && (incB E v && subB E v)
set_option maxHeartbeats 400000 in
theorem isPolymatroid_any (E : Int) (A : Option Addr) (n c : Nat) (v : List Int) (w : World) (hv : Ints w A n v) :
    Calls Try.prog 69 #[.agg #[.int .i64 E, .slice A n c]] w fun e w' => e = .returned (.bool (polyB E v)) ∧ Below w.heap.size w w' := by
  have hF0 := FB.start w E A n c
  obtain ⟨hbel0, hz0, r0, r1⟩ := hF0.parts
  have h1 := isGrounded_any E A n c v _ (hv.below hbel0 (Nat.le_refl _))
  have h2 := hide (fun W (h : Below w.heap.size w W) => isIncreasing_any E A n c v W (hv.below h (Nat.le_refl _)))
  have h3 := hide (fun W (h : Below w.heap.size w W) => isSubmodular_any E A n c v W (hv.below h (Nat.le_refl _)))
  cases hg : grdB E v
  · have e0 : polyB E v = false := by simp [polyB, hg]
    rw [e0]; clear e0
    rw [hg] at h1
    have H1 := hide h1; clear h1 hg
    go_enter Try.func69, Try.ntmps69
    go_wp2_with fail
    refine H1.out.mono ?_
    rintro e w1 ⟨rfl, hb1⟩
    go_wp2
    go_ret
    exact ⟨rfl, (hF0.step hb1).1⟩
  rw [hg] at h1
  have H1 := hide h1; clear h1
  cases hi : incB E v
  · have e0 : polyB E v = false := by simp [polyB, hi]
    rw [e0]; clear e0
    rw [hi] at h2
    clear hi hg
    go_enter Try.func69, Try.ntmps69
    go_wp2_with fail
    refine H1.out.mono ?_
    rintro e w1 ⟨rfl, hb1⟩
    have hF1 := hF0.step hb1
    clear r0 r1
    obtain ⟨hbel1, hz1, r0, r1⟩ := hF1.parts
    go_wp2_with fail
    refine (h2.out _ hbel1).mono ?_
    rintro e w2 ⟨rfl, hb2⟩
    go_wp2
    go_ret
    exact ⟨rfl, (hF1.step hb2).1⟩
  · have e0 : polyB E v = subB E v := by simp [polyB, hi, hg]
    rw [e0]; clear e0
    rw [hi] at h2
    clear hi hg
    go_enter Try.func69, Try.ntmps69
    go_wp2_with fail
    refine H1.out.mono ?_
    rintro e w1 ⟨rfl, hb1⟩
    have hF1 := hF0.step hb1
    clear r0 r1
    obtain ⟨hbel1, hz1, r0, r1⟩ := hF1.parts
    go_wp2_with fail
    refine (h2.out _ hbel1).mono ?_
    rintro e w2 ⟨rfl, hb2⟩
    have hF2 := hF1.step hb2
    clear r0 r1
    obtain ⟨hbel2, hz2, r0, r1⟩ := hF2.parts
    go_wp2_with fail
    refine (h3.out _ hbel2).mono ?_
    rintro e w3 ⟨rfl, hb3⟩
    go_wp2
    go_ret
    exact ⟨rfl, (hF2.step hb3).1⟩
set_option maxHeartbeats 400000 in
theorem specIsPolymatroid_any (E : Int) (A : Option Addr) (n c : Nat) (v : List Int) (w : World) (hv : Ints w A n v) :
    Calls Try.prog 67 #[.agg #[.int .i64 E, .slice A n c]] w fun e w' => e = .returned (.bool (polyB E v)) ∧ Below w.heap.size w w' := by
  have hF0 := FB.start w E A n c
  obtain ⟨hbel0, hz0, r0, r1⟩ := hF0.parts
  have h1 := specIsGrounded_any E A n c v _ (hv.below hbel0 (Nat.le_refl _))
  have h2 := hide (fun W (h : Below w.heap.size w W) => specIsIncreasing_any E A n c v W (hv.below h (Nat.le_refl _)))
  have h3 := hide (fun W (h : Below w.heap.size w W) => specIsSubmodular_any E A n c v W (hv.below h (Nat.le_refl _)))
  cases hg : grdB E v
  · have e0 : polyB E v = false := by simp [polyB, hg]
    rw [e0]; clear e0
    rw [hg] at h1
    have H1 := hide h1; clear h1 hg
    go_enter Try.func67, Try.ntmps67
    go_wp2_with fail
    refine H1.out.mono ?_
    rintro e w1 ⟨rfl, hb1⟩
    go_wp2
    go_ret
    exact ⟨rfl, (hF0.step hb1).1⟩
  rw [hg] at h1
  have H1 := hide h1; clear h1
  cases hi : incB E v
  · have e0 : polyB E v = false := by simp [polyB, hi]
    rw [e0]; clear e0
    rw [hi] at h2
    clear hi hg
    go_enter Try.func67, Try.ntmps67
    go_wp2_with fail
    refine H1.out.mono ?_
    rintro e w1 ⟨rfl, hb1⟩
    have hF1 := hF0.step hb1
    clear r0 r1
    obtain ⟨hbel1, hz1, r0, r1⟩ := hF1.parts
    go_wp2_with fail
    refine (h2.out _ hbel1).mono ?_
    rintro e w2 ⟨rfl, hb2⟩
    go_wp2
    go_ret
    exact ⟨rfl, (hF1.step hb2).1⟩
  · have e0 : polyB E v = subB E v := by simp [polyB, hi, hg]
    rw [e0]; clear e0
    rw [hi] at h2
    clear hi hg
    go_enter Try.func67, Try.ntmps67
    go_wp2_with fail
    refine H1.out.mono ?_
    rintro e w1 ⟨rfl, hb1⟩
    have hF1 := hF0.step hb1
    clear r0 r1
    obtain ⟨hbel1, hz1, r0, r1⟩ := hF1.parts
    go_wp2_with fail
    refine (h2.out _ hbel1).mono ?_
    rintro e w2 ⟨rfl, hb2⟩
    have hF2 := hF1.step hb2
    clear r0 r1
    obtain ⟨hbel2, hz2, r0, r1⟩ := hF2.parts
    go_wp2_with fail
    refine (h3.out _ hbel2).mono ?_
    rintro e w3 ⟨rfl, hb3⟩
    go_wp2
    go_ret
    exact ⟨rfl, (hF2.step hb3).1⟩
end Go.Proofs.Ytboggeipdgimdaa
