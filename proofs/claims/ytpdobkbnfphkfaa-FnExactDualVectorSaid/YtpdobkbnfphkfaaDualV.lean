/-
  Walks: dual vectors made.
-/
import Derived.Test.YtpdobkbnfphkfaaRaise
namespace Go.Proofs.Ytpdobkbnfphkfaa
open Go.RowKit

def lowL (N : Nat) : List Int := List.replicate N (-2000)
def zeroL (N : Nat) : List Int := List.replicate N 0
def dvIn (E : Int) (v : List Int) : Bool := grdB E v && subB E v
def dvOk (E : Int) (v : List Int) : Bool := dvIn E v && raiseOk E v (lowL E.toNat) (zeroL E.toNat)
def dvL (E : Int) (v : List Int) : List Int := if dvIn E v then raiseL E v (lowL E.toNat) (zeroL E.toNat) else []
theorem low_snoc (k : Nat) : lowL (k + 1) = lowL k ++ [-2000] := by unfold lowL; rw [List.replicate_succ']
theorem zero_snoc (k : Nat) : zeroL (k + 1) = zeroL k ++ [0] := by unfold zeroL; rw [List.replicate_succ']
theorem low_len (k : Nat) : (lowL k).length = k := by simp [lowL]
theorem range_of {w : World} {B n c : Nat} {A : Option Addr} {xs : List Int} (h : Own w B A n c xs) : ∀ g, A = some ⟨g, 0, none⟩ → B ≤ g ∧ g < w.heap.size := by
  intro g hA
  rcases h.where_ with h0 | ⟨g', h1, h2, h3⟩
  · rw [h0] at hA; cases hA
  · rw [h1] at hA
    simp at hA
    subst hA
    exact ⟨h2, h3⟩
theorem row_of' {w : World} {B n c k : Nat} {A : Option Addr} {xs : List Int} (h : Own w B A n c xs) (hk : A.map (·.block) = some k) : ∃ g, A = some ⟨g, 0, none⟩ ∧ g = k := by
  rcases h.where_ with h0 | ⟨g', h1, h2, h3⟩
  · rw [h0] at hk; cases hk
  · rw [h1] at hk ⊢
    simp at hk
    exact ⟨g', rfl, hk⟩
theorem own_grown {w w' : World} {B n c : Nat} {A : Option Addr} {xs : List Int} {row : Option Nat} (h : Own w B A n c xs) (hg : w.grownBy w' row) (hne : ∀ g, A = some ⟨g, 0, none⟩ → some g = row → False) : Own w' B A n c xs :=
  h.keep fun g hlt ha => hg.block g hlt (hne g ha)
set_option maxHeartbeats 2000000 in
theorem dualVector_any (E : Int) (A : Option Addr) (n c : Nat) (v : List Int) (w : World) (hv : Ints w A n v) :
    Calls Try.prog 20 #[.agg #[.int .i64 E, .slice A n c]] w fun e w' => ∃ B r cr, e = .returned (.tuple #[.slice B r cr, .bool (dvOk E v)]) ∧ Own w' w.heap.size B r cr (dvL E v) ∧ r ≤ 1048576 ∧ Below w.heap.size w w' := by
  have hF0 := FB.start w E A n c
  obtain ⟨hbel0, hz0, r0, r1⟩ := hF0.parts
  have hcall := isGrounded_any E A n c v _ (hv.below hbel0 (Nat.le_refl _))
  have HS := hide (fun W (h : Below w.heap.size w W) => isSubmodular_any E A n c v W (hv.below h (Nat.le_refl _)))
  cases hg : grdB E v
  · have e2 : dvIn E v = false := by simp [dvIn, hg]
    have e0 : dvOk E v = false := by simp [dvOk, e2]
    have e1 : dvL E v = [] := by simp [dvL, e2]
    rw [e0, e1]; clear e0 e1 e2
    rw [hg] at hcall
    have HC := hide hcall; clear hcall
    go_enter Try.func20, Try.ntmps20
    go_wp2_with fail
    refine HC.out.mono ?_
    rintro e w1 ⟨rfl, hb1⟩
    go_wp2
    go_ret2
    exact ⟨none, 0, 0, rfl, own_nil _ _, by omega, (hF0.step hb1).1⟩
  rw [hg] at hcall
  have HC := hide hcall; clear hcall
  cases hs : subB E v
  · have e2 : dvIn E v = false := by simp [dvIn, hs]
    have e0 : dvOk E v = false := by simp [dvOk, e2]
    have e1 : dvL E v = [] := by simp [dvL, e2]
    rw [e0, e1]; clear e0 e1 e2
    rw [hs] at HS
    clear hs hg
    go_enter Try.func20, Try.ntmps20
    go_wp2_with fail
    refine HC.out.mono ?_
    rintro e w1 ⟨rfl, hb1⟩
    have hF1 := hF0.step hb1
    clear r0 r1
    obtain ⟨hbel1, hz1, r0, r1⟩ := hF1.parts
    go_wp2_with fail
    refine (HS.out _ hbel1).mono ?_
    rintro e w2 ⟨rfl, hb2⟩
    go_wp2
    go_ret2
    exact ⟨none, 0, 0, rfl, own_nil _ _, by omega, (hF1.step hb2).1⟩
  rw [hs] at HS
  have e2 : dvIn E v = true := by simp [dvIn, hs, hg]
  obtain ⟨N, rfl, fo⟩ := FnOk.of (grd_fn hg) hv
  have e0 : dvOk N v = raiseOk N v (lowL N) (zeroL N) := by simp [dvOk, e2]
  have e1 : dvL N v = raiseL N v (lowL N) (zeroL N) := by simp [dvL, e2]
  rw [e0, e1]; clear e0 e1 e2 hs hg
  have hN := fo.hN
  have hmk := fun W => make_ints N (by omega) W
  clear r0 r1
  go_enter Try.func20, Try.ntmps20
  go_wp2_with fail
  refine HC.out.mono ?_
  rintro e w1 ⟨rfl, hb1⟩
  have hF1 := hF0.step hb1
  obtain ⟨hbel1, hz1, r0, r1⟩ := hF1.parts
  go_wp2_with fail
  refine (HS.out _ hbel1).mono ?_
  rintro e w2 ⟨rfl, hb2⟩
  have hF2 := hF1.step hb2
  clear r0 r1
  obtain ⟨hbel2, hz2, r0, r1⟩ := hF2.parts
  have hO := own_made N (by omega) w2 (B := w.heap.size + 1) hz2
  have hF3 := hF2.step ((Below.refl w2.heap.size w2).alloc (Nat.le_refl _) (.cells (madeCells #[.int .i64 0] N) 3))
  have hgz := hide hz2
  go_wp2
  clear r0 r1
  go_loopw [19] (fun t wr => ∃ (k : Nat) (zs : List Int), k ≤ N ∧ t = .int .i64 k ∧ Own wr (w.heap.size + 1) (some ⟨w2.heap.size, 0, none⟩) N N zs ∧ zs.take k = lowL k ∧ FB w wr N A n c) (fun t _ => N - (intOf t).toNat)
  case atStart => exact ⟨0, _, Nat.zero_le _, rfl, hO, rfl, hF3⟩
  clear hO hF3
  case round =>
    obtain ⟨k, zs, hk, rfl, hown, htake, hFBr⟩ := hrel
    obtain ⟨hbelr, hzr, r0, r1⟩ := hFBr.parts
    have Ht := hide htake; clear htake
    have hzl := hide hown.len
    by_cases hlt : k < N
    · have h2 := hown.cell hlt
      have h3 := hown.frozen k
      have ht2 := hide (take_set_snoc (zs := zs) (k := k) (u := -2000) (by rw [hzl.out]; exact hlt) Ht.out)
      rw [← low_snoc] at ht2
      go_wp2
      go_roundw
      case rel => exact ⟨k + 1, zs.set k (-2000), by omega, by go_num, hown.set_ k _, ht2.out, fb_set' hFBr (p := ⟨w2.heap.size, k, none⟩) hz2 _⟩
      case measure => simp [intOf]; omega
    · obtain rfl : k = N := by omega
      have ez : zs = lowL k := by rw [← Ht.out, List.take_of_length_le (by rw [hzl.out]; exact Nat.le_refl _)]
      rw [ez] at hown
      clear ez
      have hZ := own_made k (by omega) wr.drew (B := w.heap.size + 1) hzr
      have hI := (show Own wr.drew _ _ _ _ _ from hown).alloc (.cells (madeCells #[.int .i64 0] k) 3)
      have hV := ((hv.below hbelr (Nat.le_refl _)).drew).alloc (.cells (madeCells #[.int .i64 0] k) 3)
      have HR := hide (raiseVector_any k A n c v _ k k (lowL k) _ k k (zeroL k) _ hV hI.ints hZ.ints)
      have hFd := hFBr.drew.step ((Below.refl wr.drew.heap.size wr.drew).alloc (Nat.le_refl _) (.cells (madeCells #[.int .i64 0] k) 3))
      go_wp2
      go_region_with (go_at_call 51; refine HR.out.mono ?_; rintro e w4 ⟨B, r, cr, rfl, hownR, hr, hb4⟩)
      all_goals
        go_wp2
        go_ret2
        exact ⟨B, r, cr, rfl, hownR.less (by simp; omega), hr, (hFd.step hb4).1⟩
set_option maxHeartbeats 2000000 in
theorem specDualVector_any (E : Int) (A : Option Addr) (n c : Nat) (v : List Int) (w : World) (hv : Ints w A n v) :
    Calls Try.prog 19 #[.agg #[.int .i64 E, .slice A n c]] w fun e w' => ∃ B r cr, e = .returned (.tuple #[.slice B r cr, .bool (dvOk E v)]) ∧ Own w' w.heap.size B r cr (dvL E v) ∧ r ≤ 1048576 ∧ Below w.heap.size w w' := by
  have hF0 := FB.start w E A n c
  obtain ⟨hbel0, hz0, r0, r1⟩ := hF0.parts
  have hcall := specIsGrounded_any E A n c v _ (hv.below hbel0 (Nat.le_refl _))
  have HS := hide (fun W (h : Below w.heap.size w W) => specIsSubmodular_any E A n c v W (hv.below h (Nat.le_refl _)))
  cases hg : grdB E v
  · have e2 : dvIn E v = false := by simp [dvIn, hg]
    have e0 : dvOk E v = false := by simp [dvOk, e2]
    have e1 : dvL E v = [] := by simp [dvL, e2]
    rw [e0, e1]; clear e0 e1 e2
    rw [hg] at hcall
    have HC := hide hcall; clear hcall
    go_enter Try.func19, Try.ntmps19
    go_wp2_with fail
    refine HC.out.mono ?_
    rintro e w1 ⟨rfl, hb1⟩
    have hF1 := hF0.step hb1
    go_wp2
    go_ret2
    exact ⟨_, 0, 0, rfl, (own_none _).less (Nat.le_of_lt hF1.2.1), by omega, (hF1.step ((Below.refl _ _).alloc (Nat.le_refl _) _)).1⟩
  rw [hg] at hcall
  have HC := hide hcall; clear hcall
  cases hs : subB E v
  · have e2 : dvIn E v = false := by simp [dvIn, hs]
    have e0 : dvOk E v = false := by simp [dvOk, e2]
    have e1 : dvL E v = [] := by simp [dvL, e2]
    rw [e0, e1]; clear e0 e1 e2
    rw [hs] at HS
    clear hs hg
    go_enter Try.func19, Try.ntmps19
    go_wp2_with fail
    refine HC.out.mono ?_
    rintro e w1 ⟨rfl, hb1⟩
    have hF1 := hF0.step hb1
    clear r0 r1
    obtain ⟨hbel1, hz1, r0, r1⟩ := hF1.parts
    go_wp2_with fail
    refine (HS.out _ hbel1).mono ?_
    rintro e w2 ⟨rfl, hb2⟩
    have hF2 := hF1.step hb2
    go_wp2
    go_ret2
    exact ⟨_, 0, 0, rfl, (own_none _).less (Nat.le_of_lt hF2.2.1), by omega, (hF2.step ((Below.refl _ _).alloc (Nat.le_refl _) _)).1⟩
  rw [hs] at HS
  have e2 : dvIn E v = true := by simp [dvIn, hs, hg]
  obtain ⟨N, rfl, fo⟩ := FnOk.of (grd_fn hg) hv
  have e0 : dvOk N v = raiseOk N v (lowL N) (zeroL N) := by simp [dvOk, e2]
  have e1 : dvL N v = raiseL N v (lowL N) (zeroL N) := by simp [dvL, e2]
  rw [e0, e1]; clear e0 e1 e2 hs hg
  have hN := fo.hN
  clear r0 r1
  go_enter Try.func19, Try.ntmps19
  go_wp2_with fail
  refine HC.out.mono ?_
  rintro e w1 ⟨rfl, hb1⟩
  have hF1 := hF0.step hb1
  obtain ⟨hbel1, hz1, r0, r1⟩ := hF1.parts
  go_wp2_with fail
  refine (HS.out _ hbel1).mono ?_
  rintro e w2 ⟨rfl, hb2⟩
  have hF2 := hF1.step hb2
  clear r0 r1
  obtain ⟨hbel2, hz2, r0, r1⟩ := hF2.parts
  have hO1 := (own_zero w2 (B := w.heap.size + 1) hz2).alloc (.cells #[] 3)
  have hO2 := own_zero (w2.alloc (.cells #[] 3)) (B := w.heap.size + 1) (by simp; omega)
  have hsz : (w2.alloc (.cells #[] 3)).heap.size = w2.heap.size + 1 := by simp
  rw [hsz] at hO2
  have hF3 := (hF2.step ((Below.refl w2.heap.size w2).alloc (Nat.le_refl _) (.cells #[] 3))).step ((Below.refl _ _).alloc (Nat.le_refl _) (.cells #[] 3))
  clear hsz
  go_wp2
  clear r0 r1
  go_loopw [4, 5, 6] (fun l z t wr => ∃ (k : Nat) (B : Option Addr) (cr : Nat) (Z : Option Addr) (cz : Nat), k ≤ N ∧ t = .int .i64 k ∧ l = .slice B k cr ∧ z = .slice Z k cz ∧ Own wr (w.heap.size + 1) B k cr (lowL k) ∧ Own wr (w.heap.size + 1) Z k cz (zeroL k) ∧ (∀ g g', B = some ⟨g, 0, none⟩ → Z = some ⟨g', 0, none⟩ → g ≠ g') ∧ FB w wr N A n c) (fun _ _ t _ => N - (intOf t).toNat)
  case atStart => exact ⟨0, _, 0, _, 0, Nat.zero_le _, rfl, rfl, rfl, hO1, hO2, (fun g g' h1 h2 => by injection h1 with h1; injection h1 with h1 _; injection h2 with h2; injection h2 with h2 _; omega), hF3⟩
  clear hO1 hO2 hF3
  case round =>
    obtain ⟨k, B, cr, Z, cz, hk, rfl, rfl, rfl, hown, hownZ, hne, hFBr⟩ := hrel
    obtain ⟨hbelr, hzr, r0, r1⟩ := hFBr.parts
    have Hne := hide hne; clear hne
    by_cases hlt : k < N
    · have hs1 := hide (low_snoc k)
      have hs2 := hide (zero_snoc k)
      go_wp2_with (first
        | (refine wpl_app (by rfl) _ _ (by rfl) (w.heap.size + 1) B k cr wr.heap.size (lowL k) (-2000) (by rfl) (by rfl) (hown.alloc _) (cell_new wr _) (by omega) (by simp; omega) ?_; intro g cap w3 hown3 hgrow hat hlt3; have hF4 := app_FB hFBr hown hgrow (Below.refl _ _) rfl; have hZ3 := own_grown (hownZ.alloc (.cells #[.int .i64 (-2000)] 3)) hgrow (fun gz hZ hgz => by obtain ⟨gb, hB1, hB2⟩ := row_of' hown hgz.symm; exact Hne.out gb gz hB1 hZ (by omega)); have hsz3 := hF4.2.1)
        | (refine wpl_app (by rfl) _ _ (by rfl) (w.heap.size + 1) Z k cz w3.heap.size (zeroL k) 0 (by rfl) (by rfl) (hZ3.alloc _) (cell_new w3 _) (by omega) (by simp; omega) ?_; intro g2 cap2 w5 hown5 hgrow5 hat5 hlt5; have hF6 := app_FB hF4 hZ3 hgrow5 (Below.refl _ _) rfl))
      have hgz : g ≠ g2 ∧ (∀ gz, Z = some ⟨gz, 0, none⟩ → g ≠ gz) := by
        have h1 : ∀ gz, Z = some ⟨gz, 0, none⟩ → g ≠ gz := by
          intro gz hZ
          rcases hat with h | h
          · exact Hne.out g gz h hZ
          · obtain ⟨_, hb⟩ := range_of hownZ gz hZ
            simp at h; omega
        refine ⟨?_, h1⟩
        rcases hat5 with h | h
        · exact h1 g2 h
        · simp at h; omega
      have hB5 := own_grown (hown3.alloc (.cells #[.int .i64 0] 3)) hgrow5 (fun gb hB1 hgb => by
        injection hB1 with hB1; injection hB1 with hB1 _
        obtain ⟨gz, hZ1, hZ2⟩ := row_of' hZ3 hgb.symm
        exact hgz.2 gz hZ1 (by omega))
      go_roundw
      case rel => exact ⟨k + 1, _, cap, _, cap2, by omega, by go_num, rfl, rfl, by rw [hs1.out]; exact hB5, by rw [hs2.out]; exact hown5, (fun a b h1 h2 => by injection h1 with h1; injection h1 with h1 _; injection h2 with h2; injection h2 with h2 _; have := hgz.1; omega), hF6⟩
      case measure => simp [intOf]; omega
    · obtain rfl : k = N := by omega
      have HR := hide (specRaiseVector_any k A n c v B k cr (lowL k) Z k cz (zeroL k) wr (hv.below hbelr (Nat.le_refl _)) hown.ints hownZ.ints)
      go_wp2_with fail
      refine HR.out.mono ?_
      rintro e w4 ⟨B', r, cr', rfl, hownR, hr, hb4⟩
      go_wp2
      go_ret2
      exact ⟨B', r, cr', rfl, hownR.less (by omega), hr, (hFBr.step hb4).1⟩
end Go.Proofs.Ytpdobkbnfphkfaa
