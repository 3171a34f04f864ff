/- The law FnExactCornersOf returns true for every input, and leaves its arguments as they were. No condition. -/
import Derived.Test.YtfmibekefllhjaaFrame
import Derived.Test.YtfmibekefllhjaaCorM
import Derived.Test.YtfmibekefllhjaaLawRows
import Derived.Test.YtfmibekefllhjaaLawKit
import Derived.Deep.RegionHeld3
namespace Go.Proofs.Ytfmibekefllhjaa.fnExactCornersOf
open Go.ChangeShapes Go.WideShapes Go.ChangeAt Go.RowKit Go.Joins
set_option maxHeartbeats 2000000 in
theorem walk (E0 : Int) (A0 : Option Addr) (n0 c0 : Nat) (x0 : List Int) (w : World) (h0 : Ints w A0 n0 x0) :
    Calls Try.prog 9 #[.agg #[.int .i64 E0, .slice A0 n0 c0]] w fun e w' => e = .returned (.bool true) ∧ Below w.heap.size w w' := by
  have hle0 := h0.le
  by_cases hn0 : n0 ≤ 1048576
  case neg =>
    go_enter Try.func9, Try.ntmps9
    go_wp2_with fail
    refine (szFunction_big E0 A0 n0 c0 _ (by omega) hle0).mono ?_
    rintro e w1 ⟨rfl, b1⟩
    go_wp2
    go_ret
    exact ⟨rfl, ((Below.refl w.heap.size w).alloc (Nat.le_refl _) (.cells #[.int .i64 E0, .slice A0 n0 c0] 24)).trans (b1.mono (by simp))⟩
  go_enter Try.func9, Try.ntmps9
  have B := Below.refl w.heap.size w
  have i0 := h0
  replace i0 := i0.alloc (.cells #[.int .i64 E0, .slice A0 n0 c0] 24)
  have qF0 : (w.alloc (.cells #[.int .i64 E0, .slice A0 n0 c0] 24)).cell? ⟨w.heap.size, 0, none⟩ = some (.int .i64 E0) := by rw [World.cell?_alloc_at _ _ _ _ rfl]; rfl
  have qF1 : (w.alloc (.cells #[.int .i64 E0, .slice A0 n0 c0] 24)).cell? ⟨w.heap.size, 1, none⟩ = some (.slice A0 n0 c0) := by rw [World.cell?_alloc_at _ _ _ _ rfl]; rfl
  have yF : w.heap.size < (w.alloc (.cells #[.int .i64 E0, .slice A0 n0 c0] 24)).heap.size := by simp
  replace B := B.alloc B.size (.cells #[.int .i64 E0, .slice A0 n0 c0] 24)
  have z1 : (w.alloc (.cells #[.int .i64 E0, .slice A0 n0 c0] 24)).heap.size = w.heap.size + 1 := by simp
  go_wp2_with fail
  refine (szFunction_ok E0 A0 n0 c0 (w.alloc (.cells #[.int .i64 E0, .slice A0 n0 c0] 24)) hn0).mono ?_
  rintro e w2 ⟨rfl, b2⟩
  have sb2 : (w.alloc (.cells #[.int .i64 E0, .slice A0 n0 c0] 24)).heap.size ≤ w2.heap.size := b2.size
  replace B := B.trans (b2.mono B.size)
  replace i0 := i0.below b2 (Nat.le_refl _)
  replace qF0 := (b2.cell (p := ⟨w.heap.size, 0, none⟩) yF).trans qF0
  replace qF1 := (b2.cell (p := ⟨w.heap.size, 1, none⟩) yF).trans qF1
  replace yF := Nat.lt_of_lt_of_le yF b2.size
  go_wp2_with fail
  refine (toFunction_any E0 A0 n0 c0 x0 w2 i0 hn0).mono ?_
  rintro e w3 ⟨gs0, rfl, os0, b3⟩
  have sb3 : w2.heap.size ≤ w3.heap.size := b3.size
  replace B := B.trans (b3.mono B.size)
  replace i0 := i0.below b3 (Nat.le_refl _)
  replace qF0 := (b3.cell (p := ⟨w.heap.size, 0, none⟩) yF).trans qF0
  replace qF1 := (b3.cell (p := ⟨w.heap.size, 1, none⟩) yF).trans qF1
  replace yF := Nat.lt_of_lt_of_le yF b3.size
  have rs0 := hide (Own.range os0)
  go_wp2_with fail
  refine (specCornersOf_any E0 (some ⟨gs0, 0, none⟩) n0 n0 x0 w3 os0.ints).mono ?_
  rintro e w4 ⟨AS, nS, cS, vS, rfl, pS, qS, zS, mS, b4⟩
  have oS := MOwnR.of ⟨pS, qS⟩
  clear pS qS
  have sb4 : w3.heap.size ≤ w4.heap.size := b4.size
  replace B := B.trans (b4.mono B.size)
  replace i0 := i0.below b4 (Nat.le_refl _)
  replace qF0 := (b4.cell (p := ⟨w.heap.size, 0, none⟩) yF).trans qF0
  replace qF1 := (b4.cell (p := ⟨w.heap.size, 1, none⟩) yF).trans qF1
  replace yF := Nat.lt_of_lt_of_le yF b4.size
  replace os0 := os0.below b4 (Nat.le_refl _)
  clear os0
  go_wp2_with fail
  refine (toFunction_any E0 A0 n0 c0 x0 w4 i0 hn0).mono ?_
  rintro e w5 ⟨gx0, rfl, ox0, b5⟩
  have sb5 : w4.heap.size ≤ w5.heap.size := b5.size
  replace B := B.trans (b5.mono B.size)
  replace i0 := i0.below b5 (Nat.le_refl _)
  replace qF0 := (b5.cell (p := ⟨w.heap.size, 0, none⟩) yF).trans qF0
  replace qF1 := (b5.cell (p := ⟨w.heap.size, 1, none⟩) yF).trans qF1
  replace yF := Nat.lt_of_lt_of_le yF b5.size
  replace oS := oS.below b5 (Nat.le_refl _)
  have rx0 := hide (Own.range ox0)
  replace qF0 := (World.cell?_alloc_past (w := w5) (.cells #[.int .i64 E0, .slice (some ⟨gx0, 0, none⟩) n0 n0] 27) (w.heap.size) 0 yF).trans qF0
  replace qF1 := (World.cell?_alloc_past (w := w5) (.cells #[.int .i64 E0, .slice (some ⟨gx0, 0, none⟩) n0 n0] 27) (w.heap.size) 1 yF).trans qF1
  replace yF : w.heap.size < (w5.alloc (.cells #[.int .i64 E0, .slice (some ⟨gx0, 0, none⟩) n0 n0] 27)).heap.size := by simp; omega
  replace i0 := i0.alloc (.cells #[.int .i64 E0, .slice (some ⟨gx0, 0, none⟩) n0 n0] 27)
  replace oS := oS.alloc (.cells #[.int .i64 E0, .slice (some ⟨gx0, 0, none⟩) n0 n0] 27)
  replace ox0 := ox0.alloc (.cells #[.int .i64 E0, .slice (some ⟨gx0, 0, none⟩) n0 n0] 27)
  have qX0 : (w5.alloc (.cells #[.int .i64 E0, .slice (some ⟨gx0, 0, none⟩) n0 n0] 27)).cell? ⟨w5.heap.size, 0, none⟩ = some (.int .i64 E0) := by rw [World.cell?_alloc_at _ _ _ _ rfl]; rfl
  have qX1 : (w5.alloc (.cells #[.int .i64 E0, .slice (some ⟨gx0, 0, none⟩) n0 n0] 27)).cell? ⟨w5.heap.size, 1, none⟩ = some (.slice (some ⟨gx0, 0, none⟩) n0 n0) := by rw [World.cell?_alloc_at _ _ _ _ rfl]; rfl
  have yX : w5.heap.size < (w5.alloc (.cells #[.int .i64 E0, .slice (some ⟨gx0, 0, none⟩) n0 n0] 27)).heap.size := by simp
  replace B := B.alloc B.size (.cells #[.int .i64 E0, .slice (some ⟨gx0, 0, none⟩) n0 n0] 27)
  have z6 : (w5.alloc (.cells #[.int .i64 E0, .slice (some ⟨gx0, 0, none⟩) n0 n0] 27)).heap.size = w5.heap.size + 1 := by simp
  go_wp2_with fail
  refine (cornersOf_any E0 (some ⟨gx0, 0, none⟩) n0 n0 x0 (w5.alloc (.cells #[.int .i64 E0, .slice (some ⟨gx0, 0, none⟩) n0 n0] 27)) ox0.ints).mono ?_
  rintro e w7 ⟨AG, nG, cG, vG, rfl, pG, qG, zG, mG, b7⟩
  have oG := MOwnR.of ⟨pG, qG⟩
  clear pG qG
  have sb7 : (w5.alloc (.cells #[.int .i64 E0, .slice (some ⟨gx0, 0, none⟩) n0 n0] 27)).heap.size ≤ w7.heap.size := b7.size
  replace B := B.trans (b7.mono B.size)
  replace i0 := i0.below b7 (Nat.le_refl _)
  replace qF0 := (b7.cell (p := ⟨w.heap.size, 0, none⟩) yF).trans qF0
  replace qF1 := (b7.cell (p := ⟨w.heap.size, 1, none⟩) yF).trans qF1
  replace yF := Nat.lt_of_lt_of_le yF b7.size
  replace qX0 := (b7.cell (p := ⟨w5.heap.size, 0, none⟩) yX).trans qX0
  replace qX1 := (b7.cell (p := ⟨w5.heap.size, 1, none⟩) yX).trans qX1
  replace yX := Nat.lt_of_lt_of_le yX b7.size
  replace oS := oS.below b7 (Nat.le_refl _)
  replace ox0 := ox0.below b7 (Nat.le_refl _)
  go_wp2_with fail
  refine (eqIntSS_any AG AS nG nS cG cS _ _ _ _ _ _ w7 oG.1 oS.1).mono ?_
  rintro e w8 ⟨rfl, b8⟩
  have sb8 : w7.heap.size ≤ w8.heap.size := b8.size
  replace B := B.trans (b8.mono B.size)
  replace i0 := i0.below b8 (Nat.le_refl _)
  replace qF0 := (b8.cell (p := ⟨w.heap.size, 0, none⟩) yF).trans qF0
  replace qF1 := (b8.cell (p := ⟨w.heap.size, 1, none⟩) yF).trans qF1
  replace yF := Nat.lt_of_lt_of_le yF b8.size
  replace qX0 := (b8.cell (p := ⟨w5.heap.size, 0, none⟩) yX).trans qX0
  replace qX1 := (b8.cell (p := ⟨w5.heap.size, 1, none⟩) yX).trans qX1
  replace yX := Nat.lt_of_lt_of_le yX b8.size
  replace oS := oS.below b8 (Nat.le_refl _)
  replace ox0 := ox0.below b8 (Nat.le_refl _)
  replace oG := oG.below b8 (Nat.le_refl _)
  go_wp2
  have od : Own w8.drew _ _ _ _ _ := ox0
  go_region_held3 (fun w' => w'.cell? ⟨w5.heap.size, 0, none⟩ = some (.int .i64 E0) ∧ w'.cell? ⟨w5.heap.size, 1, none⟩ = some (.slice (some ⟨gx0, 0, none⟩) n0 n0) ∧ w'.cell? ⟨w.heap.size, 0, none⟩ = some (.int .i64 E0) ∧ w'.cell? ⟨w.heap.size, 1, none⟩ = some (.slice A0 n0 c0))
    (first
      | go_keep
      | exact ⟨(b10.cell (p := ⟨w5.heap.size, 0, none⟩) (Nat.lt_of_lt_of_le yX b9.size)).trans ((b9.cell (p := ⟨w5.heap.size, 0, none⟩) yX).trans qX0), (b10.cell (p := ⟨w5.heap.size, 1, none⟩) (Nat.lt_of_lt_of_le yX b9.size)).trans ((b9.cell (p := ⟨w5.heap.size, 1, none⟩) yX).trans qX1), (b10.cell (p := ⟨w.heap.size, 0, none⟩) (Nat.lt_of_lt_of_le yF b9.size)).trans ((b9.cell (p := ⟨w.heap.size, 0, none⟩) yF).trans qF0), (b10.cell (p := ⟨w.heap.size, 1, none⟩) (Nat.lt_of_lt_of_le yF b9.size)).trans ((b9.cell (p := ⟨w.heap.size, 1, none⟩) yF).trans qF1)⟩
      | exact ⟨(b9.cell (p := ⟨w5.heap.size, 0, none⟩) yX).trans qX0, (b9.cell (p := ⟨w5.heap.size, 1, none⟩) yX).trans qX1, (b9.cell (p := ⟨w.heap.size, 0, none⟩) yF).trans qF0, (b9.cell (p := ⟨w.heap.size, 1, none⟩) yF).trans qF1⟩)
    (first
      | (go_at_call 12; refine (toFunction_any E0 A0 n0 c0 x0 _ i0.drew hn0).mono ?_; rintro e w9 ⟨gt, rfl, ot, b9⟩)
      | (go_at_call 14; refine (eqFunction_any E0 E0 _ _ n0 n0 n0 n0 x0 x0 _ (od.below b9 (Nat.le_refl _)).ints ot.ints).mono ?_; rintro e w10 ⟨rfl, b10⟩))
  replace B : Below w.heap.size w w8.drew := B.drew
  replace i0 : Ints w8.drew A0 n0 x0 := i0
  replace oS := MOwnR.drew oS
  replace ox0 : Own w8.drew _ _ _ _ _ := ox0
  replace oG := MOwnR.drew oG
  have sb9 : w8.heap.size ≤ w9.heap.size := b9.size
  replace B := B.trans (b9.mono B.size)
  replace i0 := i0.below b9 (Nat.le_refl _)
  replace qF0 := (b9.cell (p := ⟨w.heap.size, 0, none⟩) yF).trans qF0
  replace qF1 := (b9.cell (p := ⟨w.heap.size, 1, none⟩) yF).trans qF1
  replace yF := Nat.lt_of_lt_of_le yF b9.size
  replace qX0 := (b9.cell (p := ⟨w5.heap.size, 0, none⟩) yX).trans qX0
  replace qX1 := (b9.cell (p := ⟨w5.heap.size, 1, none⟩) yX).trans qX1
  replace yX := Nat.lt_of_lt_of_le yX b9.size
  replace oS := oS.below b9 (Nat.le_refl _)
  replace ox0 := ox0.below b9 (Nat.le_refl _)
  replace oG := oG.below b9 (Nat.le_refl _)
  have sb10 : w9.heap.size ≤ w10.heap.size := b10.size
  replace B := B.trans (b10.mono B.size)
  replace i0 := i0.below b10 (Nat.le_refl _)
  replace qF0 := (b10.cell (p := ⟨w.heap.size, 0, none⟩) yF).trans qF0
  replace qF1 := (b10.cell (p := ⟨w.heap.size, 1, none⟩) yF).trans qF1
  replace yF := Nat.lt_of_lt_of_le yF b10.size
  replace qX0 := (b10.cell (p := ⟨w5.heap.size, 0, none⟩) yX).trans qX0
  replace qX1 := (b10.cell (p := ⟨w5.heap.size, 1, none⟩) yX).trans qX1
  replace yX := Nat.lt_of_lt_of_le yX b10.size
  replace oS := oS.below b10 (Nat.le_refl _)
  replace ox0 := ox0.below b10 (Nat.le_refl _)
  replace oG := oG.below b10 (Nat.le_refl _)
  clear od ot
  go_wp2_with fail
  refine (markFunction_any _ E0 (some ⟨gx0, 0, none⟩) n0 n0 x0 _ w10 ox0 hn0 (by omega) (by omega)).mono ?_
  rintro e w11 ⟨rfl, tx0, b11⟩
  have s11 := b11.size
  replace B := B.grown b11 B.size (fun k hk => by
    obtain ⟨g, hA, rfl⟩ := row_of ox0 hk; have := rx0.out g hA; omega)
  replace i0 := h0.below B (Nat.le_refl _)
  replace qF0 := (World.cell?_of_block (a := ⟨w.heap.size, 0, none⟩) (b11.block w.heap.size yF (fun hk => by obtain ⟨g, hA, hg⟩ := row_of ox0 hk.symm; have := rx0.out g hA; have hg2 : g = w.heap.size := hg; omega))).trans qF0
  replace qF1 := (World.cell?_of_block (a := ⟨w.heap.size, 1, none⟩) (b11.block w.heap.size yF (fun hk => by obtain ⟨g, hA, hg⟩ := row_of ox0 hk.symm; have := rx0.out g hA; have hg2 : g = w.heap.size := hg; omega))).trans qF1
  replace yF := Nat.lt_of_lt_of_le yF b11.size
  replace qX0 := (World.cell?_of_block (a := ⟨w5.heap.size, 0, none⟩) (b11.block w5.heap.size yX (fun hk => by obtain ⟨g, hA, hg⟩ := row_of ox0 hk.symm; have := rx0.out g hA; have hg2 : g = w5.heap.size := hg; omega))).trans qX0
  replace qX1 := (World.cell?_of_block (a := ⟨w5.heap.size, 1, none⟩) (b11.block w5.heap.size yX (fun hk => by obtain ⟨g, hA, hg⟩ := row_of ox0 hk.symm; have := rx0.out g hA; have hg2 : g = w5.heap.size := hg; omega))).trans qX1
  replace yX := Nat.lt_of_lt_of_le yX b11.size
  replace oS := oS.keep (fun b h1 h2 _ => b11.block b (by omega) (fun hk => by obtain ⟨g2, hA2, rfl⟩ := row_of ox0 hk.symm; have := rx0.out _ hA2; omega))
  replace oG := oG.keep (fun b h1 h2 _ => b11.block b (by omega) (fun hk => by obtain ⟨g2, hA2, rfl⟩ := row_of ox0 hk.symm; have := rx0.out _ hA2; omega))
  clear ox0 tx0
  clear qX0 qX1 yX
  go_wp2_with fail
  refine (eqIntSS_any AG AS nG nS cG cS _ _ _ _ _ _ w11 oG.1 oS.1).mono ?_
  rintro e w12 ⟨rfl, b12⟩
  have sb12 : w11.heap.size ≤ w12.heap.size := b12.size
  replace B := B.trans (b12.mono B.size)
  replace i0 := i0.below b12 (Nat.le_refl _)
  replace qF0 := (b12.cell (p := ⟨w.heap.size, 0, none⟩) yF).trans qF0
  replace qF1 := (b12.cell (p := ⟨w.heap.size, 1, none⟩) yF).trans qF1
  replace yF := Nat.lt_of_lt_of_le yF b12.size
  replace oS := oS.below b12 (Nat.le_refl _)
  replace oG := oG.below b12 (Nat.le_refl _)
  go_wp2_with fail
  have hCL := hide (cornersL_len E0 x0)
  have hn24 := hide (show nG ≤ 1024 by rw [oG.1.len]; exact Nat.le_trans (cornersL_le E0 x0) (by omega))
  refine (markIntSS_any _ AG nG cG vG _ w12 oG.1 zG hn24.out hCL.out).mono ?_
  rintro e w13 ⟨rfl, oM, b13⟩
  have s13 := b13.size
  have hG := hide oG.3
  replace qF0 := (World.cell?_of_block (a := ⟨w.heap.size, 0, none⟩) (b13.block w.heap.size yF (fun u hu hk => by have := hG.out u hu _ hk; omega))).trans qF0
  replace qF1 := (World.cell?_of_block (a := ⟨w.heap.size, 1, none⟩) (b13.block w.heap.size yF (fun u hu hk => by have := hG.out u hu _ hk; omega))).trans qF1
  replace B := Below.onlyV B b13 (fun u hu g hk => by have := hG.out u hu g hk; omega) B.size
  replace i0 := h0.below B (Nat.le_refl _)
  replace yF := Nat.lt_of_lt_of_le yF b13.size
  replace oS := oS.keep (fun b h1 h2 _ => b13.block b (by omega) (fun u hu hk => by have := hG.out u hu _ hk; omega))
  clear oG
  have oG := MOwnR.of oM
  clear oM
  go_wp2_with fail
  refine (heldIntSS_any _ AG nG cG vG _ w13 oG.1 hn24.out hCL.out).mono ?_
  rintro e w' ⟨rfl, rfl⟩
  go_wp2_with fail
  refine (toFunction_any E0 A0 n0 c0 x0 w13 i0 hn0).mono ?_
  rintro e w14 ⟨gh0, rfl, oh0, b14⟩
  have sb14 : w13.heap.size ≤ w14.heap.size := b14.size
  replace B := B.trans (b14.mono B.size)
  replace i0 := i0.below b14 (Nat.le_refl _)
  replace qF0 := (b14.cell (p := ⟨w.heap.size, 0, none⟩) yF).trans qF0
  replace qF1 := (b14.cell (p := ⟨w.heap.size, 1, none⟩) yF).trans qF1
  replace yF := Nat.lt_of_lt_of_le yF b14.size
  replace oS := oS.below b14 (Nat.le_refl _)
  replace oG := oG.below b14 (Nat.le_refl _)
  have rh0 := hide (Own.range oh0)
  go_wp2_with fail
  refine (cornersOf_any E0 (some ⟨gh0, 0, none⟩) n0 n0 x0 w14 oh0.ints).mono ?_
  rintro e w15 ⟨AH, nH, cH, vH, rfl, pH, qH, zH, mH, b15⟩
  have oH := MOwnR.of ⟨pH, qH⟩
  clear pH qH
  have sb15 : w14.heap.size ≤ w15.heap.size := b15.size
  replace B := B.trans (b15.mono B.size)
  replace i0 := i0.below b15 (Nat.le_refl _)
  replace qF0 := (b15.cell (p := ⟨w.heap.size, 0, none⟩) yF).trans qF0
  replace qF1 := (b15.cell (p := ⟨w.heap.size, 1, none⟩) yF).trans qF1
  replace yF := Nat.lt_of_lt_of_le yF b15.size
  replace oS := oS.below b15 (Nat.le_refl _)
  replace oG := oG.below b15 (Nat.le_refl _)
  replace oh0 := oh0.below b15 (Nat.le_refl _)
  go_wp2_with fail
  refine (eqIntSS_any AH AS nH nS cH cS _ _ _ _ _ _ w15 oH.1 oS.1).mono ?_
  rintro e w16 ⟨rfl, b16⟩
  have sb16 : w15.heap.size ≤ w16.heap.size := b16.size
  replace B := B.trans (b16.mono B.size)
  replace i0 := i0.below b16 (Nat.le_refl _)
  replace qF0 := (b16.cell (p := ⟨w.heap.size, 0, none⟩) yF).trans qF0
  replace qF1 := (b16.cell (p := ⟨w.heap.size, 1, none⟩) yF).trans qF1
  replace yF := Nat.lt_of_lt_of_le yF b16.size
  replace oS := oS.below b16 (Nat.le_refl _)
  replace oG := oG.below b16 (Nat.le_refl _)
  replace oh0 := oh0.below b16 (Nat.le_refl _)
  replace oH := oH.below b16 (Nat.le_refl _)
  go_wp2_with fail
  refine (heldIntSS_any _ AG nG cG vG _ w16 oG.1 hn24.out hCL.out).mono ?_
  rintro e w' ⟨rfl, rfl⟩
  go_wp2
  go_ret
  exact ⟨rfl, B⟩

set_option maxRecDepth 100000 in
theorem lifted (os : Os) (started : os.Started) (H : Type) (enc : TypeId × Value → H) :
    ReturnsInHanded {} Try.checked os 9 .any (Rows.fnExactCornersOfSpec.pre6 enc Try.prog Try.f9 Rows.fnExactCornersOfRow.domain false) (Rows.fnExactCornersOfSpec.post enc Try.prog Try.f9 false true false false) := by
  refine returnsInHanded_of_change (C := Try.checked) own_knob started (by kernel_rfl) Try.func9
    (ChangeSpec.witness6 (enc := enc) (C := Try.checked) false ⟨#[], #[.agg #[.int .i64 0, .slice none 0 0]], []⟩ 8 (by kernel_rfl) (by kernel_rfl) (by kernel_rfl) (by kernel_rfl)) ?_
  intro W base args ds gs before hval0 hW _ _
  have hval : ∀ (j : Nat) t v, Try.f9.params[j]? = some t → args[j]? = some v → Value.okWide Try.prog W .any base t v := hval0
  have hW' := hW
  obtain ⟨p, q, hA0, hV, rfl, _, _⟩ := hW
  have hA : DataW.TrodAll enc Try.prog W 0 (fun _ => true) true Try.f9.params.toList args.toList ds p := hA0
  rw [Try.params9] at hA hval
  obtain ⟨v0, vs0, d0, ds0, p0, q0, hargs, rfl, rfl, k0, r0⟩ := trodAll_cons hA
  obtain ⟨rfl, rfl, rfl⟩ := trodAll_nil r0
  obtain rfl : args = #[v0] := by cases args; simp_all
  obtain ⟨rfl, rfl⟩ := trodVars_none hV
  obtain ⟨E0, A0, n0, c0, x0, rfl, h0⟩ := open_fun (hval 0 24 v0 rfl rfl) k0
  have lt0 : ∀ x ∈ p0, x.block < W.heap.size := by obtain ⟨m, hm⟩ := k0; exact DataW.trod_lt m _ _ _ hm
  clear hA0 hval0
  refine (walk E0 A0 n0 c0 x0 W h0).mono fun e W' ⟨he, bel⟩ => ?_
  subst he
  exact ⟨_, rfl, _, _, _, [], _, [], hW', trodAll_mk1 (shut_bool Try.underlying4 _), (trodAll_cons_mk (Below.trod laid_out (by kernel_rfl) (of_decide_eq_true (by kernel_rfl)) k0 bel lt0) trodAll_mk0), rfl, bel.frame _, fun h => by cases h⟩

theorem over : Rows.fnExactCornersOfRow.holds Try.pinned (OpenSpec.ofChange Rows.fnExactCornersOfSpec) :=
  OpenClaim.holds_of_wide 9 Try.f9 rfl rfl rfl rfl rfl rfl rfl ⟨rfl, rfl, rfl, rfl, rfl⟩ rfl rfl rfl rfl rfl (by kernel_rfl) Try.func9 (by kernel_rfl)
    (of_decide_eq_true (by kernel_rfl)) (by unfold Func.isWrapper; first | (rw [if_pos (by decide +kernel)]; kernel_rfl) | (rw [if_neg (by decide +kernel)]; exact ⟨rfl, rfl⟩))
    (fun os started H enc _ => lifted os started H enc)

theorem proved : Rows.FnExactCornersOfSaid := over
#print axioms proved
end Go.Proofs.Ytfmibekefllhjaa.fnExactCornersOf
