/- The law FnExactMinimumFor returns true for every input, and leaves its arguments as they were. No condition. -/
import Derived.Test.YtpdobkbnfphkfaaFrame
import Derived.Test.YtpdobkbnfphkfaaLin2
import Derived.Test.YtpdobkbnfphkfaaLawKit
import Derived.Deep.RegionHeld3
namespace Go.Proofs.Ytpdobkbnfphkfaa.fnExactMinimumFor
open Go.ChangeShapes Go.WideShapes Go.ChangeAt Go.RowKit Go.Joins
set_option maxHeartbeats 1000000 in
theorem walk (E0 : Int) (A0 : Option Addr) (n0 c0 : Nat) (x0 : List Int) (A1 : Option Addr) (n1 c1 : Nat) (x1 : List Int) (w : World) (h0 : Ints w A0 n0 x0) (h1 : Ints w A1 n1 x1) :
    Calls Try.prog 10 #[.agg #[.int .i64 E0, .slice A0 n0 c0], .slice A1 n1 c1] w fun e w' => e = .returned (.bool true) ∧ Below w.heap.size w w' := by
  have hle0 := h0.le
  have hle1 := h1.le
  by_cases hn1 : n1 ≤ 1048576
  case neg =>
    go_enter Try.func10, Try.ntmps10
    go_wp2
    go_ret
    exact ⟨rfl, ((Below.refl w.heap.size w).alloc (Nat.le_refl _) (.cells #[.int .i64 E0, .slice A0 n0 c0] 24))⟩
  by_cases hn0 : n0 ≤ 1048576
  case neg =>
    go_enter Try.func10, Try.ntmps10
    go_wp2_with fail
    refine (szFunction_big E0 A0 n0 c0 _ (by omega) hle0).mono ?_
    rintro e w1 ⟨rfl, b1⟩
    go_wp2
    go_ret
    exact ⟨rfl, ((Below.refl w.heap.size w).alloc (Nat.le_refl _) (.cells #[.int .i64 E0, .slice A0 n0 c0] 24)).trans (b1.mono (by simp))⟩
  go_enter Try.func10, Try.ntmps10
  have B := Below.refl w.heap.size w
  have i0 := h0
  have i1 := h1
  replace i0 := i0.alloc (.cells #[.int .i64 E0, .slice A0 n0 c0] 24)
  replace i1 := i1.alloc (.cells #[.int .i64 E0, .slice A0 n0 c0] 24)
  have qF0 : (w.alloc (.cells #[.int .i64 E0, .slice A0 n0 c0] 24)).cell? ⟨w.heap.size, 0, none⟩ = some (.int .i64 E0) := by rw [World.cell?_alloc_at _ _ _ _ rfl]; rfl
  have qF1 : (w.alloc (.cells #[.int .i64 E0, .slice A0 n0 c0] 24)).cell? ⟨w.heap.size, 1, none⟩ = some (.slice A0 n0 c0) := by rw [World.cell?_alloc_at _ _ _ _ rfl]; rfl
  have yF : w.heap.size < (w.alloc (.cells #[.int .i64 E0, .slice A0 n0 c0] 24)).heap.size := by simp
  replace B := B.alloc B.size (.cells #[.int .i64 E0, .slice A0 n0 c0] 24)
  have z1 : (w.alloc (.cells #[.int .i64 E0, .slice A0 n0 c0] 24)).heap.size = w.heap.size + 1 := by simp
  go_wp2_with fail
  refine (szFunction_ok E0 A0 n0 c0 (w.alloc (.cells #[.int .i64 E0, .slice A0 n0 c0] 24)) hn0).mono ?_
  rintro e w2 ⟨rfl, b2⟩
  have sb2 : (w.alloc (.cells #[.int .i64 E0, .slice A0 n0 c0] 24)).heap.size ≤ w2.heap.size := b2.size
  replace B := B.trans (b2.mono B.size)
  replace i0 := i0.below b2 (Nat.le_refl _)
  replace i1 := i1.below b2 (Nat.le_refl _)
  replace qF0 := (b2.cell (p := ⟨w.heap.size, 0, none⟩) yF).trans qF0
  replace qF1 := (b2.cell (p := ⟨w.heap.size, 1, none⟩) yF).trans qF1
  replace yF := Nat.lt_of_lt_of_le yF b2.size
  go_wp2_with fail
  refine (toFunction_any E0 A0 n0 c0 x0 w2 i0 hn0).mono ?_
  rintro e w3 ⟨gs0, rfl, os0, b3⟩
  have sb3 : w2.heap.size ≤ w3.heap.size := b3.size
  replace B := B.trans (b3.mono B.size)
  replace i0 := i0.below b3 (Nat.le_refl _)
  replace i1 := i1.below b3 (Nat.le_refl _)
  replace qF0 := (b3.cell (p := ⟨w.heap.size, 0, none⟩) yF).trans qF0
  replace qF1 := (b3.cell (p := ⟨w.heap.size, 1, none⟩) yF).trans qF1
  replace yF := Nat.lt_of_lt_of_le yF b3.size
  have rs0 := hide (Own.range os0)
  go_wp2_with fail
  refine (toIntS_any A1 n1 c1 x1 w3 i1 hn1).mono ?_
  rintro e w4 ⟨rfl, os1, b4⟩
  have sb4 : w3.heap.size ≤ w4.heap.size := b4.size
  replace B := B.trans (b4.mono B.size)
  replace i0 := i0.below b4 (Nat.le_refl _)
  replace i1 := i1.below b4 (Nat.le_refl _)
  replace qF0 := (b4.cell (p := ⟨w.heap.size, 0, none⟩) yF).trans qF0
  replace qF1 := (b4.cell (p := ⟨w.heap.size, 1, none⟩) yF).trans qF1
  replace yF := Nat.lt_of_lt_of_le yF b4.size
  replace os0 := os0.below b4 (Nat.le_refl _)
  have rs1 := hide (Own.range os1)
  go_wp2_with fail
  refine (specMinimumFor_any E0 (some ⟨gs0, 0, none⟩) n0 n0 x0 (some ⟨w3.heap.size, 0, none⟩) n1 n1 x1 w4 os0.ints os1.ints).mono ?_
  rintro e w5 ⟨AS, nS, cS, rfl, oS, mS, b5⟩
  have sb5 : w4.heap.size ≤ w5.heap.size := b5.size
  replace B := B.trans (b5.mono B.size)
  replace i0 := i0.below b5 (Nat.le_refl _)
  replace i1 := i1.below b5 (Nat.le_refl _)
  replace qF0 := (b5.cell (p := ⟨w.heap.size, 0, none⟩) yF).trans qF0
  replace qF1 := (b5.cell (p := ⟨w.heap.size, 1, none⟩) yF).trans qF1
  replace yF := Nat.lt_of_lt_of_le yF b5.size
  replace os0 := os0.below b5 (Nat.le_refl _)
  replace os1 := os1.below b5 (Nat.le_refl _)
  have rS := hide (Own.range oS)
  clear os0 os1
  go_wp2_with fail
  refine (toFunction_any E0 A0 n0 c0 x0 w5 i0 hn0).mono ?_
  rintro e w6 ⟨gx0, rfl, ox0, b6⟩
  have sb6 : w5.heap.size ≤ w6.heap.size := b6.size
  replace B := B.trans (b6.mono B.size)
  replace i0 := i0.below b6 (Nat.le_refl _)
  replace i1 := i1.below b6 (Nat.le_refl _)
  replace qF0 := (b6.cell (p := ⟨w.heap.size, 0, none⟩) yF).trans qF0
  replace qF1 := (b6.cell (p := ⟨w.heap.size, 1, none⟩) yF).trans qF1
  replace yF := Nat.lt_of_lt_of_le yF b6.size
  replace oS := oS.below b6 (Nat.le_refl _)
  have rx0 := hide (Own.range ox0)
  replace qF0 := (World.cell?_alloc_past (w := w6) (.cells #[.int .i64 E0, .slice (some ⟨gx0, 0, none⟩) n0 n0] 28) (w.heap.size) 0 yF).trans qF0
  replace qF1 := (World.cell?_alloc_past (w := w6) (.cells #[.int .i64 E0, .slice (some ⟨gx0, 0, none⟩) n0 n0] 28) (w.heap.size) 1 yF).trans qF1
  replace yF : w.heap.size < (w6.alloc (.cells #[.int .i64 E0, .slice (some ⟨gx0, 0, none⟩) n0 n0] 28)).heap.size := by simp; omega
  replace i0 := i0.alloc (.cells #[.int .i64 E0, .slice (some ⟨gx0, 0, none⟩) n0 n0] 28)
  replace i1 := i1.alloc (.cells #[.int .i64 E0, .slice (some ⟨gx0, 0, none⟩) n0 n0] 28)
  replace oS := oS.alloc (.cells #[.int .i64 E0, .slice (some ⟨gx0, 0, none⟩) n0 n0] 28)
  replace ox0 := ox0.alloc (.cells #[.int .i64 E0, .slice (some ⟨gx0, 0, none⟩) n0 n0] 28)
  have qX0 : (w6.alloc (.cells #[.int .i64 E0, .slice (some ⟨gx0, 0, none⟩) n0 n0] 28)).cell? ⟨w6.heap.size, 0, none⟩ = some (.int .i64 E0) := by rw [World.cell?_alloc_at _ _ _ _ rfl]; rfl
  have qX1 : (w6.alloc (.cells #[.int .i64 E0, .slice (some ⟨gx0, 0, none⟩) n0 n0] 28)).cell? ⟨w6.heap.size, 1, none⟩ = some (.slice (some ⟨gx0, 0, none⟩) n0 n0) := by rw [World.cell?_alloc_at _ _ _ _ rfl]; rfl
  have yX : w6.heap.size < (w6.alloc (.cells #[.int .i64 E0, .slice (some ⟨gx0, 0, none⟩) n0 n0] 28)).heap.size := by simp
  replace B := B.alloc B.size (.cells #[.int .i64 E0, .slice (some ⟨gx0, 0, none⟩) n0 n0] 28)
  have z7 : (w6.alloc (.cells #[.int .i64 E0, .slice (some ⟨gx0, 0, none⟩) n0 n0] 28)).heap.size = w6.heap.size + 1 := by simp
  go_wp2_with fail
  refine (toIntS_any A1 n1 c1 x1 (w6.alloc (.cells #[.int .i64 E0, .slice (some ⟨gx0, 0, none⟩) n0 n0] 28)) i1 hn1).mono ?_
  rintro e w8 ⟨rfl, ox1, b8⟩
  rw [show (w6.alloc (.cells #[.int .i64 E0, .slice (some ⟨gx0, 0, none⟩) n0 n0] 28)).heap.size = w6.heap.size + 1 by simp] at ox1
  have sb8 : (w6.alloc (.cells #[.int .i64 E0, .slice (some ⟨gx0, 0, none⟩) n0 n0] 28)).heap.size ≤ w8.heap.size := b8.size
  replace B := B.trans (b8.mono B.size)
  replace i0 := i0.below b8 (Nat.le_refl _)
  replace i1 := i1.below b8 (Nat.le_refl _)
  replace qF0 := (b8.cell (p := ⟨w.heap.size, 0, none⟩) yF).trans qF0
  replace qF1 := (b8.cell (p := ⟨w.heap.size, 1, none⟩) yF).trans qF1
  replace yF := Nat.lt_of_lt_of_le yF b8.size
  replace qX0 := (b8.cell (p := ⟨w6.heap.size, 0, none⟩) yX).trans qX0
  replace qX1 := (b8.cell (p := ⟨w6.heap.size, 1, none⟩) yX).trans qX1
  replace yX := Nat.lt_of_lt_of_le yX b8.size
  replace oS := oS.below b8 (Nat.le_refl _)
  replace ox0 := ox0.below b8 (Nat.le_refl _)
  have rx1 := hide (Own.range ox1)
  go_wp2_with fail
  refine (minimumFor_any E0 (some ⟨gx0, 0, none⟩) n0 n0 x0 (some ⟨w6.heap.size + 1, 0, none⟩) n1 n1 x1 w8 ox0.ints ox1.ints).mono ?_
  rintro e w9 ⟨AG, nG, cG, rfl, oG, mG, b9⟩
  have sb9 : w8.heap.size ≤ w9.heap.size := b9.size
  replace B := B.trans (b9.mono B.size)
  replace i0 := i0.below b9 (Nat.le_refl _)
  replace i1 := i1.below b9 (Nat.le_refl _)
  replace qF0 := (b9.cell (p := ⟨w.heap.size, 0, none⟩) yF).trans qF0
  replace qF1 := (b9.cell (p := ⟨w.heap.size, 1, none⟩) yF).trans qF1
  replace yF := Nat.lt_of_lt_of_le yF b9.size
  replace qX0 := (b9.cell (p := ⟨w6.heap.size, 0, none⟩) yX).trans qX0
  replace qX1 := (b9.cell (p := ⟨w6.heap.size, 1, none⟩) yX).trans qX1
  replace yX := Nat.lt_of_lt_of_le yX b9.size
  replace oS := oS.below b9 (Nat.le_refl _)
  replace ox0 := ox0.below b9 (Nat.le_refl _)
  replace ox1 := ox1.below b9 (Nat.le_refl _)
  have rG := hide (Own.range oG)
  go_wp2_with fail
  refine (eqIntS_any AG AS nG nS cG cS _ _ w9 oG.ints oS.ints).mono ?_
  rintro e w10 ⟨rfl, b10⟩
  have sb10 : w9.heap.size ≤ w10.heap.size := b10.size
  replace B := B.trans (b10.mono B.size)
  replace i0 := i0.below b10 (Nat.le_refl _)
  replace i1 := i1.below b10 (Nat.le_refl _)
  replace qF0 := (b10.cell (p := ⟨w.heap.size, 0, none⟩) yF).trans qF0
  replace qF1 := (b10.cell (p := ⟨w.heap.size, 1, none⟩) yF).trans qF1
  replace yF := Nat.lt_of_lt_of_le yF b10.size
  replace qX0 := (b10.cell (p := ⟨w6.heap.size, 0, none⟩) yX).trans qX0
  replace qX1 := (b10.cell (p := ⟨w6.heap.size, 1, none⟩) yX).trans qX1
  replace yX := Nat.lt_of_lt_of_le yX b10.size
  replace oS := oS.below b10 (Nat.le_refl _)
  replace ox0 := ox0.below b10 (Nat.le_refl _)
  replace ox1 := ox1.below b10 (Nat.le_refl _)
  replace oG := oG.below b10 (Nat.le_refl _)
  go_wp2
  have od : Own w10.drew _ _ _ _ _ := ox0
  go_region_held3 (fun w' => w'.cell? ⟨w6.heap.size, 0, none⟩ = some (.int .i64 E0) ∧ w'.cell? ⟨w6.heap.size, 1, none⟩ = some (.slice (some ⟨gx0, 0, none⟩) n0 n0) ∧ w'.cell? ⟨w.heap.size, 0, none⟩ = some (.int .i64 E0) ∧ w'.cell? ⟨w.heap.size, 1, none⟩ = some (.slice A0 n0 c0))
    (first
      | go_keep
      | exact ⟨(b12.cell (p := ⟨w6.heap.size, 0, none⟩) (Nat.lt_of_lt_of_le yX b11.size)).trans ((b11.cell (p := ⟨w6.heap.size, 0, none⟩) yX).trans qX0), (b12.cell (p := ⟨w6.heap.size, 1, none⟩) (Nat.lt_of_lt_of_le yX b11.size)).trans ((b11.cell (p := ⟨w6.heap.size, 1, none⟩) yX).trans qX1), (b12.cell (p := ⟨w.heap.size, 0, none⟩) (Nat.lt_of_lt_of_le yF b11.size)).trans ((b11.cell (p := ⟨w.heap.size, 0, none⟩) yF).trans qF0), (b12.cell (p := ⟨w.heap.size, 1, none⟩) (Nat.lt_of_lt_of_le yF b11.size)).trans ((b11.cell (p := ⟨w.heap.size, 1, none⟩) yF).trans qF1)⟩
      | exact ⟨(b11.cell (p := ⟨w6.heap.size, 0, none⟩) yX).trans qX0, (b11.cell (p := ⟨w6.heap.size, 1, none⟩) yX).trans qX1, (b11.cell (p := ⟨w.heap.size, 0, none⟩) yF).trans qF0, (b11.cell (p := ⟨w.heap.size, 1, none⟩) yF).trans qF1⟩)
    (first
      | (go_at_call 14; refine (toFunction_any E0 A0 n0 c0 x0 _ i0.drew hn0).mono ?_; rintro e w11 ⟨gt, rfl, ot, b11⟩)
      | (go_at_call 17; refine (eqFunction_any E0 E0 _ _ n0 n0 n0 n0 x0 x0 _ (od.below b11 (Nat.le_refl _)).ints ot.ints).mono ?_; rintro e w12 ⟨rfl, b12⟩))
  replace B : Below w.heap.size w w10.drew := B.drew
  replace i0 : Ints w10.drew A0 n0 x0 := i0
  replace i1 : Ints w10.drew A1 n1 x1 := i1
  replace oS : Own w10.drew _ _ _ _ _ := oS
  replace ox0 : Own w10.drew _ _ _ _ _ := ox0
  replace ox1 : Own w10.drew _ _ _ _ _ := ox1
  replace oG : Own w10.drew _ _ _ _ _ := oG
  have sb11 : w10.heap.size ≤ w11.heap.size := b11.size
  replace B := B.trans (b11.mono B.size)
  replace i0 := i0.below b11 (Nat.le_refl _)
  replace i1 := i1.below b11 (Nat.le_refl _)
  replace qF0 := (b11.cell (p := ⟨w.heap.size, 0, none⟩) yF).trans qF0
  replace qF1 := (b11.cell (p := ⟨w.heap.size, 1, none⟩) yF).trans qF1
  replace yF := Nat.lt_of_lt_of_le yF b11.size
  replace qX0 := (b11.cell (p := ⟨w6.heap.size, 0, none⟩) yX).trans qX0
  replace qX1 := (b11.cell (p := ⟨w6.heap.size, 1, none⟩) yX).trans qX1
  replace yX := Nat.lt_of_lt_of_le yX b11.size
  replace oS := oS.below b11 (Nat.le_refl _)
  replace ox0 := ox0.below b11 (Nat.le_refl _)
  replace ox1 := ox1.below b11 (Nat.le_refl _)
  replace oG := oG.below b11 (Nat.le_refl _)
  have sb12 : w11.heap.size ≤ w12.heap.size := b12.size
  replace B := B.trans (b12.mono B.size)
  replace i0 := i0.below b12 (Nat.le_refl _)
  replace i1 := i1.below b12 (Nat.le_refl _)
  replace qF0 := (b12.cell (p := ⟨w.heap.size, 0, none⟩) yF).trans qF0
  replace qF1 := (b12.cell (p := ⟨w.heap.size, 1, none⟩) yF).trans qF1
  replace yF := Nat.lt_of_lt_of_le yF b12.size
  replace qX0 := (b12.cell (p := ⟨w6.heap.size, 0, none⟩) yX).trans qX0
  replace qX1 := (b12.cell (p := ⟨w6.heap.size, 1, none⟩) yX).trans qX1
  replace yX := Nat.lt_of_lt_of_le yX b12.size
  replace oS := oS.below b12 (Nat.le_refl _)
  replace ox0 := ox0.below b12 (Nat.le_refl _)
  replace ox1 := ox1.below b12 (Nat.le_refl _)
  replace oG := oG.below b12 (Nat.le_refl _)
  clear od ot
  go_wp2_with fail
  refine (toIntS_any A1 n1 c1 x1 w12 i1 hn1).mono ?_
  rintro e w13 ⟨rfl, ot, b13⟩
  have sb13 : w12.heap.size ≤ w13.heap.size := b13.size
  replace B := B.trans (b13.mono B.size)
  replace i0 := i0.below b13 (Nat.le_refl _)
  replace i1 := i1.below b13 (Nat.le_refl _)
  replace qF0 := (b13.cell (p := ⟨w.heap.size, 0, none⟩) yF).trans qF0
  replace qF1 := (b13.cell (p := ⟨w.heap.size, 1, none⟩) yF).trans qF1
  replace yF := Nat.lt_of_lt_of_le yF b13.size
  replace qX0 := (b13.cell (p := ⟨w6.heap.size, 0, none⟩) yX).trans qX0
  replace qX1 := (b13.cell (p := ⟨w6.heap.size, 1, none⟩) yX).trans qX1
  replace yX := Nat.lt_of_lt_of_le yX b13.size
  replace oS := oS.below b13 (Nat.le_refl _)
  replace ox0 := ox0.below b13 (Nat.le_refl _)
  replace ox1 := ox1.below b13 (Nat.le_refl _)
  replace oG := oG.below b13 (Nat.le_refl _)
  have rt := hide (Own.range ot)
  go_wp2_with fail
  refine (eqIntS_any (some ⟨w6.heap.size + 1, 0, none⟩) (some ⟨w12.heap.size, 0, none⟩) n1 n1 n1 n1 x1 x1 w13 ox1.ints ot.ints).mono ?_
  rintro e w14 ⟨rfl, b14⟩
  have sb14 : w13.heap.size ≤ w14.heap.size := b14.size
  replace B := B.trans (b14.mono B.size)
  replace i0 := i0.below b14 (Nat.le_refl _)
  replace i1 := i1.below b14 (Nat.le_refl _)
  replace qF0 := (b14.cell (p := ⟨w.heap.size, 0, none⟩) yF).trans qF0
  replace qF1 := (b14.cell (p := ⟨w.heap.size, 1, none⟩) yF).trans qF1
  replace yF := Nat.lt_of_lt_of_le yF b14.size
  replace qX0 := (b14.cell (p := ⟨w6.heap.size, 0, none⟩) yX).trans qX0
  replace qX1 := (b14.cell (p := ⟨w6.heap.size, 1, none⟩) yX).trans qX1
  replace yX := Nat.lt_of_lt_of_le yX b14.size
  replace oS := oS.below b14 (Nat.le_refl _)
  replace ox0 := ox0.below b14 (Nat.le_refl _)
  replace ox1 := ox1.below b14 (Nat.le_refl _)
  replace oG := oG.below b14 (Nat.le_refl _)
  replace ot := ot.below b14 (Nat.le_refl _)
  clear ot
  go_wp2_with fail
  refine (markFunction_any _ E0 (some ⟨gx0, 0, none⟩) n0 n0 x0 _ w14 ox0 hn0 (by omega) (by omega)).mono ?_
  rintro e w15 ⟨rfl, tx0, b15⟩
  have s15 := b15.size
  replace B := B.grown b15 B.size (fun k hk => by
    obtain ⟨g, hA, rfl⟩ := row_of ox0 hk; have := rx0.out g hA; omega)
  replace i0 := h0.below B (Nat.le_refl _)
  replace i1 := h1.below B (Nat.le_refl _)
  replace qF0 := (World.cell?_of_block (a := ⟨w.heap.size, 0, none⟩) (b15.block w.heap.size yF (fun hk => by obtain ⟨g, hA, hg⟩ := row_of ox0 hk.symm; have := rx0.out g hA; have hg2 : g = w.heap.size := hg; omega))).trans qF0
  replace qF1 := (World.cell?_of_block (a := ⟨w.heap.size, 1, none⟩) (b15.block w.heap.size yF (fun hk => by obtain ⟨g, hA, hg⟩ := row_of ox0 hk.symm; have := rx0.out g hA; have hg2 : g = w.heap.size := hg; omega))).trans qF1
  replace yF := Nat.lt_of_lt_of_le yF b15.size
  replace qX0 := (World.cell?_of_block (a := ⟨w6.heap.size, 0, none⟩) (b15.block w6.heap.size yX (fun hk => by obtain ⟨g, hA, hg⟩ := row_of ox0 hk.symm; have := rx0.out g hA; have hg2 : g = w6.heap.size := hg; omega))).trans qX0
  replace qX1 := (World.cell?_of_block (a := ⟨w6.heap.size, 1, none⟩) (b15.block w6.heap.size yX (fun hk => by obtain ⟨g, hA, hg⟩ := row_of ox0 hk.symm; have := rx0.out g hA; have hg2 : g = w6.heap.size := hg; omega))).trans qX1
  replace yX := Nat.lt_of_lt_of_le yX b15.size
  replace oS := oS.grown b15 (fun g hA hk => by obtain ⟨g2, hA2, rfl⟩ := row_of ox0 hk.symm; have := rx0.out _ hA2; have := rS.out _ hA; omega)
  replace ox1 := ox1.grown b15 (fun g hA hk => by obtain ⟨g2, hA2, rfl⟩ := row_of ox0 hk.symm; have := rx0.out _ hA2; have := rx1.out _ hA; omega)
  replace oG := oG.grown b15 (fun g hA hk => by obtain ⟨g2, hA2, rfl⟩ := row_of ox0 hk.symm; have := rx0.out _ hA2; have := rG.out _ hA; omega)
  clear ox0 tx0
  clear qX0 qX1 yX
  go_wp2_with fail
  refine (markIntS_any _ (some ⟨w6.heap.size + 1, 0, none⟩) n1 n1 x1 _ w15 ox1 hn1 (by omega) (by omega)).mono ?_
  rintro e w16 ⟨rfl, tx1, b16⟩
  have s16 := b16.size
  replace B := B.grown b16 B.size (fun k hk => by
    obtain ⟨g, hA, rfl⟩ := row_of ox1 hk; have := rx1.out g hA; omega)
  replace i0 := h0.below B (Nat.le_refl _)
  replace i1 := h1.below B (Nat.le_refl _)
  replace qF0 := (World.cell?_of_block (a := ⟨w.heap.size, 0, none⟩) (b16.block w.heap.size yF (fun hk => by obtain ⟨g, hA, hg⟩ := row_of ox1 hk.symm; have := rx1.out g hA; have hg2 : g = w.heap.size := hg; omega))).trans qF0
  replace qF1 := (World.cell?_of_block (a := ⟨w.heap.size, 1, none⟩) (b16.block w.heap.size yF (fun hk => by obtain ⟨g, hA, hg⟩ := row_of ox1 hk.symm; have := rx1.out g hA; have hg2 : g = w.heap.size := hg; omega))).trans qF1
  replace yF := Nat.lt_of_lt_of_le yF b16.size
  replace oS := oS.grown b16 (fun g hA hk => by obtain ⟨g2, hA2, rfl⟩ := row_of ox1 hk.symm; have := rx1.out _ hA2; have := rS.out _ hA; omega)
  replace oG := oG.grown b16 (fun g hA hk => by obtain ⟨g2, hA2, rfl⟩ := row_of ox1 hk.symm; have := rx1.out _ hA2; have := rG.out _ hA; omega)
  clear ox1 tx1
  go_wp2_with fail
  refine (eqIntS_any AG AS nG nS cG cS _ _ w16 oG.ints oS.ints).mono ?_
  rintro e w17 ⟨rfl, b17⟩
  have sb17 : w16.heap.size ≤ w17.heap.size := b17.size
  replace B := B.trans (b17.mono B.size)
  replace i0 := i0.below b17 (Nat.le_refl _)
  replace i1 := i1.below b17 (Nat.le_refl _)
  replace qF0 := (b17.cell (p := ⟨w.heap.size, 0, none⟩) yF).trans qF0
  replace qF1 := (b17.cell (p := ⟨w.heap.size, 1, none⟩) yF).trans qF1
  replace yF := Nat.lt_of_lt_of_le yF b17.size
  replace oS := oS.below b17 (Nat.le_refl _)
  replace oG := oG.below b17 (Nat.le_refl _)
  go_wp2_with fail
  refine (markIntS_any _ AG nG cG _ 1 w17 oG mG (by omega) (by omega)).mono ?_
  rintro e w18 ⟨rfl, oM, b18⟩
  have s18 := b18.size
  replace B := B.grown b18 B.size (fun k hk => by
    obtain ⟨g, hA, rfl⟩ := row_of oG hk; have := rG.out g hA; omega)
  replace i0 := h0.below B (Nat.le_refl _)
  replace i1 := h1.below B (Nat.le_refl _)
  replace qF0 := (World.cell?_of_block (a := ⟨w.heap.size, 0, none⟩) (b18.block w.heap.size yF (fun hk => by obtain ⟨g, hA, hg⟩ := row_of oG hk.symm; have := rG.out g hA; have hg2 : g = w.heap.size := hg; omega))).trans qF0
  replace qF1 := (World.cell?_of_block (a := ⟨w.heap.size, 1, none⟩) (b18.block w.heap.size yF (fun hk => by obtain ⟨g, hA, hg⟩ := row_of oG hk.symm; have := rG.out g hA; have hg2 : g = w.heap.size := hg; omega))).trans qF1
  replace yF := Nat.lt_of_lt_of_le yF b18.size
  replace oS := oS.grown b18 (fun g hA hk => by obtain ⟨g2, hA2, rfl⟩ := row_of oG hk.symm; have := rG.out _ hA2; have := rS.out _ hA; omega)
  replace oG := oM
  clear oM
  go_wp2_with fail
  refine (heldIntS_any AG nG cG 1 w18 oG.ints mG (by omega) (by omega)).mono ?_
  rintro e w' ⟨rfl, rfl⟩
  go_wp2_with fail
  refine (toFunction_any E0 A0 n0 c0 x0 w18 i0 hn0).mono ?_
  rintro e w19 ⟨gh0, rfl, oh0, b19⟩
  have sb19 : w18.heap.size ≤ w19.heap.size := b19.size
  replace B := B.trans (b19.mono B.size)
  replace i0 := i0.below b19 (Nat.le_refl _)
  replace i1 := i1.below b19 (Nat.le_refl _)
  replace qF0 := (b19.cell (p := ⟨w.heap.size, 0, none⟩) yF).trans qF0
  replace qF1 := (b19.cell (p := ⟨w.heap.size, 1, none⟩) yF).trans qF1
  replace yF := Nat.lt_of_lt_of_le yF b19.size
  replace oS := oS.below b19 (Nat.le_refl _)
  replace oG := oG.below b19 (Nat.le_refl _)
  have rh0 := hide (Own.range oh0)
  go_wp2_with fail
  refine (toIntS_any A1 n1 c1 x1 w19 i1 hn1).mono ?_
  rintro e w20 ⟨rfl, oh1, b20⟩
  have sb20 : w19.heap.size ≤ w20.heap.size := b20.size
  replace B := B.trans (b20.mono B.size)
  replace i0 := i0.below b20 (Nat.le_refl _)
  replace i1 := i1.below b20 (Nat.le_refl _)
  replace qF0 := (b20.cell (p := ⟨w.heap.size, 0, none⟩) yF).trans qF0
  replace qF1 := (b20.cell (p := ⟨w.heap.size, 1, none⟩) yF).trans qF1
  replace yF := Nat.lt_of_lt_of_le yF b20.size
  replace oS := oS.below b20 (Nat.le_refl _)
  replace oG := oG.below b20 (Nat.le_refl _)
  replace oh0 := oh0.below b20 (Nat.le_refl _)
  have rh1 := hide (Own.range oh1)
  go_wp2_with fail
  refine (minimumFor_any E0 (some ⟨gh0, 0, none⟩) n0 n0 x0 (some ⟨w19.heap.size, 0, none⟩) n1 n1 x1 w20 oh0.ints oh1.ints).mono ?_
  rintro e w21 ⟨AH, nH, cH, rfl, oH, mH, b21⟩
  have sb21 : w20.heap.size ≤ w21.heap.size := b21.size
  replace B := B.trans (b21.mono B.size)
  replace i0 := i0.below b21 (Nat.le_refl _)
  replace i1 := i1.below b21 (Nat.le_refl _)
  replace qF0 := (b21.cell (p := ⟨w.heap.size, 0, none⟩) yF).trans qF0
  replace qF1 := (b21.cell (p := ⟨w.heap.size, 1, none⟩) yF).trans qF1
  replace yF := Nat.lt_of_lt_of_le yF b21.size
  replace oS := oS.below b21 (Nat.le_refl _)
  replace oG := oG.below b21 (Nat.le_refl _)
  replace oh0 := oh0.below b21 (Nat.le_refl _)
  replace oh1 := oh1.below b21 (Nat.le_refl _)
  have rH := hide (Own.range oH)
  go_wp2_with fail
  refine (eqIntS_any AH AS nH nS cH cS _ _ w21 oH.ints oS.ints).mono ?_
  rintro e w22 ⟨rfl, b22⟩
  have sb22 : w21.heap.size ≤ w22.heap.size := b22.size
  replace B := B.trans (b22.mono B.size)
  replace i0 := i0.below b22 (Nat.le_refl _)
  replace i1 := i1.below b22 (Nat.le_refl _)
  replace qF0 := (b22.cell (p := ⟨w.heap.size, 0, none⟩) yF).trans qF0
  replace qF1 := (b22.cell (p := ⟨w.heap.size, 1, none⟩) yF).trans qF1
  replace yF := Nat.lt_of_lt_of_le yF b22.size
  replace oS := oS.below b22 (Nat.le_refl _)
  replace oG := oG.below b22 (Nat.le_refl _)
  replace oh0 := oh0.below b22 (Nat.le_refl _)
  replace oh1 := oh1.below b22 (Nat.le_refl _)
  replace oH := oH.below b22 (Nat.le_refl _)
  go_wp2_with fail
  refine (heldIntS_any AG nG cG 1 w22 oG.ints mG (by omega) (by omega)).mono ?_
  rintro e w' ⟨rfl, rfl⟩
  go_wp2
  go_ret
  exact ⟨rfl, B⟩

set_option maxRecDepth 100000 in
theorem lifted (os : Os) (started : os.Started) (H : Type) (enc : TypeId × Value → H) :
    ReturnsInHanded {} Try.checked os 10 .any (Rows.fnExactMinimumForSpec.pre6 enc Try.prog Try.f10 Rows.fnExactMinimumForRow.domain false) (Rows.fnExactMinimumForSpec.post enc Try.prog Try.f10 false true false false) := by
  refine returnsInHanded_of_change (C := Try.checked) own_knob started (by kernel_rfl) Try.func10
    (ChangeSpec.witness6 (enc := enc) (C := Try.checked) false ⟨#[], #[.agg #[.int .i64 0, .slice none 0 0], .slice none 0 0], []⟩ 8 (by kernel_rfl) (by kernel_rfl) (by kernel_rfl) (by kernel_rfl)) ?_
  intro W base args ds gs before hval0 hW _ _
  have hval : ∀ (j : Nat) t v, Try.f10.params[j]? = some t → args[j]? = some v → Value.okWide Try.prog W .any base t v := hval0
  have hW' := hW
  obtain ⟨p, q, hA0, hV, rfl, _, _⟩ := hW
  have hA : DataW.TrodAll enc Try.prog W 0 (fun _ => true) true Try.f10.params.toList args.toList ds p := hA0
  rw [Try.params10] at hA hval
  obtain ⟨v0, vs0, d0, ds0, p0, q0, hargs, rfl, rfl, k0, r0⟩ := trodAll_cons hA
  obtain ⟨v1, vs1, d1, ds1, p1, q1, rfl, rfl, rfl, k1, r1⟩ := trodAll_cons r0
  obtain ⟨rfl, rfl, rfl⟩ := trodAll_nil r1
  obtain rfl : args = #[v0, v1] := by cases args; simp_all
  obtain ⟨rfl, rfl⟩ := trodVars_none hV
  obtain ⟨E0, A0, n0, c0, x0, rfl, h0⟩ := open_fun (hval 0 24 v0 rfl rfl) k0
  have lt0 : ∀ x ∈ p0, x.block < W.heap.size := by obtain ⟨m, hm⟩ := k0; exact DataW.trod_lt m _ _ _ hm
  obtain ⟨A1, n1, c1, x1, rfl, h1⟩ := open_list (hval 1 22 v1 rfl rfl) k1
  have lt1 : ∀ x ∈ p1, x.block < W.heap.size := by obtain ⟨m, hm⟩ := k1; exact DataW.trod_lt m _ _ _ hm
  clear hA0 hval0
  refine (walk E0 A0 n0 c0 x0 A1 n1 c1 x1 W h0 h1).mono fun e W' ⟨he, bel⟩ => ?_
  subst he
  exact ⟨_, rfl, _, _, _, [], _, [], hW', trodAll_mk1 (shut_bool Try.underlying4 _), (trodAll_cons_mk (Below.trod laid_out (by kernel_rfl) (of_decide_eq_true (by kernel_rfl)) k0 bel lt0) (trodAll_cons_mk (Below.trod laid_out (by kernel_rfl) (of_decide_eq_true (by kernel_rfl)) k1 bel lt1) trodAll_mk0)), rfl, bel.frame _, fun h => by cases h⟩

theorem over : Rows.fnExactMinimumForRow.holds Try.pinned (OpenSpec.ofChange Rows.fnExactMinimumForSpec) :=
  OpenClaim.holds_of_wide 10 Try.f10 rfl rfl rfl rfl rfl rfl rfl ⟨rfl, rfl, rfl, rfl, rfl⟩ rfl rfl rfl rfl rfl (by kernel_rfl) Try.func10 (by kernel_rfl)
    (of_decide_eq_true (by kernel_rfl)) (by unfold Func.isWrapper; first | (rw [if_pos (by decide +kernel)]; kernel_rfl) | (rw [if_neg (by decide +kernel)]; exact ⟨rfl, rfl⟩))
    (fun os started H enc _ => lifted os started H enc)

theorem proved : Rows.FnExactMinimumForSaid := over
#print axioms proved
end Go.Proofs.Ytpdobkbnfphkfaa.fnExactMinimumFor
