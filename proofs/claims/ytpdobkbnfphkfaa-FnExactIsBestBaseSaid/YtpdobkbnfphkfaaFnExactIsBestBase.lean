/- The law FnExactIsBestBase returns true for every input, and leaves its arguments as they were. No condition. -/
import Derived.Test.YtpdobkbnfphkfaaFrame
import Derived.Test.YtpdobkbnfphkfaaBB
import Derived.Test.YtpdobkbnfphkfaaLawKit
import Derived.Deep.RegionHeld3
namespace Go.Proofs.Ytpdobkbnfphkfaa.fnExactIsBestBase
open Go.ChangeShapes Go.WideShapes Go.ChangeAt Go.RowKit Go.Joins
set_option maxHeartbeats 1000000 in
theorem walk (E0 : Int) (A0 : Option Addr) (n0 c0 : Nat) (x0 : List Int) (A1 : Option Addr) (n1 c1 : Nat) (x1 : List Int) (A2 : Option Addr) (n2 c2 : Nat) (x2 : List Int) (w : World) (h0 : Ints w A0 n0 x0) (h1 : Ints w A1 n1 x1) (h2 : Ints w A2 n2 x2) :
    Calls Try.prog 11 #[.agg #[.int .i64 E0, .slice A0 n0 c0], .slice A1 n1 c1, .slice A2 n2 c2] w fun e w' => e = .returned (.bool true) ∧ Below w.heap.size w w' := by
  have hle0 := h0.le
  have hle1 := h1.le
  have hle2 := h2.le
  by_cases hn1 : n1 ≤ 1048576
  case neg =>
    go_enter Try.func11, Try.ntmps11
    go_wp2
    go_ret
    exact ⟨rfl, ((Below.refl w.heap.size w).alloc (Nat.le_refl _) (.cells #[.int .i64 E0, .slice A0 n0 c0] 24))⟩
  by_cases hn2 : n2 ≤ 1048576
  case neg =>
    go_enter Try.func11, Try.ntmps11
    go_wp2
    go_ret
    exact ⟨rfl, ((Below.refl w.heap.size w).alloc (Nat.le_refl _) (.cells #[.int .i64 E0, .slice A0 n0 c0] 24))⟩
  by_cases hn0 : n0 ≤ 1048576
  case neg =>
    go_enter Try.func11, Try.ntmps11
    go_wp2_with fail
    refine (szFunction_big E0 A0 n0 c0 _ (by omega) hle0).mono ?_
    rintro e w1 ⟨rfl, b1⟩
    go_wp2
    go_ret
    exact ⟨rfl, ((Below.refl w.heap.size w).alloc (Nat.le_refl _) (.cells #[.int .i64 E0, .slice A0 n0 c0] 24)).trans (b1.mono (by simp))⟩
  go_enter Try.func11, Try.ntmps11
  have B := Below.refl w.heap.size w
  have i0 := h0
  have i1 := h1
  have i2 := h2
  replace i0 := i0.alloc (.cells #[.int .i64 E0, .slice A0 n0 c0] 24)
  replace i1 := i1.alloc (.cells #[.int .i64 E0, .slice A0 n0 c0] 24)
  replace i2 := i2.alloc (.cells #[.int .i64 E0, .slice A0 n0 c0] 24)
  have qF0 : (w.alloc (.cells #[.int .i64 E0, .slice A0 n0 c0] 24)).cell? ⟨w.heap.size, 0, none⟩ = some (.int .i64 E0) := by rw [World.cell?_alloc_at _ _ _ _ rfl]; rfl
  have qF1 : (w.alloc (.cells #[.int .i64 E0, .slice A0 n0 c0] 24)).cell? ⟨w.heap.size, 1, none⟩ = some (.slice A0 n0 c0) := by rw [World.cell?_alloc_at _ _ _ _ rfl]; rfl
  have yF : w.heap.size < (w.alloc (.cells #[.int .i64 E0, .slice A0 n0 c0] 24)).heap.size := by simp
  replace B := B.alloc B.size (.cells #[.int .i64 E0, .slice A0 n0 c0] 24)
  go_wp2_with fail
  refine (szFunction_ok E0 A0 n0 c0 (w.alloc (.cells #[.int .i64 E0, .slice A0 n0 c0] 24)) hn0).mono ?_
  rintro e w1 ⟨rfl, b1⟩
  replace B := B.trans (b1.mono B.size)
  replace i0 := i0.below b1 (Nat.le_refl _)
  replace i1 := i1.below b1 (Nat.le_refl _)
  replace i2 := i2.below b1 (Nat.le_refl _)
  replace qF0 := (b1.cell (p := ⟨w.heap.size, 0, none⟩) yF).trans qF0
  replace qF1 := (b1.cell (p := ⟨w.heap.size, 1, none⟩) yF).trans qF1
  replace yF := Nat.lt_of_lt_of_le yF b1.size
  go_wp2_with fail
  refine (toFunction_any E0 A0 n0 c0 x0 w1 i0 hn0).mono ?_
  rintro e w2 ⟨gs0, rfl, os0, b2⟩
  replace B := B.trans (b2.mono B.size)
  replace i0 := i0.below b2 (Nat.le_refl _)
  replace i1 := i1.below b2 (Nat.le_refl _)
  replace i2 := i2.below b2 (Nat.le_refl _)
  replace qF0 := (b2.cell (p := ⟨w.heap.size, 0, none⟩) yF).trans qF0
  replace qF1 := (b2.cell (p := ⟨w.heap.size, 1, none⟩) yF).trans qF1
  replace yF := Nat.lt_of_lt_of_le yF b2.size
  go_wp2_with fail
  refine (toIntS_any A1 n1 c1 x1 w2 i1 hn1).mono ?_
  rintro e w3 ⟨rfl, os1, b3⟩
  replace B := B.trans (b3.mono B.size)
  replace i0 := i0.below b3 (Nat.le_refl _)
  replace i1 := i1.below b3 (Nat.le_refl _)
  replace i2 := i2.below b3 (Nat.le_refl _)
  replace qF0 := (b3.cell (p := ⟨w.heap.size, 0, none⟩) yF).trans qF0
  replace qF1 := (b3.cell (p := ⟨w.heap.size, 1, none⟩) yF).trans qF1
  replace yF := Nat.lt_of_lt_of_le yF b3.size
  replace os0 := os0.below b3 (Nat.le_refl _)
  go_wp2_with fail
  refine (toIntS_any A2 n2 c2 x2 w3 i2 hn2).mono ?_
  rintro e w4 ⟨rfl, os2, b4⟩
  replace B := B.trans (b4.mono B.size)
  replace i0 := i0.below b4 (Nat.le_refl _)
  replace i1 := i1.below b4 (Nat.le_refl _)
  replace i2 := i2.below b4 (Nat.le_refl _)
  replace qF0 := (b4.cell (p := ⟨w.heap.size, 0, none⟩) yF).trans qF0
  replace qF1 := (b4.cell (p := ⟨w.heap.size, 1, none⟩) yF).trans qF1
  replace yF := Nat.lt_of_lt_of_le yF b4.size
  replace os0 := os0.below b4 (Nat.le_refl _)
  replace os1 := os1.below b4 (Nat.le_refl _)
  go_wp2_with fail
  refine (specIsBestBase_any E0 (some ⟨gs0, 0, none⟩) n0 n0 x0 (some ⟨w2.heap.size, 0, none⟩) n1 n1 x1 (some ⟨w3.heap.size, 0, none⟩) n2 n2 x2 w4 os0.ints os1.ints os2.ints).mono ?_
  rintro e w5 ⟨rfl, b5⟩
  replace B := B.trans (b5.mono B.size)
  replace i0 := i0.below b5 (Nat.le_refl _)
  replace i1 := i1.below b5 (Nat.le_refl _)
  replace i2 := i2.below b5 (Nat.le_refl _)
  replace qF0 := (b5.cell (p := ⟨w.heap.size, 0, none⟩) yF).trans qF0
  replace qF1 := (b5.cell (p := ⟨w.heap.size, 1, none⟩) yF).trans qF1
  replace yF := Nat.lt_of_lt_of_le yF b5.size
  replace os0 := os0.below b5 (Nat.le_refl _)
  replace os1 := os1.below b5 (Nat.le_refl _)
  replace os2 := os2.below b5 (Nat.le_refl _)
  clear os0 os1 os2
  go_wp2_with fail
  refine (toFunction_any E0 A0 n0 c0 x0 w5 i0 hn0).mono ?_
  rintro e w6 ⟨gx0, rfl, ox0, b6⟩
  replace B := B.trans (b6.mono B.size)
  replace i0 := i0.below b6 (Nat.le_refl _)
  replace i1 := i1.below b6 (Nat.le_refl _)
  replace i2 := i2.below b6 (Nat.le_refl _)
  replace qF0 := (b6.cell (p := ⟨w.heap.size, 0, none⟩) yF).trans qF0
  replace qF1 := (b6.cell (p := ⟨w.heap.size, 1, none⟩) yF).trans qF1
  replace yF := Nat.lt_of_lt_of_le yF b6.size
  replace qF0 := (World.cell?_alloc_past (w := w6) (.cells #[.int .i64 E0, .slice (some ⟨gx0, 0, none⟩) n0 n0] 28) (w.heap.size) 0 yF).trans qF0
  replace qF1 := (World.cell?_alloc_past (w := w6) (.cells #[.int .i64 E0, .slice (some ⟨gx0, 0, none⟩) n0 n0] 28) (w.heap.size) 1 yF).trans qF1
  replace yF : w.heap.size < (w6.alloc (.cells #[.int .i64 E0, .slice (some ⟨gx0, 0, none⟩) n0 n0] 28)).heap.size := by simp; omega
  replace i0 := i0.alloc (.cells #[.int .i64 E0, .slice (some ⟨gx0, 0, none⟩) n0 n0] 28)
  replace i1 := i1.alloc (.cells #[.int .i64 E0, .slice (some ⟨gx0, 0, none⟩) n0 n0] 28)
  replace i2 := i2.alloc (.cells #[.int .i64 E0, .slice (some ⟨gx0, 0, none⟩) n0 n0] 28)
  replace ox0 := ox0.alloc (.cells #[.int .i64 E0, .slice (some ⟨gx0, 0, none⟩) n0 n0] 28)
  have qX0 : (w6.alloc (.cells #[.int .i64 E0, .slice (some ⟨gx0, 0, none⟩) n0 n0] 28)).cell? ⟨w6.heap.size, 0, none⟩ = some (.int .i64 E0) := by rw [World.cell?_alloc_at _ _ _ _ rfl]; rfl
  have qX1 : (w6.alloc (.cells #[.int .i64 E0, .slice (some ⟨gx0, 0, none⟩) n0 n0] 28)).cell? ⟨w6.heap.size, 1, none⟩ = some (.slice (some ⟨gx0, 0, none⟩) n0 n0) := by rw [World.cell?_alloc_at _ _ _ _ rfl]; rfl
  have yX : w6.heap.size < (w6.alloc (.cells #[.int .i64 E0, .slice (some ⟨gx0, 0, none⟩) n0 n0] 28)).heap.size := by simp
  replace B := B.alloc B.size (.cells #[.int .i64 E0, .slice (some ⟨gx0, 0, none⟩) n0 n0] 28)
  go_wp2_with fail
  refine (toIntS_any A1 n1 c1 x1 (w6.alloc (.cells #[.int .i64 E0, .slice (some ⟨gx0, 0, none⟩) n0 n0] 28)) i1 hn1).mono ?_
  rintro e w7 ⟨rfl, ox1, b7⟩
  rw [show (w6.alloc (.cells #[.int .i64 E0, .slice (some ⟨gx0, 0, none⟩) n0 n0] 28)).heap.size = w6.heap.size + 1 by simp] at ox1
  replace B := B.trans (b7.mono B.size)
  replace i0 := i0.below b7 (Nat.le_refl _)
  replace i1 := i1.below b7 (Nat.le_refl _)
  replace i2 := i2.below b7 (Nat.le_refl _)
  replace qF0 := (b7.cell (p := ⟨w.heap.size, 0, none⟩) yF).trans qF0
  replace qF1 := (b7.cell (p := ⟨w.heap.size, 1, none⟩) yF).trans qF1
  replace yF := Nat.lt_of_lt_of_le yF b7.size
  replace qX0 := (b7.cell (p := ⟨w6.heap.size, 0, none⟩) yX).trans qX0
  replace qX1 := (b7.cell (p := ⟨w6.heap.size, 1, none⟩) yX).trans qX1
  replace yX := Nat.lt_of_lt_of_le yX b7.size
  replace ox0 := ox0.below b7 (Nat.le_refl _)
  go_wp2_with fail
  refine (toIntS_any A2 n2 c2 x2 w7 i2 hn2).mono ?_
  rintro e w8 ⟨rfl, ox2, b8⟩
  replace B := B.trans (b8.mono B.size)
  replace i0 := i0.below b8 (Nat.le_refl _)
  replace i1 := i1.below b8 (Nat.le_refl _)
  replace i2 := i2.below b8 (Nat.le_refl _)
  replace qF0 := (b8.cell (p := ⟨w.heap.size, 0, none⟩) yF).trans qF0
  replace qF1 := (b8.cell (p := ⟨w.heap.size, 1, none⟩) yF).trans qF1
  replace yF := Nat.lt_of_lt_of_le yF b8.size
  replace qX0 := (b8.cell (p := ⟨w6.heap.size, 0, none⟩) yX).trans qX0
  replace qX1 := (b8.cell (p := ⟨w6.heap.size, 1, none⟩) yX).trans qX1
  replace yX := Nat.lt_of_lt_of_le yX b8.size
  replace ox0 := ox0.below b8 (Nat.le_refl _)
  replace ox1 := ox1.below b8 (Nat.le_refl _)
  go_wp2_with fail
  refine (isBestBase_any E0 (some ⟨gx0, 0, none⟩) n0 n0 x0 (some ⟨w6.heap.size + 1, 0, none⟩) n1 n1 x1 (some ⟨w7.heap.size, 0, none⟩) n2 n2 x2 w8 ox0.ints ox1.ints ox2.ints).mono ?_
  rintro e w9 ⟨rfl, b9⟩
  replace B := B.trans (b9.mono B.size)
  replace i0 := i0.below b9 (Nat.le_refl _)
  replace i1 := i1.below b9 (Nat.le_refl _)
  replace i2 := i2.below b9 (Nat.le_refl _)
  replace qF0 := (b9.cell (p := ⟨w.heap.size, 0, none⟩) yF).trans qF0
  replace qF1 := (b9.cell (p := ⟨w.heap.size, 1, none⟩) yF).trans qF1
  replace yF := Nat.lt_of_lt_of_le yF b9.size
  replace qX0 := (b9.cell (p := ⟨w6.heap.size, 0, none⟩) yX).trans qX0
  replace qX1 := (b9.cell (p := ⟨w6.heap.size, 1, none⟩) yX).trans qX1
  replace yX := Nat.lt_of_lt_of_le yX b9.size
  replace ox0 := ox0.below b9 (Nat.le_refl _)
  replace ox1 := ox1.below b9 (Nat.le_refl _)
  replace ox2 := ox2.below b9 (Nat.le_refl _)
  go_wp2
  have od : Own w9.drew _ _ _ _ _ := ox0
  go_region_held3 (fun w' => w'.cell? ⟨w6.heap.size, 0, none⟩ = some (.int .i64 E0) ∧ w'.cell? ⟨w6.heap.size, 1, none⟩ = some (.slice (some ⟨gx0, 0, none⟩) n0 n0) ∧ w'.cell? ⟨w.heap.size, 0, none⟩ = some (.int .i64 E0) ∧ w'.cell? ⟨w.heap.size, 1, none⟩ = some (.slice A0 n0 c0))
    (first
      | go_keep
      | exact ⟨(b11.cell (p := ⟨w6.heap.size, 0, none⟩) (Nat.lt_of_lt_of_le yX b10.size)).trans ((b10.cell (p := ⟨w6.heap.size, 0, none⟩) yX).trans qX0), (b11.cell (p := ⟨w6.heap.size, 1, none⟩) (Nat.lt_of_lt_of_le yX b10.size)).trans ((b10.cell (p := ⟨w6.heap.size, 1, none⟩) yX).trans qX1), (b11.cell (p := ⟨w.heap.size, 0, none⟩) (Nat.lt_of_lt_of_le yF b10.size)).trans ((b10.cell (p := ⟨w.heap.size, 0, none⟩) yF).trans qF0), (b11.cell (p := ⟨w.heap.size, 1, none⟩) (Nat.lt_of_lt_of_le yF b10.size)).trans ((b10.cell (p := ⟨w.heap.size, 1, none⟩) yF).trans qF1)⟩
      | exact ⟨(b10.cell (p := ⟨w6.heap.size, 0, none⟩) yX).trans qX0, (b10.cell (p := ⟨w6.heap.size, 1, none⟩) yX).trans qX1, (b10.cell (p := ⟨w.heap.size, 0, none⟩) yF).trans qF0, (b10.cell (p := ⟨w.heap.size, 1, none⟩) yF).trans qF1⟩)
    (first
      | (go_at_call 14; refine (toFunction_any E0 A0 n0 c0 x0 _ i0.drew hn0).mono ?_; rintro e w10 ⟨gt, rfl, ot, b10⟩)
      | (go_at_call 17; refine (eqFunction_any E0 E0 _ _ n0 n0 n0 n0 x0 x0 _ (od.below b10 (Nat.le_refl _)).ints ot.ints).mono ?_; rintro e w11 ⟨rfl, b11⟩))
  replace B : Below w.heap.size w w9.drew := B.drew
  replace i0 : Ints w9.drew A0 n0 x0 := i0
  replace i1 : Ints w9.drew A1 n1 x1 := i1
  replace i2 : Ints w9.drew A2 n2 x2 := i2
  replace ox0 : Own w9.drew _ _ _ _ _ := ox0
  replace ox1 : Own w9.drew _ _ _ _ _ := ox1
  replace ox2 : Own w9.drew _ _ _ _ _ := ox2
  replace B := B.trans (b10.mono B.size)
  replace i0 := i0.below b10 (Nat.le_refl _)
  replace i1 := i1.below b10 (Nat.le_refl _)
  replace i2 := i2.below b10 (Nat.le_refl _)
  replace qF0 := (b10.cell (p := ⟨w.heap.size, 0, none⟩) yF).trans qF0
  replace qF1 := (b10.cell (p := ⟨w.heap.size, 1, none⟩) yF).trans qF1
  replace yF := Nat.lt_of_lt_of_le yF b10.size
  replace qX0 := (b10.cell (p := ⟨w6.heap.size, 0, none⟩) yX).trans qX0
  replace qX1 := (b10.cell (p := ⟨w6.heap.size, 1, none⟩) yX).trans qX1
  replace yX := Nat.lt_of_lt_of_le yX b10.size
  replace ox0 := ox0.below b10 (Nat.le_refl _)
  replace ox1 := ox1.below b10 (Nat.le_refl _)
  replace ox2 := ox2.below b10 (Nat.le_refl _)
  replace B := B.trans (b11.mono B.size)
  replace i0 := i0.below b11 (Nat.le_refl _)
  replace i1 := i1.below b11 (Nat.le_refl _)
  replace i2 := i2.below b11 (Nat.le_refl _)
  replace qF0 := (b11.cell (p := ⟨w.heap.size, 0, none⟩) yF).trans qF0
  replace qF1 := (b11.cell (p := ⟨w.heap.size, 1, none⟩) yF).trans qF1
  replace yF := Nat.lt_of_lt_of_le yF b11.size
  replace qX0 := (b11.cell (p := ⟨w6.heap.size, 0, none⟩) yX).trans qX0
  replace qX1 := (b11.cell (p := ⟨w6.heap.size, 1, none⟩) yX).trans qX1
  replace yX := Nat.lt_of_lt_of_le yX b11.size
  replace ox0 := ox0.below b11 (Nat.le_refl _)
  replace ox1 := ox1.below b11 (Nat.le_refl _)
  replace ox2 := ox2.below b11 (Nat.le_refl _)
  clear od ot
  go_wp2_with fail
  refine (toIntS_any A1 n1 c1 x1 w11 i1 hn1).mono ?_
  rintro e w12 ⟨rfl, ot, b12⟩
  replace B := B.trans (b12.mono B.size)
  replace i0 := i0.below b12 (Nat.le_refl _)
  replace i1 := i1.below b12 (Nat.le_refl _)
  replace i2 := i2.below b12 (Nat.le_refl _)
  replace qF0 := (b12.cell (p := ⟨w.heap.size, 0, none⟩) yF).trans qF0
  replace qF1 := (b12.cell (p := ⟨w.heap.size, 1, none⟩) yF).trans qF1
  replace yF := Nat.lt_of_lt_of_le yF b12.size
  replace qX0 := (b12.cell (p := ⟨w6.heap.size, 0, none⟩) yX).trans qX0
  replace qX1 := (b12.cell (p := ⟨w6.heap.size, 1, none⟩) yX).trans qX1
  replace yX := Nat.lt_of_lt_of_le yX b12.size
  replace ox0 := ox0.below b12 (Nat.le_refl _)
  replace ox1 := ox1.below b12 (Nat.le_refl _)
  replace ox2 := ox2.below b12 (Nat.le_refl _)
  go_wp2_with fail
  refine (eqIntS_any (some ⟨w6.heap.size + 1, 0, none⟩) (some ⟨w11.heap.size, 0, none⟩) n1 n1 n1 n1 x1 x1 w12 ox1.ints ot.ints).mono ?_
  rintro e w13 ⟨rfl, b13⟩
  replace B := B.trans (b13.mono B.size)
  replace i0 := i0.below b13 (Nat.le_refl _)
  replace i1 := i1.below b13 (Nat.le_refl _)
  replace i2 := i2.below b13 (Nat.le_refl _)
  replace qF0 := (b13.cell (p := ⟨w.heap.size, 0, none⟩) yF).trans qF0
  replace qF1 := (b13.cell (p := ⟨w.heap.size, 1, none⟩) yF).trans qF1
  replace yF := Nat.lt_of_lt_of_le yF b13.size
  replace qX0 := (b13.cell (p := ⟨w6.heap.size, 0, none⟩) yX).trans qX0
  replace qX1 := (b13.cell (p := ⟨w6.heap.size, 1, none⟩) yX).trans qX1
  replace yX := Nat.lt_of_lt_of_le yX b13.size
  replace ox0 := ox0.below b13 (Nat.le_refl _)
  replace ox1 := ox1.below b13 (Nat.le_refl _)
  replace ox2 := ox2.below b13 (Nat.le_refl _)
  replace ot := ot.below b13 (Nat.le_refl _)
  clear ot
  go_wp2_with fail
  refine (toIntS_any A2 n2 c2 x2 w13 i2 hn2).mono ?_
  rintro e w14 ⟨rfl, ot, b14⟩
  replace B := B.trans (b14.mono B.size)
  replace i0 := i0.below b14 (Nat.le_refl _)
  replace i1 := i1.below b14 (Nat.le_refl _)
  replace i2 := i2.below b14 (Nat.le_refl _)
  replace qF0 := (b14.cell (p := ⟨w.heap.size, 0, none⟩) yF).trans qF0
  replace qF1 := (b14.cell (p := ⟨w.heap.size, 1, none⟩) yF).trans qF1
  replace yF := Nat.lt_of_lt_of_le yF b14.size
  replace qX0 := (b14.cell (p := ⟨w6.heap.size, 0, none⟩) yX).trans qX0
  replace qX1 := (b14.cell (p := ⟨w6.heap.size, 1, none⟩) yX).trans qX1
  replace yX := Nat.lt_of_lt_of_le yX b14.size
  replace ox0 := ox0.below b14 (Nat.le_refl _)
  replace ox1 := ox1.below b14 (Nat.le_refl _)
  replace ox2 := ox2.below b14 (Nat.le_refl _)
  go_wp2_with fail
  refine (eqIntS_any (some ⟨w7.heap.size, 0, none⟩) (some ⟨w13.heap.size, 0, none⟩) n2 n2 n2 n2 x2 x2 w14 ox2.ints ot.ints).mono ?_
  rintro e w15 ⟨rfl, b15⟩
  replace B := B.trans (b15.mono B.size)
  replace i0 := i0.below b15 (Nat.le_refl _)
  replace i1 := i1.below b15 (Nat.le_refl _)
  replace i2 := i2.below b15 (Nat.le_refl _)
  replace qF0 := (b15.cell (p := ⟨w.heap.size, 0, none⟩) yF).trans qF0
  replace qF1 := (b15.cell (p := ⟨w.heap.size, 1, none⟩) yF).trans qF1
  replace yF := Nat.lt_of_lt_of_le yF b15.size
  replace qX0 := (b15.cell (p := ⟨w6.heap.size, 0, none⟩) yX).trans qX0
  replace qX1 := (b15.cell (p := ⟨w6.heap.size, 1, none⟩) yX).trans qX1
  replace yX := Nat.lt_of_lt_of_le yX b15.size
  replace ox0 := ox0.below b15 (Nat.le_refl _)
  replace ox1 := ox1.below b15 (Nat.le_refl _)
  replace ox2 := ox2.below b15 (Nat.le_refl _)
  replace ot := ot.below b15 (Nat.le_refl _)
  clear ot
  go_wp2
  go_ret
  exact ⟨rfl, B⟩

set_option maxRecDepth 100000 in
theorem lifted (os : Os) (started : os.Started) (H : Type) (enc : TypeId × Value → H) :
    ReturnsInHanded {} Try.checked os 11 .any (Rows.fnExactIsBestBaseSpec.pre6 enc Try.prog Try.f11 Rows.fnExactIsBestBaseRow.domain false) (Rows.fnExactIsBestBaseSpec.post enc Try.prog Try.f11 false true false false) := by
  refine returnsInHanded_of_change (C := Try.checked) own_knob started (by kernel_rfl) Try.func11
    (ChangeSpec.witness6 (enc := enc) (C := Try.checked) false ⟨#[], #[.agg #[.int .i64 0, .slice none 0 0], .slice none 0 0, .slice none 0 0], []⟩ 8 (by kernel_rfl) (by kernel_rfl) (by kernel_rfl) (by kernel_rfl)) ?_
  intro W base args ds gs before hval0 hW _ _
  have hval : ∀ (j : Nat) t v, Try.f11.params[j]? = some t → args[j]? = some v → Value.okWide Try.prog W .any base t v := hval0
  have hW' := hW
  obtain ⟨p, q, hA0, hV, rfl, _, _⟩ := hW
  have hA : DataW.TrodAll enc Try.prog W 0 (fun _ => true) true Try.f11.params.toList args.toList ds p := hA0
  rw [Try.params11] at hA hval
  obtain ⟨v0, vs0, d0, ds0, p0, q0, hargs, rfl, rfl, k0, r0⟩ := trodAll_cons hA
  obtain ⟨v1, vs1, d1, ds1, p1, q1, rfl, rfl, rfl, k1, r1⟩ := trodAll_cons r0
  obtain ⟨v2, vs2, d2, ds2, p2, q2, rfl, rfl, rfl, k2, r2⟩ := trodAll_cons r1
  obtain ⟨rfl, rfl, rfl⟩ := trodAll_nil r2
  obtain rfl : args = #[v0, v1, v2] := by cases args; simp_all
  obtain ⟨rfl, rfl⟩ := trodVars_none hV
  obtain ⟨E0, A0, n0, c0, x0, rfl, h0⟩ := open_fun (hval 0 24 v0 rfl rfl) k0
  have lt0 : ∀ x ∈ p0, x.block < W.heap.size := by obtain ⟨m, hm⟩ := k0; exact DataW.trod_lt m _ _ _ hm
  obtain ⟨A1, n1, c1, x1, rfl, h1⟩ := open_list (hval 1 22 v1 rfl rfl) k1
  have lt1 : ∀ x ∈ p1, x.block < W.heap.size := by obtain ⟨m, hm⟩ := k1; exact DataW.trod_lt m _ _ _ hm
  obtain ⟨A2, n2, c2, x2, rfl, h2⟩ := open_list (hval 2 22 v2 rfl rfl) k2
  have lt2 : ∀ x ∈ p2, x.block < W.heap.size := by obtain ⟨m, hm⟩ := k2; exact DataW.trod_lt m _ _ _ hm
  clear hA0 hval0
  refine (walk E0 A0 n0 c0 x0 A1 n1 c1 x1 A2 n2 c2 x2 W h0 h1 h2).mono fun e W' ⟨he, bel⟩ => ?_
  subst he
  exact ⟨_, rfl, _, _, _, [], _, [], hW', trodAll_mk1 (shut_bool Try.underlying4 _), (trodAll_cons_mk (Below.trod laid_out (by kernel_rfl) (of_decide_eq_true (by kernel_rfl)) k0 bel lt0) (trodAll_cons_mk (Below.trod laid_out (by kernel_rfl) (of_decide_eq_true (by kernel_rfl)) k1 bel lt1) (trodAll_cons_mk (Below.trod laid_out (by kernel_rfl) (of_decide_eq_true (by kernel_rfl)) k2 bel lt2) trodAll_mk0))), rfl, bel.frame _, fun h => by cases h⟩

theorem over : Rows.fnExactIsBestBaseRow.holds Try.pinned (OpenSpec.ofChange Rows.fnExactIsBestBaseSpec) :=
  OpenClaim.holds_of_wide 11 Try.f11 rfl rfl rfl rfl rfl rfl rfl ⟨rfl, rfl, rfl, rfl, rfl⟩ rfl rfl rfl rfl rfl (by kernel_rfl) Try.func11 (by kernel_rfl)
    (of_decide_eq_true (by kernel_rfl)) (by unfold Func.isWrapper; first | (rw [if_pos (by decide +kernel)]; kernel_rfl) | (rw [if_neg (by decide +kernel)]; exact ⟨rfl, rfl⟩))
    (fun os started H enc _ => lifted os started H enc)

theorem proved : Rows.FnExactIsBestBaseSaid := over
#print axioms proved
end Go.Proofs.Ytpdobkbnfphkfaa.fnExactIsBestBase
