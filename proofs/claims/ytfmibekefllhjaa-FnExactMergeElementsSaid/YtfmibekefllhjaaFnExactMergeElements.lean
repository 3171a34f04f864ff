/- The law FnExactMergeElements returns true for every input, and leaves its arguments as they were. No condition. -/
import Derived.Test.YtfmibekefllhjaaFrame
import Derived.Test.YtfmibekefllhjaaMerge4
import Derived.Test.YtfmibekefllhjaaLawKit
import Derived.Deep.RegionHeld3
namespace Go.Proofs.Ytfmibekefllhjaa.fnExactMergeElements
open Go.ChangeShapes Go.WideShapes Go.ChangeAt Go.RowKit Go.Joins
set_option maxHeartbeats 1000000 in
theorem walk (E0 : Int) (A0 : Option Addr) (n0 c0 : Nat) (x0 : List Int) (a1 : Int) (a2 : Int) (w : World) (h0 : Ints w A0 n0 x0) :
    Calls Try.prog 4 #[.agg #[.int .i64 E0, .slice A0 n0 c0], .int .i64 a1, .int .i64 a2] w fun e w' => e = .returned (.bool true) ∧ Below w.heap.size w w' := by
  have hle0 := h0.le
  by_cases hn0 : n0 ≤ 1048576
  case neg =>
    go_enter Try.func4, Try.ntmps4
    go_wp2_with fail
    refine (szFunction_big E0 A0 n0 c0 _ (by omega) hle0).mono ?_
    rintro e w1 ⟨rfl, b1⟩
    go_wp2
    go_ret
    exact ⟨rfl, ((Below.refl w.heap.size w).alloc (Nat.le_refl _) (.cells #[.int .i64 E0, .slice A0 n0 c0] 24)).trans (b1.mono (by simp))⟩
  go_enter Try.func4, Try.ntmps4
  have B := Below.refl w.heap.size w
  have i0 := h0
  replace i0 := i0.alloc (.cells #[.int .i64 E0, .slice A0 n0 c0] 24)
  have qF0 : (w.alloc (.cells #[.int .i64 E0, .slice A0 n0 c0] 24)).cell? ⟨w.heap.size, 0, none⟩ = some (.int .i64 E0) := by rw [World.cell?_alloc_at _ _ _ _ rfl]; rfl
  have qF1 : (w.alloc (.cells #[.int .i64 E0, .slice A0 n0 c0] 24)).cell? ⟨w.heap.size, 1, none⟩ = some (.slice A0 n0 c0) := by rw [World.cell?_alloc_at _ _ _ _ rfl]; rfl
  have yF : w.heap.size < (w.alloc (.cells #[.int .i64 E0, .slice A0 n0 c0] 24)).heap.size := by simp
  replace B := B.alloc B.size (.cells #[.int .i64 E0, .slice A0 n0 c0] 24)
  have z1 : (w.alloc (.cells #[.int .i64 E0, .slice A0 n0 c0] 24)).heap.size = w.heap.size + 1 := by simp
  go_wp2_with fail
  refine (szFunction_ok E0 A0 n0 c0 (w.alloc (.cells #[.int .i64 E0, .slice A0 n0 c0] 24)) hn0).mono ?_
  rintro e w2 ⟨rfl, b2⟩
  have sb2 : (w.alloc (.cells #[.int .i64 E0, .slice A0 n0 c0] 24)).heap.size ≤ w2.heap.size := b2.size
  replace B := B.trans (b2.mono B.size)
  replace i0 := i0.below b2 (Nat.le_refl _)
  replace qF0 := (b2.cell (p := ⟨w.heap.size, 0, none⟩) yF).trans qF0
  replace qF1 := (b2.cell (p := ⟨w.heap.size, 1, none⟩) yF).trans qF1
  replace yF := Nat.lt_of_lt_of_le yF b2.size
  go_wp2_with fail
  refine (toFunction_any E0 A0 n0 c0 x0 w2 i0 hn0).mono ?_
  rintro e w3 ⟨gs0, rfl, os0, b3⟩
  have sb3 : w2.heap.size ≤ w3.heap.size := b3.size
  replace B := B.trans (b3.mono B.size)
  replace i0 := i0.below b3 (Nat.le_refl _)
  replace qF0 := (b3.cell (p := ⟨w.heap.size, 0, none⟩) yF).trans qF0
  replace qF1 := (b3.cell (p := ⟨w.heap.size, 1, none⟩) yF).trans qF1
  replace yF := Nat.lt_of_lt_of_le yF b3.size
  have rs0 := hide (Own.range os0)
  go_wp2_with fail
  refine (specMergeElements_any E0 (some ⟨gs0, 0, none⟩) n0 n0 x0 a1 a2 w3 os0.ints).mono ?_
  rintro e w4 ⟨AS, nS, cS, rfl, oS, mS, b4⟩
  have sb4 : w3.heap.size ≤ w4.heap.size := b4.size
  replace B := B.trans (b4.mono B.size)
  replace i0 := i0.below b4 (Nat.le_refl _)
  replace qF0 := (b4.cell (p := ⟨w.heap.size, 0, none⟩) yF).trans qF0
  replace qF1 := (b4.cell (p := ⟨w.heap.size, 1, none⟩) yF).trans qF1
  replace yF := Nat.lt_of_lt_of_le yF b4.size
  replace os0 := os0.below b4 (Nat.le_refl _)
  have rS := hide (Own.range oS)
  replace qF0 := (World.cell?_alloc_past (w := w4) (.cells #[.int .i64 (mgE E0 x0 a1 a2), .slice AS nS cS] 27) (w.heap.size) 0 yF).trans qF0
  replace qF1 := (World.cell?_alloc_past (w := w4) (.cells #[.int .i64 (mgE E0 x0 a1 a2), .slice AS nS cS] 27) (w.heap.size) 1 yF).trans qF1
  replace yF : w.heap.size < (w4.alloc (.cells #[.int .i64 (mgE E0 x0 a1 a2), .slice AS nS cS] 27)).heap.size := by simp; omega
  replace i0 := i0.alloc (.cells #[.int .i64 (mgE E0 x0 a1 a2), .slice AS nS cS] 27)
  replace os0 := os0.alloc (.cells #[.int .i64 (mgE E0 x0 a1 a2), .slice AS nS cS] 27)
  replace oS := oS.alloc (.cells #[.int .i64 (mgE E0 x0 a1 a2), .slice AS nS cS] 27)
  have qBS0 : (w4.alloc (.cells #[.int .i64 (mgE E0 x0 a1 a2), .slice AS nS cS] 27)).cell? ⟨w4.heap.size, 0, none⟩ = some (.int .i64 (mgE E0 x0 a1 a2)) := by rw [World.cell?_alloc_at _ _ _ _ rfl]; rfl
  have qBS1 : (w4.alloc (.cells #[.int .i64 (mgE E0 x0 a1 a2), .slice AS nS cS] 27)).cell? ⟨w4.heap.size, 1, none⟩ = some (.slice AS nS cS) := by rw [World.cell?_alloc_at _ _ _ _ rfl]; rfl
  have yBS : w4.heap.size < (w4.alloc (.cells #[.int .i64 (mgE E0 x0 a1 a2), .slice AS nS cS] 27)).heap.size := by simp
  replace B := B.alloc B.size (.cells #[.int .i64 (mgE E0 x0 a1 a2), .slice AS nS cS] 27)
  have z5 : (w4.alloc (.cells #[.int .i64 (mgE E0 x0 a1 a2), .slice AS nS cS] 27)).heap.size = w4.heap.size + 1 := by simp
  clear os0
  go_wp2_with fail
  refine (toFunction_any E0 A0 n0 c0 x0 (w4.alloc (.cells #[.int .i64 (mgE E0 x0 a1 a2), .slice AS nS cS] 27)) i0 hn0).mono ?_
  rintro e w6 ⟨gx0, rfl, ox0, b6⟩
  have sb6 : (w4.alloc (.cells #[.int .i64 (mgE E0 x0 a1 a2), .slice AS nS cS] 27)).heap.size ≤ w6.heap.size := b6.size
  replace B := B.trans (b6.mono B.size)
  replace i0 := i0.below b6 (Nat.le_refl _)
  replace qF0 := (b6.cell (p := ⟨w.heap.size, 0, none⟩) yF).trans qF0
  replace qF1 := (b6.cell (p := ⟨w.heap.size, 1, none⟩) yF).trans qF1
  replace yF := Nat.lt_of_lt_of_le yF b6.size
  replace qBS0 := (b6.cell (p := ⟨w4.heap.size, 0, none⟩) yBS).trans qBS0
  replace qBS1 := (b6.cell (p := ⟨w4.heap.size, 1, none⟩) yBS).trans qBS1
  replace yBS := Nat.lt_of_lt_of_le yBS b6.size
  replace oS := oS.below b6 (Nat.le_refl _)
  have rx0 := hide (Own.range ox0)
  replace qF0 := (World.cell?_alloc_past (w := w6) (.cells #[.int .i64 E0, .slice (some ⟨gx0, 0, none⟩) n0 n0] 27) (w.heap.size) 0 yF).trans qF0
  replace qF1 := (World.cell?_alloc_past (w := w6) (.cells #[.int .i64 E0, .slice (some ⟨gx0, 0, none⟩) n0 n0] 27) (w.heap.size) 1 yF).trans qF1
  replace yF : w.heap.size < (w6.alloc (.cells #[.int .i64 E0, .slice (some ⟨gx0, 0, none⟩) n0 n0] 27)).heap.size := by simp; omega
  replace qBS0 := (World.cell?_alloc_past (w := w6) (.cells #[.int .i64 E0, .slice (some ⟨gx0, 0, none⟩) n0 n0] 27) (w4.heap.size) 0 yBS).trans qBS0
  replace qBS1 := (World.cell?_alloc_past (w := w6) (.cells #[.int .i64 E0, .slice (some ⟨gx0, 0, none⟩) n0 n0] 27) (w4.heap.size) 1 yBS).trans qBS1
  replace yBS : w4.heap.size < (w6.alloc (.cells #[.int .i64 E0, .slice (some ⟨gx0, 0, none⟩) n0 n0] 27)).heap.size := by simp; omega
  replace i0 := i0.alloc (.cells #[.int .i64 E0, .slice (some ⟨gx0, 0, none⟩) n0 n0] 27)
  replace oS := oS.alloc (.cells #[.int .i64 E0, .slice (some ⟨gx0, 0, none⟩) n0 n0] 27)
  replace ox0 := ox0.alloc (.cells #[.int .i64 E0, .slice (some ⟨gx0, 0, none⟩) n0 n0] 27)
  have qX0 : (w6.alloc (.cells #[.int .i64 E0, .slice (some ⟨gx0, 0, none⟩) n0 n0] 27)).cell? ⟨w6.heap.size, 0, none⟩ = some (.int .i64 E0) := by rw [World.cell?_alloc_at _ _ _ _ rfl]; rfl
  have qX1 : (w6.alloc (.cells #[.int .i64 E0, .slice (some ⟨gx0, 0, none⟩) n0 n0] 27)).cell? ⟨w6.heap.size, 1, none⟩ = some (.slice (some ⟨gx0, 0, none⟩) n0 n0) := by rw [World.cell?_alloc_at _ _ _ _ rfl]; rfl
  have yX : w6.heap.size < (w6.alloc (.cells #[.int .i64 E0, .slice (some ⟨gx0, 0, none⟩) n0 n0] 27)).heap.size := by simp
  replace B := B.alloc B.size (.cells #[.int .i64 E0, .slice (some ⟨gx0, 0, none⟩) n0 n0] 27)
  have z7 : (w6.alloc (.cells #[.int .i64 E0, .slice (some ⟨gx0, 0, none⟩) n0 n0] 27)).heap.size = w6.heap.size + 1 := by simp
  go_wp2_with fail
  refine (mergeElements_any E0 (some ⟨gx0, 0, none⟩) n0 n0 x0 a1 a2 (w6.alloc (.cells #[.int .i64 E0, .slice (some ⟨gx0, 0, none⟩) n0 n0] 27)) ox0.ints).mono ?_
  rintro e w8 ⟨AG, nG, cG, rfl, oG, mG, b8⟩
  have sb8 : (w6.alloc (.cells #[.int .i64 E0, .slice (some ⟨gx0, 0, none⟩) n0 n0] 27)).heap.size ≤ w8.heap.size := b8.size
  replace B := B.trans (b8.mono B.size)
  replace i0 := i0.below b8 (Nat.le_refl _)
  replace qF0 := (b8.cell (p := ⟨w.heap.size, 0, none⟩) yF).trans qF0
  replace qF1 := (b8.cell (p := ⟨w.heap.size, 1, none⟩) yF).trans qF1
  replace yF := Nat.lt_of_lt_of_le yF b8.size
  replace qBS0 := (b8.cell (p := ⟨w4.heap.size, 0, none⟩) yBS).trans qBS0
  replace qBS1 := (b8.cell (p := ⟨w4.heap.size, 1, none⟩) yBS).trans qBS1
  replace yBS := Nat.lt_of_lt_of_le yBS b8.size
  replace qX0 := (b8.cell (p := ⟨w6.heap.size, 0, none⟩) yX).trans qX0
  replace qX1 := (b8.cell (p := ⟨w6.heap.size, 1, none⟩) yX).trans qX1
  replace yX := Nat.lt_of_lt_of_le yX b8.size
  replace oS := oS.below b8 (Nat.le_refl _)
  replace ox0 := ox0.below b8 (Nat.le_refl _)
  have rG := hide (Own.range oG)
  replace qF0 := (World.cell?_alloc_past (w := w8) (.cells #[.int .i64 (mgE E0 x0 a1 a2), .slice AG nG cG] 27) (w.heap.size) 0 yF).trans qF0
  replace qF1 := (World.cell?_alloc_past (w := w8) (.cells #[.int .i64 (mgE E0 x0 a1 a2), .slice AG nG cG] 27) (w.heap.size) 1 yF).trans qF1
  replace yF : w.heap.size < (w8.alloc (.cells #[.int .i64 (mgE E0 x0 a1 a2), .slice AG nG cG] 27)).heap.size := by simp; omega
  replace qBS0 := (World.cell?_alloc_past (w := w8) (.cells #[.int .i64 (mgE E0 x0 a1 a2), .slice AG nG cG] 27) (w4.heap.size) 0 yBS).trans qBS0
  replace qBS1 := (World.cell?_alloc_past (w := w8) (.cells #[.int .i64 (mgE E0 x0 a1 a2), .slice AG nG cG] 27) (w4.heap.size) 1 yBS).trans qBS1
  replace yBS : w4.heap.size < (w8.alloc (.cells #[.int .i64 (mgE E0 x0 a1 a2), .slice AG nG cG] 27)).heap.size := by simp; omega
  replace qX0 := (World.cell?_alloc_past (w := w8) (.cells #[.int .i64 (mgE E0 x0 a1 a2), .slice AG nG cG] 27) (w6.heap.size) 0 yX).trans qX0
  replace qX1 := (World.cell?_alloc_past (w := w8) (.cells #[.int .i64 (mgE E0 x0 a1 a2), .slice AG nG cG] 27) (w6.heap.size) 1 yX).trans qX1
  replace yX : w6.heap.size < (w8.alloc (.cells #[.int .i64 (mgE E0 x0 a1 a2), .slice AG nG cG] 27)).heap.size := by simp; omega
  replace i0 := i0.alloc (.cells #[.int .i64 (mgE E0 x0 a1 a2), .slice AG nG cG] 27)
  replace oS := oS.alloc (.cells #[.int .i64 (mgE E0 x0 a1 a2), .slice AG nG cG] 27)
  replace ox0 := ox0.alloc (.cells #[.int .i64 (mgE E0 x0 a1 a2), .slice AG nG cG] 27)
  replace oG := oG.alloc (.cells #[.int .i64 (mgE E0 x0 a1 a2), .slice AG nG cG] 27)
  have qBG0 : (w8.alloc (.cells #[.int .i64 (mgE E0 x0 a1 a2), .slice AG nG cG] 27)).cell? ⟨w8.heap.size, 0, none⟩ = some (.int .i64 (mgE E0 x0 a1 a2)) := by rw [World.cell?_alloc_at _ _ _ _ rfl]; rfl
  have qBG1 : (w8.alloc (.cells #[.int .i64 (mgE E0 x0 a1 a2), .slice AG nG cG] 27)).cell? ⟨w8.heap.size, 1, none⟩ = some (.slice AG nG cG) := by rw [World.cell?_alloc_at _ _ _ _ rfl]; rfl
  have yBG : w8.heap.size < (w8.alloc (.cells #[.int .i64 (mgE E0 x0 a1 a2), .slice AG nG cG] 27)).heap.size := by simp
  replace B := B.alloc B.size (.cells #[.int .i64 (mgE E0 x0 a1 a2), .slice AG nG cG] 27)
  have z9 : (w8.alloc (.cells #[.int .i64 (mgE E0 x0 a1 a2), .slice AG nG cG] 27)).heap.size = w8.heap.size + 1 := by simp
  go_wp2_with fail
  refine (eqFunction_any (mgE E0 x0 a1 a2) (mgE E0 x0 a1 a2) AG AS nG nS cG cS _ _ (w8.alloc (.cells #[.int .i64 (mgE E0 x0 a1 a2), .slice AG nG cG] 27)) oG.ints oS.ints).mono ?_
  rintro e w10 ⟨rfl, b10⟩
  have sb10 : (w8.alloc (.cells #[.int .i64 (mgE E0 x0 a1 a2), .slice AG nG cG] 27)).heap.size ≤ w10.heap.size := b10.size
  replace B := B.trans (b10.mono B.size)
  replace i0 := i0.below b10 (Nat.le_refl _)
  replace qF0 := (b10.cell (p := ⟨w.heap.size, 0, none⟩) yF).trans qF0
  replace qF1 := (b10.cell (p := ⟨w.heap.size, 1, none⟩) yF).trans qF1
  replace yF := Nat.lt_of_lt_of_le yF b10.size
  replace qBS0 := (b10.cell (p := ⟨w4.heap.size, 0, none⟩) yBS).trans qBS0
  replace qBS1 := (b10.cell (p := ⟨w4.heap.size, 1, none⟩) yBS).trans qBS1
  replace yBS := Nat.lt_of_lt_of_le yBS b10.size
  replace qX0 := (b10.cell (p := ⟨w6.heap.size, 0, none⟩) yX).trans qX0
  replace qX1 := (b10.cell (p := ⟨w6.heap.size, 1, none⟩) yX).trans qX1
  replace yX := Nat.lt_of_lt_of_le yX b10.size
  replace qBG0 := (b10.cell (p := ⟨w8.heap.size, 0, none⟩) yBG).trans qBG0
  replace qBG1 := (b10.cell (p := ⟨w8.heap.size, 1, none⟩) yBG).trans qBG1
  replace yBG := Nat.lt_of_lt_of_le yBG b10.size
  replace oS := oS.below b10 (Nat.le_refl _)
  replace ox0 := ox0.below b10 (Nat.le_refl _)
  replace oG := oG.below b10 (Nat.le_refl _)
  go_wp2
  have od : Own w10.drew _ _ _ _ _ := ox0
  go_region_held3 (fun w' => w'.cell? ⟨w6.heap.size, 0, none⟩ = some (.int .i64 E0) ∧ w'.cell? ⟨w6.heap.size, 1, none⟩ = some (.slice (some ⟨gx0, 0, none⟩) n0 n0) ∧ w'.cell? ⟨w.heap.size, 0, none⟩ = some (.int .i64 E0) ∧ w'.cell? ⟨w.heap.size, 1, none⟩ = some (.slice A0 n0 c0))
    (first
      | go_keep
      | exact ⟨(b12.cell (p := ⟨w6.heap.size, 0, none⟩) (Nat.lt_of_lt_of_le yX b11.size)).trans ((b11.cell (p := ⟨w6.heap.size, 0, none⟩) yX).trans qX0), (b12.cell (p := ⟨w6.heap.size, 1, none⟩) (Nat.lt_of_lt_of_le yX b11.size)).trans ((b11.cell (p := ⟨w6.heap.size, 1, none⟩) yX).trans qX1), (b12.cell (p := ⟨w.heap.size, 0, none⟩) (Nat.lt_of_lt_of_le yF b11.size)).trans ((b11.cell (p := ⟨w.heap.size, 0, none⟩) yF).trans qF0), (b12.cell (p := ⟨w.heap.size, 1, none⟩) (Nat.lt_of_lt_of_le yF b11.size)).trans ((b11.cell (p := ⟨w.heap.size, 1, none⟩) yF).trans qF1)⟩
      | exact ⟨(b11.cell (p := ⟨w6.heap.size, 0, none⟩) yX).trans qX0, (b11.cell (p := ⟨w6.heap.size, 1, none⟩) yX).trans qX1, (b11.cell (p := ⟨w.heap.size, 0, none⟩) yF).trans qF0, (b11.cell (p := ⟨w.heap.size, 1, none⟩) yF).trans qF1⟩)
    (first
      | (go_at_call 12; refine (toFunction_any E0 A0 n0 c0 x0 _ i0.drew hn0).mono ?_; rintro e w11 ⟨gt, rfl, ot, b11⟩)
      | (go_at_call 14; refine (eqFunction_any E0 E0 _ _ n0 n0 n0 n0 x0 x0 _ (od.below b11 (Nat.le_refl _)).ints ot.ints).mono ?_; rintro e w12 ⟨rfl, b12⟩))
  replace B : Below w.heap.size w w10.drew := B.drew
  replace i0 : Ints w10.drew A0 n0 x0 := i0
  replace oS : Own w10.drew _ _ _ _ _ := oS
  replace ox0 : Own w10.drew _ _ _ _ _ := ox0
  replace oG : Own w10.drew _ _ _ _ _ := oG
  have sb11 : w10.heap.size ≤ w11.heap.size := b11.size
  replace B := B.trans (b11.mono B.size)
  replace i0 := i0.below b11 (Nat.le_refl _)
  replace qF0 := (b11.cell (p := ⟨w.heap.size, 0, none⟩) yF).trans qF0
  replace qF1 := (b11.cell (p := ⟨w.heap.size, 1, none⟩) yF).trans qF1
  replace yF := Nat.lt_of_lt_of_le yF b11.size
  replace qBS0 := (b11.cell (p := ⟨w4.heap.size, 0, none⟩) yBS).trans qBS0
  replace qBS1 := (b11.cell (p := ⟨w4.heap.size, 1, none⟩) yBS).trans qBS1
  replace yBS := Nat.lt_of_lt_of_le yBS b11.size
  replace qX0 := (b11.cell (p := ⟨w6.heap.size, 0, none⟩) yX).trans qX0
  replace qX1 := (b11.cell (p := ⟨w6.heap.size, 1, none⟩) yX).trans qX1
  replace yX := Nat.lt_of_lt_of_le yX b11.size
  replace qBG0 := (b11.cell (p := ⟨w8.heap.size, 0, none⟩) yBG).trans qBG0
  replace qBG1 := (b11.cell (p := ⟨w8.heap.size, 1, none⟩) yBG).trans qBG1
  replace yBG := Nat.lt_of_lt_of_le yBG b11.size
  replace oS := oS.below b11 (Nat.le_refl _)
  replace ox0 := ox0.below b11 (Nat.le_refl _)
  replace oG := oG.below b11 (Nat.le_refl _)
  have sb12 : w11.heap.size ≤ w12.heap.size := b12.size
  replace B := B.trans (b12.mono B.size)
  replace i0 := i0.below b12 (Nat.le_refl _)
  replace qF0 := (b12.cell (p := ⟨w.heap.size, 0, none⟩) yF).trans qF0
  replace qF1 := (b12.cell (p := ⟨w.heap.size, 1, none⟩) yF).trans qF1
  replace yF := Nat.lt_of_lt_of_le yF b12.size
  replace qBS0 := (b12.cell (p := ⟨w4.heap.size, 0, none⟩) yBS).trans qBS0
  replace qBS1 := (b12.cell (p := ⟨w4.heap.size, 1, none⟩) yBS).trans qBS1
  replace yBS := Nat.lt_of_lt_of_le yBS b12.size
  replace qX0 := (b12.cell (p := ⟨w6.heap.size, 0, none⟩) yX).trans qX0
  replace qX1 := (b12.cell (p := ⟨w6.heap.size, 1, none⟩) yX).trans qX1
  replace yX := Nat.lt_of_lt_of_le yX b12.size
  replace qBG0 := (b12.cell (p := ⟨w8.heap.size, 0, none⟩) yBG).trans qBG0
  replace qBG1 := (b12.cell (p := ⟨w8.heap.size, 1, none⟩) yBG).trans qBG1
  replace yBG := Nat.lt_of_lt_of_le yBG b12.size
  replace oS := oS.below b12 (Nat.le_refl _)
  replace ox0 := ox0.below b12 (Nat.le_refl _)
  replace oG := oG.below b12 (Nat.le_refl _)
  clear od ot
  go_wp2_with fail
  refine (markFunction_any _ E0 (some ⟨gx0, 0, none⟩) n0 n0 x0 _ w12 ox0 hn0 (by omega) (by omega)).mono ?_
  rintro e w13 ⟨rfl, tx0, b13⟩
  have s13 := b13.size
  replace B := B.grown b13 B.size (fun k hk => by
    obtain ⟨g, hA, rfl⟩ := row_of ox0 hk; have := rx0.out g hA; omega)
  replace i0 := h0.below B (Nat.le_refl _)
  replace qF0 := (World.cell?_of_block (a := ⟨w.heap.size, 0, none⟩) (b13.block w.heap.size yF (fun hk => by obtain ⟨g, hA, hg⟩ := row_of ox0 hk.symm; have := rx0.out g hA; have hg2 : g = w.heap.size := hg; omega))).trans qF0
  replace qF1 := (World.cell?_of_block (a := ⟨w.heap.size, 1, none⟩) (b13.block w.heap.size yF (fun hk => by obtain ⟨g, hA, hg⟩ := row_of ox0 hk.symm; have := rx0.out g hA; have hg2 : g = w.heap.size := hg; omega))).trans qF1
  replace yF := Nat.lt_of_lt_of_le yF b13.size
  replace qBS0 := (World.cell?_of_block (a := ⟨w4.heap.size, 0, none⟩) (b13.block w4.heap.size yBS (fun hk => by obtain ⟨g, hA, hg⟩ := row_of ox0 hk.symm; have := rx0.out g hA; have hg2 : g = w4.heap.size := hg; omega))).trans qBS0
  replace qBS1 := (World.cell?_of_block (a := ⟨w4.heap.size, 1, none⟩) (b13.block w4.heap.size yBS (fun hk => by obtain ⟨g, hA, hg⟩ := row_of ox0 hk.symm; have := rx0.out g hA; have hg2 : g = w4.heap.size := hg; omega))).trans qBS1
  replace yBS := Nat.lt_of_lt_of_le yBS b13.size
  replace qX0 := (World.cell?_of_block (a := ⟨w6.heap.size, 0, none⟩) (b13.block w6.heap.size yX (fun hk => by obtain ⟨g, hA, hg⟩ := row_of ox0 hk.symm; have := rx0.out g hA; have hg2 : g = w6.heap.size := hg; omega))).trans qX0
  replace qX1 := (World.cell?_of_block (a := ⟨w6.heap.size, 1, none⟩) (b13.block w6.heap.size yX (fun hk => by obtain ⟨g, hA, hg⟩ := row_of ox0 hk.symm; have := rx0.out g hA; have hg2 : g = w6.heap.size := hg; omega))).trans qX1
  replace yX := Nat.lt_of_lt_of_le yX b13.size
  replace qBG0 := (World.cell?_of_block (a := ⟨w8.heap.size, 0, none⟩) (b13.block w8.heap.size yBG (fun hk => by obtain ⟨g, hA, hg⟩ := row_of ox0 hk.symm; have := rx0.out g hA; have hg2 : g = w8.heap.size := hg; omega))).trans qBG0
  replace qBG1 := (World.cell?_of_block (a := ⟨w8.heap.size, 1, none⟩) (b13.block w8.heap.size yBG (fun hk => by obtain ⟨g, hA, hg⟩ := row_of ox0 hk.symm; have := rx0.out g hA; have hg2 : g = w8.heap.size := hg; omega))).trans qBG1
  replace yBG := Nat.lt_of_lt_of_le yBG b13.size
  replace oS := oS.grown b13 (fun g hA hk => by obtain ⟨g2, hA2, rfl⟩ := row_of ox0 hk.symm; have := rx0.out _ hA2; have := rS.out _ hA; omega)
  replace oG := oG.grown b13 (fun g hA hk => by obtain ⟨g2, hA2, rfl⟩ := row_of ox0 hk.symm; have := rx0.out _ hA2; have := rG.out _ hA; omega)
  clear ox0 tx0
  clear qX0 qX1 yX
  go_wp2_with fail
  refine (eqFunction_any (mgE E0 x0 a1 a2) (mgE E0 x0 a1 a2) AG AS nG nS cG cS _ _ w13 oG.ints oS.ints).mono ?_
  rintro e w14 ⟨rfl, b14⟩
  have sb14 : w13.heap.size ≤ w14.heap.size := b14.size
  replace B := B.trans (b14.mono B.size)
  replace i0 := i0.below b14 (Nat.le_refl _)
  replace qF0 := (b14.cell (p := ⟨w.heap.size, 0, none⟩) yF).trans qF0
  replace qF1 := (b14.cell (p := ⟨w.heap.size, 1, none⟩) yF).trans qF1
  replace yF := Nat.lt_of_lt_of_le yF b14.size
  replace qBS0 := (b14.cell (p := ⟨w4.heap.size, 0, none⟩) yBS).trans qBS0
  replace qBS1 := (b14.cell (p := ⟨w4.heap.size, 1, none⟩) yBS).trans qBS1
  replace yBS := Nat.lt_of_lt_of_le yBS b14.size
  replace qBG0 := (b14.cell (p := ⟨w8.heap.size, 0, none⟩) yBG).trans qBG0
  replace qBG1 := (b14.cell (p := ⟨w8.heap.size, 1, none⟩) yBG).trans qBG1
  replace yBG := Nat.lt_of_lt_of_le yBG b14.size
  replace oS := oS.below b14 (Nat.le_refl _)
  replace oG := oG.below b14 (Nat.le_refl _)
  go_wp2_with fail
  refine (markFunction_any _ (mgE E0 x0 a1 a2) AG nG cG _ 1 w14 oG mG (by omega) (by omega)).mono ?_
  rintro e w15 ⟨rfl, oM, b15⟩
  have s15 := b15.size
  replace B := B.grown b15 B.size (fun k hk => by
    obtain ⟨g, hA, rfl⟩ := row_of oG hk; have := rG.out g hA; omega)
  replace i0 := h0.below B (Nat.le_refl _)
  replace qF0 := (World.cell?_of_block (a := ⟨w.heap.size, 0, none⟩) (b15.block w.heap.size yF (fun hk => by obtain ⟨g, hA, hg⟩ := row_of oG hk.symm; have := rG.out g hA; have hg2 : g = w.heap.size := hg; omega))).trans qF0
  replace qF1 := (World.cell?_of_block (a := ⟨w.heap.size, 1, none⟩) (b15.block w.heap.size yF (fun hk => by obtain ⟨g, hA, hg⟩ := row_of oG hk.symm; have := rG.out g hA; have hg2 : g = w.heap.size := hg; omega))).trans qF1
  replace yF := Nat.lt_of_lt_of_le yF b15.size
  replace qBS0 := (World.cell?_of_block (a := ⟨w4.heap.size, 0, none⟩) (b15.block w4.heap.size yBS (fun hk => by obtain ⟨g, hA, hg⟩ := row_of oG hk.symm; have := rG.out g hA; have hg2 : g = w4.heap.size := hg; omega))).trans qBS0
  replace qBS1 := (World.cell?_of_block (a := ⟨w4.heap.size, 1, none⟩) (b15.block w4.heap.size yBS (fun hk => by obtain ⟨g, hA, hg⟩ := row_of oG hk.symm; have := rG.out g hA; have hg2 : g = w4.heap.size := hg; omega))).trans qBS1
  replace yBS := Nat.lt_of_lt_of_le yBS b15.size
  replace qBG0 := (World.cell?_of_block (a := ⟨w8.heap.size, 0, none⟩) (b15.block w8.heap.size yBG (fun hk => by obtain ⟨g, hA, hg⟩ := row_of oG hk.symm; have := rG.out g hA; have hg2 : g = w8.heap.size := hg; omega))).trans qBG0
  replace qBG1 := (World.cell?_of_block (a := ⟨w8.heap.size, 1, none⟩) (b15.block w8.heap.size yBG (fun hk => by obtain ⟨g, hA, hg⟩ := row_of oG hk.symm; have := rG.out g hA; have hg2 : g = w8.heap.size := hg; omega))).trans qBG1
  replace yBG := Nat.lt_of_lt_of_le yBG b15.size
  replace oS := oS.grown b15 (fun g hA hk => by obtain ⟨g2, hA2, rfl⟩ := row_of oG hk.symm; have := rG.out _ hA2; have := rS.out _ hA; omega)
  replace oG := oM
  clear oM
  go_wp2_with fail
  refine (heldFunction_any (mgE E0 x0 a1 a2) AG nG cG 1 w15 oG.ints mG (by omega) (by omega)).mono ?_
  rintro e w16 ⟨rfl, b16⟩
  have sb16 : w15.heap.size ≤ w16.heap.size := b16.size
  replace B := B.trans (b16.mono B.size)
  replace i0 := i0.below b16 (Nat.le_refl _)
  replace qF0 := (b16.cell (p := ⟨w.heap.size, 0, none⟩) yF).trans qF0
  replace qF1 := (b16.cell (p := ⟨w.heap.size, 1, none⟩) yF).trans qF1
  replace yF := Nat.lt_of_lt_of_le yF b16.size
  replace qBS0 := (b16.cell (p := ⟨w4.heap.size, 0, none⟩) yBS).trans qBS0
  replace qBS1 := (b16.cell (p := ⟨w4.heap.size, 1, none⟩) yBS).trans qBS1
  replace yBS := Nat.lt_of_lt_of_le yBS b16.size
  replace qBG0 := (b16.cell (p := ⟨w8.heap.size, 0, none⟩) yBG).trans qBG0
  replace qBG1 := (b16.cell (p := ⟨w8.heap.size, 1, none⟩) yBG).trans qBG1
  replace yBG := Nat.lt_of_lt_of_le yBG b16.size
  replace oS := oS.below b16 (Nat.le_refl _)
  replace oG := oG.below b16 (Nat.le_refl _)
  go_wp2_with fail
  refine (toFunction_any E0 A0 n0 c0 x0 w16 i0 hn0).mono ?_
  rintro e w17 ⟨gh0, rfl, oh0, b17⟩
  have sb17 : w16.heap.size ≤ w17.heap.size := b17.size
  replace B := B.trans (b17.mono B.size)
  replace i0 := i0.below b17 (Nat.le_refl _)
  replace qF0 := (b17.cell (p := ⟨w.heap.size, 0, none⟩) yF).trans qF0
  replace qF1 := (b17.cell (p := ⟨w.heap.size, 1, none⟩) yF).trans qF1
  replace yF := Nat.lt_of_lt_of_le yF b17.size
  replace qBS0 := (b17.cell (p := ⟨w4.heap.size, 0, none⟩) yBS).trans qBS0
  replace qBS1 := (b17.cell (p := ⟨w4.heap.size, 1, none⟩) yBS).trans qBS1
  replace yBS := Nat.lt_of_lt_of_le yBS b17.size
  replace qBG0 := (b17.cell (p := ⟨w8.heap.size, 0, none⟩) yBG).trans qBG0
  replace qBG1 := (b17.cell (p := ⟨w8.heap.size, 1, none⟩) yBG).trans qBG1
  replace yBG := Nat.lt_of_lt_of_le yBG b17.size
  replace oS := oS.below b17 (Nat.le_refl _)
  replace oG := oG.below b17 (Nat.le_refl _)
  have rh0 := hide (Own.range oh0)
  go_wp2_with fail
  refine (mergeElements_any E0 (some ⟨gh0, 0, none⟩) n0 n0 x0 a1 a2 w17 oh0.ints).mono ?_
  rintro e w18 ⟨AH, nH, cH, rfl, oH, mH, b18⟩
  have sb18 : w17.heap.size ≤ w18.heap.size := b18.size
  replace B := B.trans (b18.mono B.size)
  replace i0 := i0.below b18 (Nat.le_refl _)
  replace qF0 := (b18.cell (p := ⟨w.heap.size, 0, none⟩) yF).trans qF0
  replace qF1 := (b18.cell (p := ⟨w.heap.size, 1, none⟩) yF).trans qF1
  replace yF := Nat.lt_of_lt_of_le yF b18.size
  replace qBS0 := (b18.cell (p := ⟨w4.heap.size, 0, none⟩) yBS).trans qBS0
  replace qBS1 := (b18.cell (p := ⟨w4.heap.size, 1, none⟩) yBS).trans qBS1
  replace yBS := Nat.lt_of_lt_of_le yBS b18.size
  replace qBG0 := (b18.cell (p := ⟨w8.heap.size, 0, none⟩) yBG).trans qBG0
  replace qBG1 := (b18.cell (p := ⟨w8.heap.size, 1, none⟩) yBG).trans qBG1
  replace yBG := Nat.lt_of_lt_of_le yBG b18.size
  replace oS := oS.below b18 (Nat.le_refl _)
  replace oG := oG.below b18 (Nat.le_refl _)
  replace oh0 := oh0.below b18 (Nat.le_refl _)
  have rH := hide (Own.range oH)
  replace qF0 := (World.cell?_alloc_past (w := w18) (.cells #[.int .i64 (mgE E0 x0 a1 a2), .slice AH nH cH] 27) (w.heap.size) 0 yF).trans qF0
  replace qF1 := (World.cell?_alloc_past (w := w18) (.cells #[.int .i64 (mgE E0 x0 a1 a2), .slice AH nH cH] 27) (w.heap.size) 1 yF).trans qF1
  replace yF : w.heap.size < (w18.alloc (.cells #[.int .i64 (mgE E0 x0 a1 a2), .slice AH nH cH] 27)).heap.size := by simp; omega
  replace qBS0 := (World.cell?_alloc_past (w := w18) (.cells #[.int .i64 (mgE E0 x0 a1 a2), .slice AH nH cH] 27) (w4.heap.size) 0 yBS).trans qBS0
  replace qBS1 := (World.cell?_alloc_past (w := w18) (.cells #[.int .i64 (mgE E0 x0 a1 a2), .slice AH nH cH] 27) (w4.heap.size) 1 yBS).trans qBS1
  replace yBS : w4.heap.size < (w18.alloc (.cells #[.int .i64 (mgE E0 x0 a1 a2), .slice AH nH cH] 27)).heap.size := by simp; omega
  replace qBG0 := (World.cell?_alloc_past (w := w18) (.cells #[.int .i64 (mgE E0 x0 a1 a2), .slice AH nH cH] 27) (w8.heap.size) 0 yBG).trans qBG0
  replace qBG1 := (World.cell?_alloc_past (w := w18) (.cells #[.int .i64 (mgE E0 x0 a1 a2), .slice AH nH cH] 27) (w8.heap.size) 1 yBG).trans qBG1
  replace yBG : w8.heap.size < (w18.alloc (.cells #[.int .i64 (mgE E0 x0 a1 a2), .slice AH nH cH] 27)).heap.size := by simp; omega
  replace i0 := i0.alloc (.cells #[.int .i64 (mgE E0 x0 a1 a2), .slice AH nH cH] 27)
  replace oS := oS.alloc (.cells #[.int .i64 (mgE E0 x0 a1 a2), .slice AH nH cH] 27)
  replace oG := oG.alloc (.cells #[.int .i64 (mgE E0 x0 a1 a2), .slice AH nH cH] 27)
  replace oh0 := oh0.alloc (.cells #[.int .i64 (mgE E0 x0 a1 a2), .slice AH nH cH] 27)
  replace oH := oH.alloc (.cells #[.int .i64 (mgE E0 x0 a1 a2), .slice AH nH cH] 27)
  have qBH0 : (w18.alloc (.cells #[.int .i64 (mgE E0 x0 a1 a2), .slice AH nH cH] 27)).cell? ⟨w18.heap.size, 0, none⟩ = some (.int .i64 (mgE E0 x0 a1 a2)) := by rw [World.cell?_alloc_at _ _ _ _ rfl]; rfl
  have qBH1 : (w18.alloc (.cells #[.int .i64 (mgE E0 x0 a1 a2), .slice AH nH cH] 27)).cell? ⟨w18.heap.size, 1, none⟩ = some (.slice AH nH cH) := by rw [World.cell?_alloc_at _ _ _ _ rfl]; rfl
  have yBH : w18.heap.size < (w18.alloc (.cells #[.int .i64 (mgE E0 x0 a1 a2), .slice AH nH cH] 27)).heap.size := by simp
  replace B := B.alloc B.size (.cells #[.int .i64 (mgE E0 x0 a1 a2), .slice AH nH cH] 27)
  have z19 : (w18.alloc (.cells #[.int .i64 (mgE E0 x0 a1 a2), .slice AH nH cH] 27)).heap.size = w18.heap.size + 1 := by simp
  go_wp2_with fail
  refine (eqFunction_any (mgE E0 x0 a1 a2) (mgE E0 x0 a1 a2) AH AS nH nS cH cS _ _ (w18.alloc (.cells #[.int .i64 (mgE E0 x0 a1 a2), .slice AH nH cH] 27)) oH.ints oS.ints).mono ?_
  rintro e w20 ⟨rfl, b20⟩
  have sb20 : (w18.alloc (.cells #[.int .i64 (mgE E0 x0 a1 a2), .slice AH nH cH] 27)).heap.size ≤ w20.heap.size := b20.size
  replace B := B.trans (b20.mono B.size)
  replace i0 := i0.below b20 (Nat.le_refl _)
  replace qF0 := (b20.cell (p := ⟨w.heap.size, 0, none⟩) yF).trans qF0
  replace qF1 := (b20.cell (p := ⟨w.heap.size, 1, none⟩) yF).trans qF1
  replace yF := Nat.lt_of_lt_of_le yF b20.size
  replace qBS0 := (b20.cell (p := ⟨w4.heap.size, 0, none⟩) yBS).trans qBS0
  replace qBS1 := (b20.cell (p := ⟨w4.heap.size, 1, none⟩) yBS).trans qBS1
  replace yBS := Nat.lt_of_lt_of_le yBS b20.size
  replace qBG0 := (b20.cell (p := ⟨w8.heap.size, 0, none⟩) yBG).trans qBG0
  replace qBG1 := (b20.cell (p := ⟨w8.heap.size, 1, none⟩) yBG).trans qBG1
  replace yBG := Nat.lt_of_lt_of_le yBG b20.size
  replace qBH0 := (b20.cell (p := ⟨w18.heap.size, 0, none⟩) yBH).trans qBH0
  replace qBH1 := (b20.cell (p := ⟨w18.heap.size, 1, none⟩) yBH).trans qBH1
  replace yBH := Nat.lt_of_lt_of_le yBH b20.size
  replace oS := oS.below b20 (Nat.le_refl _)
  replace oG := oG.below b20 (Nat.le_refl _)
  replace oh0 := oh0.below b20 (Nat.le_refl _)
  replace oH := oH.below b20 (Nat.le_refl _)
  go_wp2_with fail
  refine (heldFunction_any (mgE E0 x0 a1 a2) AG nG cG 1 w20 oG.ints mG (by omega) (by omega)).mono ?_
  rintro e w21 ⟨rfl, b21⟩
  have sb21 : w20.heap.size ≤ w21.heap.size := b21.size
  replace B := B.trans (b21.mono B.size)
  replace i0 := i0.below b21 (Nat.le_refl _)
  replace qF0 := (b21.cell (p := ⟨w.heap.size, 0, none⟩) yF).trans qF0
  replace qF1 := (b21.cell (p := ⟨w.heap.size, 1, none⟩) yF).trans qF1
  replace yF := Nat.lt_of_lt_of_le yF b21.size
  replace qBS0 := (b21.cell (p := ⟨w4.heap.size, 0, none⟩) yBS).trans qBS0
  replace qBS1 := (b21.cell (p := ⟨w4.heap.size, 1, none⟩) yBS).trans qBS1
  replace yBS := Nat.lt_of_lt_of_le yBS b21.size
  replace qBG0 := (b21.cell (p := ⟨w8.heap.size, 0, none⟩) yBG).trans qBG0
  replace qBG1 := (b21.cell (p := ⟨w8.heap.size, 1, none⟩) yBG).trans qBG1
  replace yBG := Nat.lt_of_lt_of_le yBG b21.size
  replace qBH0 := (b21.cell (p := ⟨w18.heap.size, 0, none⟩) yBH).trans qBH0
  replace qBH1 := (b21.cell (p := ⟨w18.heap.size, 1, none⟩) yBH).trans qBH1
  replace yBH := Nat.lt_of_lt_of_le yBH b21.size
  replace oS := oS.below b21 (Nat.le_refl _)
  replace oG := oG.below b21 (Nat.le_refl _)
  replace oh0 := oh0.below b21 (Nat.le_refl _)
  replace oH := oH.below b21 (Nat.le_refl _)
  go_wp2
  go_ret
  exact ⟨rfl, B⟩

set_option maxRecDepth 100000 in
theorem lifted (os : Os) (started : os.Started) (H : Type) (enc : TypeId × Value → H) :
    ReturnsInHanded {} Try.checked os 4 .any (Rows.fnExactMergeElementsSpec.pre6 enc Try.prog Try.f4 Rows.fnExactMergeElementsRow.domain false) (Rows.fnExactMergeElementsSpec.post enc Try.prog Try.f4 false true false false) := by
  refine returnsInHanded_of_change (C := Try.checked) own_knob started (by kernel_rfl) Try.func4
    (ChangeSpec.witness6 (enc := enc) (C := Try.checked) false ⟨#[], #[.agg #[.int .i64 0, .slice none 0 0], .int .i64 0, .int .i64 0], []⟩ 8 (by kernel_rfl) (by kernel_rfl) (by kernel_rfl) (by kernel_rfl)) ?_
  intro W base args ds gs before hval0 hW _ _
  have hval : ∀ (j : Nat) t v, Try.f4.params[j]? = some t → args[j]? = some v → Value.okWide Try.prog W .any base t v := hval0
  have hW' := hW
  obtain ⟨p, q, hA0, hV, rfl, _, _⟩ := hW
  have hA : DataW.TrodAll enc Try.prog W 0 (fun _ => true) true Try.f4.params.toList args.toList ds p := hA0
  rw [Try.params4] at hA hval
  obtain ⟨v0, vs0, d0, ds0, p0, q0, hargs, rfl, rfl, k0, r0⟩ := trodAll_cons hA
  obtain ⟨v1, vs1, d1, ds1, p1, q1, rfl, rfl, rfl, k1, r1⟩ := trodAll_cons r0
  obtain ⟨v2, vs2, d2, ds2, p2, q2, rfl, rfl, rfl, k2, r2⟩ := trodAll_cons r1
  obtain ⟨rfl, rfl, rfl⟩ := trodAll_nil r2
  obtain rfl : args = #[v0, v1, v2] := by cases args; simp_all
  obtain ⟨rfl, rfl⟩ := trodVars_none hV
  obtain ⟨E0, A0, n0, c0, x0, rfl, h0⟩ := open_fun (hval 0 24 v0 rfl rfl) k0
  have lt0 : ∀ x ∈ p0, x.block < W.heap.size := by obtain ⟨m, hm⟩ := k0; exact DataW.trod_lt m _ _ _ hm
  obtain ⟨a1, rfl, rfl, rfl, w1⟩ := open_int Try.underlying3 (hval 1 3 v1 rfl rfl) k1
  obtain ⟨a2, rfl, rfl, rfl, w2⟩ := open_int Try.underlying3 (hval 2 3 v2 rfl rfl) k2
  clear hA0 hval0
  refine (walk E0 A0 n0 c0 x0 a1 a2 W h0).mono fun e W' ⟨he, bel⟩ => ?_
  subst he
  exact ⟨_, rfl, _, _, _, [], _, [], hW', trodAll_mk1 (shut_bool Try.underlying4 _), (trodAll_cons_mk (Below.trod laid_out (by kernel_rfl) (of_decide_eq_true (by kernel_rfl)) k0 bel lt0) (trodAll_cons_mk (shut_int Try.underlying3 w1) (trodAll_cons_mk (shut_int Try.underlying3 w2) trodAll_mk0))), rfl, bel.frame _, fun h => by cases h⟩

theorem over : Rows.fnExactMergeElementsRow.holds Try.pinned (OpenSpec.ofChange Rows.fnExactMergeElementsSpec) :=
  OpenClaim.holds_of_wide 4 Try.f4 rfl rfl rfl rfl rfl rfl rfl ⟨rfl, rfl, rfl, rfl, rfl⟩ rfl rfl rfl rfl rfl (by kernel_rfl) Try.func4 (by kernel_rfl)
    (of_decide_eq_true (by kernel_rfl)) (by unfold Func.isWrapper; first | (rw [if_pos (by decide +kernel)]; kernel_rfl) | (rw [if_neg (by decide +kernel)]; exact ⟨rfl, rfl⟩))
    (fun os started H enc _ => lifted os started H enc)

theorem proved : Rows.FnExactMergeElementsSaid := over
#print axioms proved
end Go.Proofs.Ytfmibekefllhjaa.fnExactMergeElements
