/- The law FnExactMinimumCut returns true for every input, and leaves its arguments as they were. No condition. -/
import Derived.Test.YtfmibekefllhjaaFrame
import Derived.Test.YtfmibekefllhjaaPend
import Derived.Test.YtfmibekefllhjaaLawKit
import Derived.Deep.RegionHeld3
namespace Go.Proofs.Ytfmibekefllhjaa.fnExactMinimumCut
open Go.ChangeShapes Go.WideShapes Go.ChangeAt Go.RowKit Go.Joins
theorem walk (E0 : Int) (A0 : Option Addr) (n0 c0 : Nat) (x0 : List Int) (w : World) (h0 : Ints w A0 n0 x0) :
    Calls Try.prog 5 #[.agg #[.int .i64 E0, .slice A0 n0 c0]] w fun e w' => e = .returned (.bool true) ∧ Below w.heap.size w w' := by
  have hle0 := h0.le
  by_cases hn0 : n0 ≤ 1048576
  case neg =>
    go_enter Try.func5, Try.ntmps5
    go_wp2_with fail
    refine (szFunction_big E0 A0 n0 c0 _ (by omega) hle0).mono ?_
    rintro e w1 ⟨rfl, b1⟩
    go_wp2
    go_ret
    exact ⟨rfl, ((Below.refl w.heap.size w).alloc (Nat.le_refl _) (.cells #[.int .i64 E0, .slice A0 n0 c0] 24)).trans (b1.mono (by simp))⟩
  go_enter Try.func5, Try.ntmps5
  have B := Below.refl w.heap.size w
  have i0 := h0
  replace i0 := i0.alloc (.cells #[.int .i64 E0, .slice A0 n0 c0] 24)
  have qF0 : (w.alloc (.cells #[.int .i64 E0, .slice A0 n0 c0] 24)).cell? ⟨w.heap.size, 0, none⟩ = some (.int .i64 E0) := by rw [World.cell?_alloc_at _ _ _ _ rfl]; rfl
  have qF1 : (w.alloc (.cells #[.int .i64 E0, .slice A0 n0 c0] 24)).cell? ⟨w.heap.size, 1, none⟩ = some (.slice A0 n0 c0) := by rw [World.cell?_alloc_at _ _ _ _ rfl]; rfl
  have yF : w.heap.size < (w.alloc (.cells #[.int .i64 E0, .slice A0 n0 c0] 24)).heap.size := by simp
  replace B := B.alloc B.size (.cells #[.int .i64 E0, .slice A0 n0 c0] 24)
  go_wp2_with fail
  refine (szFunction_ok E0 A0 n0 c0 (w.alloc (.cells #[.int .i64 E0, .slice A0 n0 c0] 24)) hn0).mono ?_
  rintro e w1 ⟨rfl, b1⟩
  replace B := B.trans (b1.mono B.size)
  replace i0 := i0.below b1 (Nat.le_refl _)
  replace qF0 := (b1.cell (p := ⟨w.heap.size, 0, none⟩) yF).trans qF0
  replace qF1 := (b1.cell (p := ⟨w.heap.size, 1, none⟩) yF).trans qF1
  replace yF := Nat.lt_of_lt_of_le yF b1.size
  go_wp2_with fail
  refine (toFunction_any E0 A0 n0 c0 x0 w1 i0 hn0).mono ?_
  rintro e w2 ⟨gs0, rfl, os0, b2⟩
  replace B := B.trans (b2.mono B.size)
  replace i0 := i0.below b2 (Nat.le_refl _)
  replace qF0 := (b2.cell (p := ⟨w.heap.size, 0, none⟩) yF).trans qF0
  replace qF1 := (b2.cell (p := ⟨w.heap.size, 1, none⟩) yF).trans qF1
  replace yF := Nat.lt_of_lt_of_le yF b2.size
  go_wp2_with fail
  refine (specMinimumCut_any E0 (some ⟨gs0, 0, none⟩) n0 n0 x0 w2 os0.ints).mono ?_
  rintro e w3 ⟨rfl, b3⟩
  replace B := B.trans (b3.mono B.size)
  replace i0 := i0.below b3 (Nat.le_refl _)
  replace qF0 := (b3.cell (p := ⟨w.heap.size, 0, none⟩) yF).trans qF0
  replace qF1 := (b3.cell (p := ⟨w.heap.size, 1, none⟩) yF).trans qF1
  replace yF := Nat.lt_of_lt_of_le yF b3.size
  replace os0 := os0.below b3 (Nat.le_refl _)
  clear os0
  go_wp2_with fail
  refine (toFunction_any E0 A0 n0 c0 x0 w3 i0 hn0).mono ?_
  rintro e w4 ⟨gx0, rfl, ox0, b4⟩
  replace B := B.trans (b4.mono B.size)
  replace i0 := i0.below b4 (Nat.le_refl _)
  replace qF0 := (b4.cell (p := ⟨w.heap.size, 0, none⟩) yF).trans qF0
  replace qF1 := (b4.cell (p := ⟨w.heap.size, 1, none⟩) yF).trans qF1
  replace yF := Nat.lt_of_lt_of_le yF b4.size
  replace qF0 := (World.cell?_alloc_past (w := w4) (.cells #[.int .i64 E0, .slice (some ⟨gx0, 0, none⟩) n0 n0] 27) (w.heap.size) 0 yF).trans qF0
  replace qF1 := (World.cell?_alloc_past (w := w4) (.cells #[.int .i64 E0, .slice (some ⟨gx0, 0, none⟩) n0 n0] 27) (w.heap.size) 1 yF).trans qF1
  replace yF : w.heap.size < (w4.alloc (.cells #[.int .i64 E0, .slice (some ⟨gx0, 0, none⟩) n0 n0] 27)).heap.size := by simp; omega
  replace i0 := i0.alloc (.cells #[.int .i64 E0, .slice (some ⟨gx0, 0, none⟩) n0 n0] 27)
  replace ox0 := ox0.alloc (.cells #[.int .i64 E0, .slice (some ⟨gx0, 0, none⟩) n0 n0] 27)
  have qX0 : (w4.alloc (.cells #[.int .i64 E0, .slice (some ⟨gx0, 0, none⟩) n0 n0] 27)).cell? ⟨w4.heap.size, 0, none⟩ = some (.int .i64 E0) := by rw [World.cell?_alloc_at _ _ _ _ rfl]; rfl
  have qX1 : (w4.alloc (.cells #[.int .i64 E0, .slice (some ⟨gx0, 0, none⟩) n0 n0] 27)).cell? ⟨w4.heap.size, 1, none⟩ = some (.slice (some ⟨gx0, 0, none⟩) n0 n0) := by rw [World.cell?_alloc_at _ _ _ _ rfl]; rfl
  have yX : w4.heap.size < (w4.alloc (.cells #[.int .i64 E0, .slice (some ⟨gx0, 0, none⟩) n0 n0] 27)).heap.size := by simp
  replace B := B.alloc B.size (.cells #[.int .i64 E0, .slice (some ⟨gx0, 0, none⟩) n0 n0] 27)
  go_wp2_with fail
  refine (minimumCut_any E0 (some ⟨gx0, 0, none⟩) n0 n0 x0 (w4.alloc (.cells #[.int .i64 E0, .slice (some ⟨gx0, 0, none⟩) n0 n0] 27)) ox0.ints).mono ?_
  rintro e w5 ⟨rfl, b5⟩
  replace B := B.trans (b5.mono B.size)
  replace i0 := i0.below b5 (Nat.le_refl _)
  replace qF0 := (b5.cell (p := ⟨w.heap.size, 0, none⟩) yF).trans qF0
  replace qF1 := (b5.cell (p := ⟨w.heap.size, 1, none⟩) yF).trans qF1
  replace yF := Nat.lt_of_lt_of_le yF b5.size
  replace qX0 := (b5.cell (p := ⟨w4.heap.size, 0, none⟩) yX).trans qX0
  replace qX1 := (b5.cell (p := ⟨w4.heap.size, 1, none⟩) yX).trans qX1
  replace yX := Nat.lt_of_lt_of_le yX b5.size
  replace ox0 := ox0.below b5 (Nat.le_refl _)
  go_wp2
  have od : Own w5.drew _ _ _ _ _ := ox0
  go_region_held3 (fun w' => w'.cell? ⟨w4.heap.size, 0, none⟩ = some (.int .i64 E0) ∧ w'.cell? ⟨w4.heap.size, 1, none⟩ = some (.slice (some ⟨gx0, 0, none⟩) n0 n0) ∧ w'.cell? ⟨w.heap.size, 0, none⟩ = some (.int .i64 E0) ∧ w'.cell? ⟨w.heap.size, 1, none⟩ = some (.slice A0 n0 c0))
    (first
      | go_keep
      | exact ⟨(b7.cell (p := ⟨w4.heap.size, 0, none⟩) (Nat.lt_of_lt_of_le yX b6.size)).trans ((b6.cell (p := ⟨w4.heap.size, 0, none⟩) yX).trans qX0), (b7.cell (p := ⟨w4.heap.size, 1, none⟩) (Nat.lt_of_lt_of_le yX b6.size)).trans ((b6.cell (p := ⟨w4.heap.size, 1, none⟩) yX).trans qX1), (b7.cell (p := ⟨w.heap.size, 0, none⟩) (Nat.lt_of_lt_of_le yF b6.size)).trans ((b6.cell (p := ⟨w.heap.size, 0, none⟩) yF).trans qF0), (b7.cell (p := ⟨w.heap.size, 1, none⟩) (Nat.lt_of_lt_of_le yF b6.size)).trans ((b6.cell (p := ⟨w.heap.size, 1, none⟩) yF).trans qF1)⟩
      | exact ⟨(b6.cell (p := ⟨w4.heap.size, 0, none⟩) yX).trans qX0, (b6.cell (p := ⟨w4.heap.size, 1, none⟩) yX).trans qX1, (b6.cell (p := ⟨w.heap.size, 0, none⟩) yF).trans qF0, (b6.cell (p := ⟨w.heap.size, 1, none⟩) yF).trans qF1⟩)
    (first
      | (go_at_call 12; refine (toFunction_any E0 A0 n0 c0 x0 _ i0.drew hn0).mono ?_; rintro e w6 ⟨gt, rfl, ot, b6⟩)
      | (go_at_call 14; refine (eqFunction_any E0 E0 _ _ n0 n0 n0 n0 x0 x0 _ (od.below b6 (Nat.le_refl _)).ints ot.ints).mono ?_; rintro e w7 ⟨rfl, b7⟩))
  replace B : Below w.heap.size w w5.drew := B.drew
  replace i0 : Ints w5.drew A0 n0 x0 := i0
  replace ox0 : Own w5.drew _ _ _ _ _ := ox0
  replace B := B.trans (b6.mono B.size)
  replace i0 := i0.below b6 (Nat.le_refl _)
  replace qF0 := (b6.cell (p := ⟨w.heap.size, 0, none⟩) yF).trans qF0
  replace qF1 := (b6.cell (p := ⟨w.heap.size, 1, none⟩) yF).trans qF1
  replace yF := Nat.lt_of_lt_of_le yF b6.size
  replace qX0 := (b6.cell (p := ⟨w4.heap.size, 0, none⟩) yX).trans qX0
  replace qX1 := (b6.cell (p := ⟨w4.heap.size, 1, none⟩) yX).trans qX1
  replace yX := Nat.lt_of_lt_of_le yX b6.size
  replace ox0 := ox0.below b6 (Nat.le_refl _)
  replace B := B.trans (b7.mono B.size)
  replace i0 := i0.below b7 (Nat.le_refl _)
  replace qF0 := (b7.cell (p := ⟨w.heap.size, 0, none⟩) yF).trans qF0
  replace qF1 := (b7.cell (p := ⟨w.heap.size, 1, none⟩) yF).trans qF1
  replace yF := Nat.lt_of_lt_of_le yF b7.size
  replace qX0 := (b7.cell (p := ⟨w4.heap.size, 0, none⟩) yX).trans qX0
  replace qX1 := (b7.cell (p := ⟨w4.heap.size, 1, none⟩) yX).trans qX1
  replace yX := Nat.lt_of_lt_of_le yX b7.size
  replace ox0 := ox0.below b7 (Nat.le_refl _)
  clear od ot
  go_wp2
  go_ret
  exact ⟨rfl, B⟩

set_option maxRecDepth 100000 in
theorem lifted (os : Os) (started : os.Started) (H : Type) (enc : TypeId × Value → H) :
    ReturnsInHanded {} Try.checked os 5 .any (Rows.fnExactMinimumCutSpec.pre6 enc Try.prog Try.f5 Rows.fnExactMinimumCutRow.domain false) (Rows.fnExactMinimumCutSpec.post enc Try.prog Try.f5 false true false false) := by
  refine returnsInHanded_of_change (C := Try.checked) own_knob started (by kernel_rfl) Try.func5
    (ChangeSpec.witness6 (enc := enc) (C := Try.checked) false ⟨#[], #[.agg #[.int .i64 0, .slice none 0 0]], []⟩ 8 (by kernel_rfl) (by kernel_rfl) (by kernel_rfl) (by kernel_rfl)) ?_
  intro W base args ds gs before hval0 hW _ _
  have hval : ∀ (j : Nat) t v, Try.f5.params[j]? = some t → args[j]? = some v → Value.okWide Try.prog W .any base t v := hval0
  have hW' := hW
  obtain ⟨p, q, hA0, hV, rfl, _, _⟩ := hW
  have hA : DataW.TrodAll enc Try.prog W 0 (fun _ => true) true Try.f5.params.toList args.toList ds p := hA0
  rw [Try.params5] at hA hval
  obtain ⟨v0, vs0, d0, ds0, p0, q0, hargs, rfl, rfl, k0, r0⟩ := trodAll_cons hA
  obtain ⟨rfl, rfl, rfl⟩ := trodAll_nil r0
  obtain rfl : args = #[v0] := by cases args; simp_all
  obtain ⟨rfl, rfl⟩ := trodVars_none hV
  obtain ⟨E0, A0, n0, c0, x0, rfl, h0⟩ := open_fun (hval 0 24 v0 rfl rfl) k0
  have lt0 : ∀ x ∈ p0, x.block < W.heap.size := by obtain ⟨m, hm⟩ := k0; exact DataW.trod_lt m _ _ _ hm
  clear hA0 hval0
  refine (walk E0 A0 n0 c0 x0 W h0).mono fun e W' ⟨he, bel⟩ => ?_
  subst he
  exact ⟨_, rfl, _, _, _, [], _, [], hW', trodAll_mk1 (shut_bool Try.underlying4 _), (trodAll_cons_mk (Below.trod laid_out (by kernel_rfl) (of_decide_eq_true (by kernel_rfl)) k0 bel lt0) trodAll_mk0), rfl, bel.frame _, fun h => by cases h⟩

theorem over : Rows.fnExactMinimumCutRow.holds Try.pinned (OpenSpec.ofChange Rows.fnExactMinimumCutSpec) :=
  OpenClaim.holds_of_wide 5 Try.f5 rfl rfl rfl rfl rfl rfl rfl ⟨rfl, rfl, rfl, rfl, rfl⟩ rfl rfl rfl rfl rfl (by kernel_rfl) Try.func5 (by kernel_rfl)
    (of_decide_eq_true (by kernel_rfl)) (by unfold Func.isWrapper; first | (rw [if_pos (by decide +kernel)]; kernel_rfl) | (rw [if_neg (by decide +kernel)]; exact ⟨rfl, rfl⟩))
    (fun os started H enc _ => lifted os started H enc)

theorem proved : Rows.FnExactMinimumCutSaid := over
#print axioms proved
end Go.Proofs.Ytfmibekefllhjaa.fnExactMinimumCut
