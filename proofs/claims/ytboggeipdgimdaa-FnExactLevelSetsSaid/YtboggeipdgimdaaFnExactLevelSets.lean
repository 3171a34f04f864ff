/- The law FnExactLevelSets returns true for every input, and leaves its arguments as they were. No condition. -/
import Derived.Test.YtboggeipdgimdaaFrame
import Derived.Test.YtboggeipdgimdaaLev2
import Derived.Test.YtboggeipdgimdaaLawKit
namespace Go.Proofs.Ytboggeipdgimdaa.fnExactLevelSets
open Go.ChangeShapes Go.WideShapes Go.ChangeAt Go.RowKit Go.Joins
set_option maxHeartbeats 1000000 in
theorem walk (A0 : Option Addr) (n0 c0 : Nat) (x0 : List Int) (w : World) (h0 : Ints w A0 n0 x0) :
    Calls Try.prog 10 #[.slice A0 n0 c0] w fun e w' => e = .returned (.bool true) ∧ Below w.heap.size w w' := by
  have hle0 := h0.le
  by_cases hn0 : n0 ≤ 1048576
  case neg =>
    go_enter Try.func10, Try.ntmps10
    go_wp2
    go_ret
    exact ⟨rfl, (Below.refl w.heap.size w)⟩
  go_enter Try.func10, Try.ntmps10
  have B := Below.refl w.heap.size w
  have i0 := h0
  go_wp2_with fail
  refine (toIntS_any A0 n0 c0 x0 w i0 hn0).mono ?_
  rintro e w1 ⟨rfl, os0, b1⟩
  have sb1 : w.heap.size ≤ w1.heap.size := b1.size
  replace B := B.trans (b1.mono B.size)
  replace i0 := i0.below b1 (Nat.le_refl _)
  have rs0 := hide (Own.range os0)
  go_wp2_with fail
  refine (specLevelSets_any (some ⟨w.heap.size, 0, none⟩) n0 n0 x0 w1 os0.ints).mono ?_
  rintro e w2 ⟨AS, nS, cS, rfl, oS, mS, b2⟩
  have sb2 : w1.heap.size ≤ w2.heap.size := b2.size
  replace B := B.trans (b2.mono B.size)
  replace i0 := i0.below b2 (Nat.le_refl _)
  replace os0 := os0.below b2 (Nat.le_refl _)
  have rS := hide (Own.range oS)
  clear os0
  go_wp2_with fail
  refine (toIntS_any A0 n0 c0 x0 w2 i0 hn0).mono ?_
  rintro e w3 ⟨rfl, ox0, b3⟩
  have sb3 : w2.heap.size ≤ w3.heap.size := b3.size
  replace B := B.trans (b3.mono B.size)
  replace i0 := i0.below b3 (Nat.le_refl _)
  replace oS := oS.below b3 (Nat.le_refl _)
  have rx0 := hide (Own.range ox0)
  go_wp2_with fail
  refine (levelSets_any (some ⟨w2.heap.size, 0, none⟩) n0 n0 x0 w3 ox0.ints).mono ?_
  rintro e w4 ⟨AG, nG, cG, rfl, oG, mG, b4⟩
  have sb4 : w3.heap.size ≤ w4.heap.size := b4.size
  replace B := B.trans (b4.mono B.size)
  replace i0 := i0.below b4 (Nat.le_refl _)
  replace oS := oS.below b4 (Nat.le_refl _)
  replace ox0 := ox0.below b4 (Nat.le_refl _)
  have rG := hide (Own.range oG)
  go_wp2_with fail
  refine (eqIntS_any AG AS nG nS cG cS _ _ w4 oG.ints oS.ints).mono ?_
  rintro e w5 ⟨rfl, b5⟩
  have sb5 : w4.heap.size ≤ w5.heap.size := b5.size
  replace B := B.trans (b5.mono B.size)
  replace i0 := i0.below b5 (Nat.le_refl _)
  replace oS := oS.below b5 (Nat.le_refl _)
  replace ox0 := ox0.below b5 (Nat.le_refl _)
  replace oG := oG.below b5 (Nat.le_refl _)
  go_wp2_with fail
  refine (toIntS_any A0 n0 c0 x0 w5 i0 hn0).mono ?_
  rintro e w6 ⟨rfl, ot, b6⟩
  have sb6 : w5.heap.size ≤ w6.heap.size := b6.size
  replace B := B.trans (b6.mono B.size)
  replace i0 := i0.below b6 (Nat.le_refl _)
  replace oS := oS.below b6 (Nat.le_refl _)
  replace ox0 := ox0.below b6 (Nat.le_refl _)
  replace oG := oG.below b6 (Nat.le_refl _)
  have rt := hide (Own.range ot)
  go_wp2_with fail
  refine (eqIntS_any (some ⟨w2.heap.size, 0, none⟩) (some ⟨w5.heap.size, 0, none⟩) n0 n0 n0 n0 x0 x0 w6 ox0.ints ot.ints).mono ?_
  rintro e w7 ⟨rfl, b7⟩
  have sb7 : w6.heap.size ≤ w7.heap.size := b7.size
  replace B := B.trans (b7.mono B.size)
  replace i0 := i0.below b7 (Nat.le_refl _)
  replace oS := oS.below b7 (Nat.le_refl _)
  replace ox0 := ox0.below b7 (Nat.le_refl _)
  replace oG := oG.below b7 (Nat.le_refl _)
  replace ot := ot.below b7 (Nat.le_refl _)
  clear ot
  go_wp2_with fail
  refine (markIntS_any _ (some ⟨w2.heap.size, 0, none⟩) n0 n0 x0 _ w7 ox0 hn0 (by omega) (by omega)).mono ?_
  rintro e w8 ⟨rfl, tx0, b8⟩
  have s8 := b8.size
  replace B := B.grown b8 B.size (fun k hk => by
    obtain ⟨g, hA, rfl⟩ := row_of ox0 hk; have := rx0.out g hA; omega)
  replace i0 := h0.below B (Nat.le_refl _)
  replace oS := oS.grown b8 (fun g hA hk => by obtain ⟨g2, hA2, rfl⟩ := row_of ox0 hk.symm; have := rx0.out _ hA2; have := rS.out _ hA; omega)
  replace oG := oG.grown b8 (fun g hA hk => by obtain ⟨g2, hA2, rfl⟩ := row_of ox0 hk.symm; have := rx0.out _ hA2; have := rG.out _ hA; omega)
  clear ox0 tx0
  go_wp2_with fail
  refine (eqIntS_any AG AS nG nS cG cS _ _ w8 oG.ints oS.ints).mono ?_
  rintro e w9 ⟨rfl, b9⟩
  have sb9 : w8.heap.size ≤ w9.heap.size := b9.size
  replace B := B.trans (b9.mono B.size)
  replace i0 := i0.below b9 (Nat.le_refl _)
  replace oS := oS.below b9 (Nat.le_refl _)
  replace oG := oG.below b9 (Nat.le_refl _)
  go_wp2_with fail
  refine (markIntS_any _ AG nG cG _ 1 w9 oG mG (by omega) (by omega)).mono ?_
  rintro e w10 ⟨rfl, oM, b10⟩
  have s10 := b10.size
  replace B := B.grown b10 B.size (fun k hk => by
    obtain ⟨g, hA, rfl⟩ := row_of oG hk; have := rG.out g hA; omega)
  replace i0 := h0.below B (Nat.le_refl _)
  replace oS := oS.grown b10 (fun g hA hk => by obtain ⟨g2, hA2, rfl⟩ := row_of oG hk.symm; have := rG.out _ hA2; have := rS.out _ hA; omega)
  replace oG := oM
  clear oM
  go_wp2_with fail
  refine (heldIntS_any AG nG cG 1 w10 oG.ints mG (by omega) (by omega)).mono ?_
  rintro e w' ⟨rfl, rfl⟩
  go_wp2_with fail
  refine (toIntS_any A0 n0 c0 x0 w10 i0 hn0).mono ?_
  rintro e w11 ⟨rfl, oh0, b11⟩
  have sb11 : w10.heap.size ≤ w11.heap.size := b11.size
  replace B := B.trans (b11.mono B.size)
  replace i0 := i0.below b11 (Nat.le_refl _)
  replace oS := oS.below b11 (Nat.le_refl _)
  replace oG := oG.below b11 (Nat.le_refl _)
  have rh0 := hide (Own.range oh0)
  go_wp2_with fail
  refine (levelSets_any (some ⟨w10.heap.size, 0, none⟩) n0 n0 x0 w11 oh0.ints).mono ?_
  rintro e w12 ⟨AH, nH, cH, rfl, oH, mH, b12⟩
  have sb12 : w11.heap.size ≤ w12.heap.size := b12.size
  replace B := B.trans (b12.mono B.size)
  replace i0 := i0.below b12 (Nat.le_refl _)
  replace oS := oS.below b12 (Nat.le_refl _)
  replace oG := oG.below b12 (Nat.le_refl _)
  replace oh0 := oh0.below b12 (Nat.le_refl _)
  have rH := hide (Own.range oH)
  go_wp2_with fail
  refine (eqIntS_any AH AS nH nS cH cS _ _ w12 oH.ints oS.ints).mono ?_
  rintro e w13 ⟨rfl, b13⟩
  have sb13 : w12.heap.size ≤ w13.heap.size := b13.size
  replace B := B.trans (b13.mono B.size)
  replace i0 := i0.below b13 (Nat.le_refl _)
  replace oS := oS.below b13 (Nat.le_refl _)
  replace oG := oG.below b13 (Nat.le_refl _)
  replace oh0 := oh0.below b13 (Nat.le_refl _)
  replace oH := oH.below b13 (Nat.le_refl _)
  go_wp2_with fail
  refine (heldIntS_any AG nG cG 1 w13 oG.ints mG (by omega) (by omega)).mono ?_
  rintro e w' ⟨rfl, rfl⟩
  go_wp2
  go_ret
  exact ⟨rfl, B⟩

set_option maxRecDepth 100000 in
theorem lifted (os : Os) (started : os.Started) (H : Type) (enc : TypeId × Value → H) :
    ReturnsInHanded {} Try.checked os 10 .any (Rows.fnExactLevelSetsSpec.pre6 enc Try.prog Try.f10 Rows.fnExactLevelSetsRow.domain false) (Rows.fnExactLevelSetsSpec.post enc Try.prog Try.f10 false true false false) := by
  refine returnsInHanded_of_change (C := Try.checked) own_knob started (by kernel_rfl) Try.func10
    (ChangeSpec.witness6 (enc := enc) (C := Try.checked) false ⟨#[], #[.slice none 0 0], []⟩ 8 (by kernel_rfl) (by kernel_rfl) (by kernel_rfl) (by kernel_rfl)) ?_
  intro W base args ds gs before hval0 hW _ _
  have hval : ∀ (j : Nat) t v, Try.f10.params[j]? = some t → args[j]? = some v → Value.okWide Try.prog W .any base t v := hval0
  have hW' := hW
  obtain ⟨p, q, hA0, hV, rfl, _, _⟩ := hW
  have hA : DataW.TrodAll enc Try.prog W 0 (fun _ => true) true Try.f10.params.toList args.toList ds p := hA0
  rw [Try.params10] at hA hval
  obtain ⟨v0, vs0, d0, ds0, p0, q0, hargs, rfl, rfl, k0, r0⟩ := trodAll_cons hA
  obtain ⟨rfl, rfl, rfl⟩ := trodAll_nil r0
  obtain rfl : args = #[v0] := by cases args; simp_all
  obtain ⟨rfl, rfl⟩ := trodVars_none hV
  obtain ⟨A0, n0, c0, x0, rfl, h0⟩ := open_list (hval 0 22 v0 rfl rfl) k0
  have lt0 : ∀ x ∈ p0, x.block < W.heap.size := by obtain ⟨m, hm⟩ := k0; exact DataW.trod_lt m _ _ _ hm
  clear hA0 hval0
  refine (walk A0 n0 c0 x0 W h0).mono fun e W' ⟨he, bel⟩ => ?_
  subst he
  exact ⟨_, rfl, _, _, _, [], _, [], hW', trodAll_mk1 (shut_bool Try.underlying4 _), (trodAll_cons_mk (Below.trod laid_out (by kernel_rfl) (of_decide_eq_true (by kernel_rfl)) k0 bel lt0) trodAll_mk0), rfl, bel.frame _, fun h => by cases h⟩

theorem over : Rows.fnExactLevelSetsRow.holds Try.pinned (OpenSpec.ofChange Rows.fnExactLevelSetsSpec) :=
  OpenClaim.holds_of_wide 10 Try.f10 rfl rfl rfl rfl rfl rfl rfl ⟨rfl, rfl, rfl, rfl, rfl⟩ rfl rfl rfl rfl rfl (by kernel_rfl) Try.func10 (by kernel_rfl)
    (of_decide_eq_true (by kernel_rfl)) (by unfold Func.isWrapper; first | (rw [if_pos (by decide +kernel)]; kernel_rfl) | (rw [if_neg (by decide +kernel)]; exact ⟨rfl, rfl⟩))
    (fun os started H enc _ => lifted os started H enc)

theorem proved : Rows.FnExactLevelSetsSaid := over
#print axioms proved
end Go.Proofs.Ytboggeipdgimdaa.fnExactLevelSets
