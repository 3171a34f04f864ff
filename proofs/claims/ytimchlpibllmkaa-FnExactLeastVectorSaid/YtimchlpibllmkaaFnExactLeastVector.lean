/- The law FnExactLeastVector returns true for every input, and leaves its arguments as they were. No condition. -/
import Derived.Test.YtimchlpibllmkaaFrame
import Derived.Test.YtimchlpibllmkaaLeast
import Derived.Test.YtimchlpibllmkaaLawKit
namespace Go.Proofs.Ytimchlpibllmkaa.fnExactLeastVector
open Go.ChangeShapes Go.WideShapes Go.ChangeAt Go.RowKit Go.Joins
set_option maxHeartbeats 1000000 in
theorem walk (A0 : Option Addr) (n0 c0 : Nat) (x0 : List Int) (A1 : Option Addr) (n1 c1 : Nat) (x1 : List Int) (w : World) (h0 : Ints w A0 n0 x0) (h1 : Ints w A1 n1 x1) :
    Calls Try.prog 6 #[.slice A0 n0 c0, .slice A1 n1 c1] w fun e w' => e = .returned (.bool true) ∧ Below w.heap.size w w' := by
  have hle0 := h0.le
  have hle1 := h1.le
  by_cases hn0 : n0 ≤ 1048576
  case neg =>
    go_enter Try.func6, Try.ntmps6
    go_wp2
    go_ret
    exact ⟨rfl, (Below.refl w.heap.size w)⟩
  by_cases hn1 : n1 ≤ 1048576
  case neg =>
    go_enter Try.func6, Try.ntmps6
    go_wp2
    go_ret
    exact ⟨rfl, (Below.refl w.heap.size w)⟩
  go_enter Try.func6, Try.ntmps6
  have B := Below.refl w.heap.size w
  have i0 := h0
  have i1 := h1
  go_wp2_with fail
  refine (toIntS_any A0 n0 c0 x0 w i0 hn0).mono ?_
  rintro e w1 ⟨rfl, os0, b1⟩
  have sb1 : w.heap.size ≤ w1.heap.size := b1.size
  replace B := B.trans (b1.mono B.size)
  replace i0 := i0.below b1 (Nat.le_refl _)
  replace i1 := i1.below b1 (Nat.le_refl _)
  have rs0 := hide (Own.range os0)
  go_wp2_with fail
  refine (toIntS_any A1 n1 c1 x1 w1 i1 hn1).mono ?_
  rintro e w2 ⟨rfl, os1, b2⟩
  have sb2 : w1.heap.size ≤ w2.heap.size := b2.size
  replace B := B.trans (b2.mono B.size)
  replace i0 := i0.below b2 (Nat.le_refl _)
  replace i1 := i1.below b2 (Nat.le_refl _)
  replace os0 := os0.below b2 (Nat.le_refl _)
  have rs1 := hide (Own.range os1)
  go_wp2_with fail
  refine (specLeastVector_any (some ⟨w.heap.size, 0, none⟩) n0 n0 x0 (some ⟨w1.heap.size, 0, none⟩) n1 n1 x1 w2 os0.ints os1.ints).mono ?_
  rintro e w3 ⟨AS, nS, cS, rfl, oS, mS, b3⟩
  have sb3 : w2.heap.size ≤ w3.heap.size := b3.size
  replace B := B.trans (b3.mono B.size)
  replace i0 := i0.below b3 (Nat.le_refl _)
  replace i1 := i1.below b3 (Nat.le_refl _)
  replace os0 := os0.below b3 (Nat.le_refl _)
  replace os1 := os1.below b3 (Nat.le_refl _)
  have rS := hide (Own.range oS)
  clear os0 os1
  go_wp2_with fail
  refine (toIntS_any A0 n0 c0 x0 w3 i0 hn0).mono ?_
  rintro e w4 ⟨rfl, ox0, b4⟩
  have sb4 : w3.heap.size ≤ w4.heap.size := b4.size
  replace B := B.trans (b4.mono B.size)
  replace i0 := i0.below b4 (Nat.le_refl _)
  replace i1 := i1.below b4 (Nat.le_refl _)
  replace oS := oS.below b4 (Nat.le_refl _)
  have rx0 := hide (Own.range ox0)
  go_wp2_with fail
  refine (toIntS_any A1 n1 c1 x1 w4 i1 hn1).mono ?_
  rintro e w5 ⟨rfl, ox1, b5⟩
  have sb5 : w4.heap.size ≤ w5.heap.size := b5.size
  replace B := B.trans (b5.mono B.size)
  replace i0 := i0.below b5 (Nat.le_refl _)
  replace i1 := i1.below b5 (Nat.le_refl _)
  replace oS := oS.below b5 (Nat.le_refl _)
  replace ox0 := ox0.below b5 (Nat.le_refl _)
  have rx1 := hide (Own.range ox1)
  go_wp2_with fail
  refine (leastVector_any (some ⟨w3.heap.size, 0, none⟩) n0 n0 x0 (some ⟨w4.heap.size, 0, none⟩) n1 n1 x1 w5 ox0.ints ox1.ints).mono ?_
  rintro e w6 ⟨AG, nG, cG, rfl, oG, mG, b6⟩
  have sb6 : w5.heap.size ≤ w6.heap.size := b6.size
  replace B := B.trans (b6.mono B.size)
  replace i0 := i0.below b6 (Nat.le_refl _)
  replace i1 := i1.below b6 (Nat.le_refl _)
  replace oS := oS.below b6 (Nat.le_refl _)
  replace ox0 := ox0.below b6 (Nat.le_refl _)
  replace ox1 := ox1.below b6 (Nat.le_refl _)
  have rG := hide (Own.range oG)
  go_wp2_with fail
  refine (eqIntS_any AG AS nG nS cG cS _ _ w6 oG.ints oS.ints).mono ?_
  rintro e w7 ⟨rfl, b7⟩
  have sb7 : w6.heap.size ≤ w7.heap.size := b7.size
  replace B := B.trans (b7.mono B.size)
  replace i0 := i0.below b7 (Nat.le_refl _)
  replace i1 := i1.below b7 (Nat.le_refl _)
  replace oS := oS.below b7 (Nat.le_refl _)
  replace ox0 := ox0.below b7 (Nat.le_refl _)
  replace ox1 := ox1.below b7 (Nat.le_refl _)
  replace oG := oG.below b7 (Nat.le_refl _)
  go_wp2_with fail
  refine (toIntS_any A0 n0 c0 x0 w7 i0 hn0).mono ?_
  rintro e w8 ⟨rfl, ot, b8⟩
  have sb8 : w7.heap.size ≤ w8.heap.size := b8.size
  replace B := B.trans (b8.mono B.size)
  replace i0 := i0.below b8 (Nat.le_refl _)
  replace i1 := i1.below b8 (Nat.le_refl _)
  replace oS := oS.below b8 (Nat.le_refl _)
  replace ox0 := ox0.below b8 (Nat.le_refl _)
  replace ox1 := ox1.below b8 (Nat.le_refl _)
  replace oG := oG.below b8 (Nat.le_refl _)
  have rt := hide (Own.range ot)
  go_wp2_with fail
  refine (eqIntS_any (some ⟨w3.heap.size, 0, none⟩) (some ⟨w7.heap.size, 0, none⟩) n0 n0 n0 n0 x0 x0 w8 ox0.ints ot.ints).mono ?_
  rintro e w9 ⟨rfl, b9⟩
  have sb9 : w8.heap.size ≤ w9.heap.size := b9.size
  replace B := B.trans (b9.mono B.size)
  replace i0 := i0.below b9 (Nat.le_refl _)
  replace i1 := i1.below b9 (Nat.le_refl _)
  replace oS := oS.below b9 (Nat.le_refl _)
  replace ox0 := ox0.below b9 (Nat.le_refl _)
  replace ox1 := ox1.below b9 (Nat.le_refl _)
  replace oG := oG.below b9 (Nat.le_refl _)
  replace ot := ot.below b9 (Nat.le_refl _)
  clear ot
  go_wp2_with fail
  refine (toIntS_any A1 n1 c1 x1 w9 i1 hn1).mono ?_
  rintro e w10 ⟨rfl, ot, b10⟩
  have sb10 : w9.heap.size ≤ w10.heap.size := b10.size
  replace B := B.trans (b10.mono B.size)
  replace i0 := i0.below b10 (Nat.le_refl _)
  replace i1 := i1.below b10 (Nat.le_refl _)
  replace oS := oS.below b10 (Nat.le_refl _)
  replace ox0 := ox0.below b10 (Nat.le_refl _)
  replace ox1 := ox1.below b10 (Nat.le_refl _)
  replace oG := oG.below b10 (Nat.le_refl _)
  have rt := hide (Own.range ot)
  go_wp2_with fail
  refine (eqIntS_any (some ⟨w4.heap.size, 0, none⟩) (some ⟨w9.heap.size, 0, none⟩) n1 n1 n1 n1 x1 x1 w10 ox1.ints ot.ints).mono ?_
  rintro e w11 ⟨rfl, b11⟩
  have sb11 : w10.heap.size ≤ w11.heap.size := b11.size
  replace B := B.trans (b11.mono B.size)
  replace i0 := i0.below b11 (Nat.le_refl _)
  replace i1 := i1.below b11 (Nat.le_refl _)
  replace oS := oS.below b11 (Nat.le_refl _)
  replace ox0 := ox0.below b11 (Nat.le_refl _)
  replace ox1 := ox1.below b11 (Nat.le_refl _)
  replace oG := oG.below b11 (Nat.le_refl _)
  replace ot := ot.below b11 (Nat.le_refl _)
  clear ot
  go_wp2_with fail
  refine (markIntS_any _ (some ⟨w3.heap.size, 0, none⟩) n0 n0 x0 _ w11 ox0 hn0 (by omega) (by omega)).mono ?_
  rintro e w12 ⟨rfl, tx0, b12⟩
  have s12 := b12.size
  replace B := B.grown b12 B.size (fun k hk => by
    obtain ⟨g, hA, rfl⟩ := row_of ox0 hk; have := rx0.out g hA; omega)
  replace i0 := h0.below B (Nat.le_refl _)
  replace i1 := h1.below B (Nat.le_refl _)
  replace oS := oS.grown b12 (fun g hA hk => by obtain ⟨g2, hA2, rfl⟩ := row_of ox0 hk.symm; have := rx0.out _ hA2; have := rS.out _ hA; omega)
  replace ox1 := ox1.grown b12 (fun g hA hk => by obtain ⟨g2, hA2, rfl⟩ := row_of ox0 hk.symm; have := rx0.out _ hA2; have := rx1.out _ hA; omega)
  replace oG := oG.grown b12 (fun g hA hk => by obtain ⟨g2, hA2, rfl⟩ := row_of ox0 hk.symm; have := rx0.out _ hA2; have := rG.out _ hA; omega)
  clear ox0 tx0
  go_wp2_with fail
  refine (markIntS_any _ (some ⟨w4.heap.size, 0, none⟩) n1 n1 x1 _ w12 ox1 hn1 (by omega) (by omega)).mono ?_
  rintro e w13 ⟨rfl, tx1, b13⟩
  have s13 := b13.size
  replace B := B.grown b13 B.size (fun k hk => by
    obtain ⟨g, hA, rfl⟩ := row_of ox1 hk; have := rx1.out g hA; omega)
  replace i0 := h0.below B (Nat.le_refl _)
  replace i1 := h1.below B (Nat.le_refl _)
  replace oS := oS.grown b13 (fun g hA hk => by obtain ⟨g2, hA2, rfl⟩ := row_of ox1 hk.symm; have := rx1.out _ hA2; have := rS.out _ hA; omega)
  replace oG := oG.grown b13 (fun g hA hk => by obtain ⟨g2, hA2, rfl⟩ := row_of ox1 hk.symm; have := rx1.out _ hA2; have := rG.out _ hA; omega)
  clear ox1 tx1
  go_wp2_with fail
  refine (eqIntS_any AG AS nG nS cG cS _ _ w13 oG.ints oS.ints).mono ?_
  rintro e w14 ⟨rfl, b14⟩
  have sb14 : w13.heap.size ≤ w14.heap.size := b14.size
  replace B := B.trans (b14.mono B.size)
  replace i0 := i0.below b14 (Nat.le_refl _)
  replace i1 := i1.below b14 (Nat.le_refl _)
  replace oS := oS.below b14 (Nat.le_refl _)
  replace oG := oG.below b14 (Nat.le_refl _)
  go_wp2_with fail
  refine (markIntS_any _ AG nG cG _ 1 w14 oG mG (by omega) (by omega)).mono ?_
  rintro e w15 ⟨rfl, oM, b15⟩
  have s15 := b15.size
  replace B := B.grown b15 B.size (fun k hk => by
    obtain ⟨g, hA, rfl⟩ := row_of oG hk; have := rG.out g hA; omega)
  replace i0 := h0.below B (Nat.le_refl _)
  replace i1 := h1.below B (Nat.le_refl _)
  replace oS := oS.grown b15 (fun g hA hk => by obtain ⟨g2, hA2, rfl⟩ := row_of oG hk.symm; have := rG.out _ hA2; have := rS.out _ hA; omega)
  replace oG := oM
  clear oM
  go_wp2_with fail
  refine (heldIntS_any AG nG cG 1 w15 oG.ints mG (by omega) (by omega)).mono ?_
  rintro e w' ⟨rfl, rfl⟩
  go_wp2_with fail
  refine (toIntS_any A0 n0 c0 x0 w15 i0 hn0).mono ?_
  rintro e w16 ⟨rfl, oh0, b16⟩
  have sb16 : w15.heap.size ≤ w16.heap.size := b16.size
  replace B := B.trans (b16.mono B.size)
  replace i0 := i0.below b16 (Nat.le_refl _)
  replace i1 := i1.below b16 (Nat.le_refl _)
  replace oS := oS.below b16 (Nat.le_refl _)
  replace oG := oG.below b16 (Nat.le_refl _)
  have rh0 := hide (Own.range oh0)
  go_wp2_with fail
  refine (toIntS_any A1 n1 c1 x1 w16 i1 hn1).mono ?_
  rintro e w17 ⟨rfl, oh1, b17⟩
  have sb17 : w16.heap.size ≤ w17.heap.size := b17.size
  replace B := B.trans (b17.mono B.size)
  replace i0 := i0.below b17 (Nat.le_refl _)
  replace i1 := i1.below b17 (Nat.le_refl _)
  replace oS := oS.below b17 (Nat.le_refl _)
  replace oG := oG.below b17 (Nat.le_refl _)
  replace oh0 := oh0.below b17 (Nat.le_refl _)
  have rh1 := hide (Own.range oh1)
  go_wp2_with fail
  refine (leastVector_any (some ⟨w15.heap.size, 0, none⟩) n0 n0 x0 (some ⟨w16.heap.size, 0, none⟩) n1 n1 x1 w17 oh0.ints oh1.ints).mono ?_
  rintro e w18 ⟨AH, nH, cH, rfl, oH, mH, b18⟩
  have sb18 : w17.heap.size ≤ w18.heap.size := b18.size
  replace B := B.trans (b18.mono B.size)
  replace i0 := i0.below b18 (Nat.le_refl _)
  replace i1 := i1.below b18 (Nat.le_refl _)
  replace oS := oS.below b18 (Nat.le_refl _)
  replace oG := oG.below b18 (Nat.le_refl _)
  replace oh0 := oh0.below b18 (Nat.le_refl _)
  replace oh1 := oh1.below b18 (Nat.le_refl _)
  have rH := hide (Own.range oH)
  go_wp2_with fail
  refine (eqIntS_any AH AS nH nS cH cS _ _ w18 oH.ints oS.ints).mono ?_
  rintro e w19 ⟨rfl, b19⟩
  have sb19 : w18.heap.size ≤ w19.heap.size := b19.size
  replace B := B.trans (b19.mono B.size)
  replace i0 := i0.below b19 (Nat.le_refl _)
  replace i1 := i1.below b19 (Nat.le_refl _)
  replace oS := oS.below b19 (Nat.le_refl _)
  replace oG := oG.below b19 (Nat.le_refl _)
  replace oh0 := oh0.below b19 (Nat.le_refl _)
  replace oh1 := oh1.below b19 (Nat.le_refl _)
  replace oH := oH.below b19 (Nat.le_refl _)
  go_wp2_with fail
  refine (heldIntS_any AG nG cG 1 w19 oG.ints mG (by omega) (by omega)).mono ?_
  rintro e w' ⟨rfl, rfl⟩
  go_wp2
  go_ret
  exact ⟨rfl, B⟩

set_option maxRecDepth 100000 in
theorem lifted (os : Os) (started : os.Started) (H : Type) (enc : TypeId × Value → H) :
    ReturnsInHanded {} Try.checked os 6 .any (Rows.fnExactLeastVectorSpec.pre6 enc Try.prog Try.f6 Rows.fnExactLeastVectorRow.domain false) (Rows.fnExactLeastVectorSpec.post enc Try.prog Try.f6 false true false false) := by
  refine returnsInHanded_of_change (C := Try.checked) own_knob started (by kernel_rfl) Try.func6
    (ChangeSpec.witness6 (enc := enc) (C := Try.checked) false ⟨#[], #[.slice none 0 0, .slice none 0 0], []⟩ 8 (by kernel_rfl) (by kernel_rfl) (by kernel_rfl) (by kernel_rfl)) ?_
  intro W base args ds gs before hval0 hW _ _
  have hval : ∀ (j : Nat) t v, Try.f6.params[j]? = some t → args[j]? = some v → Value.okWide Try.prog W .any base t v := hval0
  have hW' := hW
  obtain ⟨p, q, hA0, hV, rfl, _, _⟩ := hW
  have hA : DataW.TrodAll enc Try.prog W 0 (fun _ => true) true Try.f6.params.toList args.toList ds p := hA0
  rw [Try.params6] at hA hval
  obtain ⟨v0, vs0, d0, ds0, p0, q0, hargs, rfl, rfl, k0, r0⟩ := trodAll_cons hA
  obtain ⟨v1, vs1, d1, ds1, p1, q1, rfl, rfl, rfl, k1, r1⟩ := trodAll_cons r0
  obtain ⟨rfl, rfl, rfl⟩ := trodAll_nil r1
  obtain rfl : args = #[v0, v1] := by cases args; simp_all
  obtain ⟨rfl, rfl⟩ := trodVars_none hV
  obtain ⟨A0, n0, c0, x0, rfl, h0⟩ := open_list (hval 0 24 v0 rfl rfl) k0
  have lt0 : ∀ x ∈ p0, x.block < W.heap.size := by obtain ⟨m, hm⟩ := k0; exact DataW.trod_lt m _ _ _ hm
  obtain ⟨A1, n1, c1, x1, rfl, h1⟩ := open_list (hval 1 24 v1 rfl rfl) k1
  have lt1 : ∀ x ∈ p1, x.block < W.heap.size := by obtain ⟨m, hm⟩ := k1; exact DataW.trod_lt m _ _ _ hm
  clear hA0 hval0
  refine (walk A0 n0 c0 x0 A1 n1 c1 x1 W h0 h1).mono fun e W' ⟨he, bel⟩ => ?_
  subst he
  exact ⟨_, rfl, _, _, _, [], _, [], hW', trodAll_mk1 (shut_bool Try.underlying4 _), (trodAll_cons_mk (Below.trod laid_out (by kernel_rfl) (of_decide_eq_true (by kernel_rfl)) k0 bel lt0) (trodAll_cons_mk (Below.trod laid_out (by kernel_rfl) (of_decide_eq_true (by kernel_rfl)) k1 bel lt1) trodAll_mk0)), rfl, bel.frame _, fun h => by cases h⟩

theorem over : Rows.fnExactLeastVectorRow.holds Try.pinned (OpenSpec.ofChange Rows.fnExactLeastVectorSpec) :=
  OpenClaim.holds_of_wide 6 Try.f6 rfl rfl rfl rfl rfl rfl rfl ⟨rfl, rfl, rfl, rfl, rfl⟩ rfl rfl rfl rfl rfl (by kernel_rfl) Try.func6 (by kernel_rfl)
    (of_decide_eq_true (by kernel_rfl)) (by unfold Func.isWrapper; first | (rw [if_pos (by decide +kernel)]; kernel_rfl) | (rw [if_neg (by decide +kernel)]; exact ⟨rfl, rfl⟩))
    (fun os started H enc _ => lifted os started H enc)

theorem proved : Rows.FnExactLeastVectorSaid := over
#print axioms proved
end Go.Proofs.Ytimchlpibllmkaa.fnExactLeastVector
