/- The law FnExactIsLattice returns true for every input, and leaves its arguments as they were. No condition. -/
import Derived.Test.YtimchlpibllmkaaFrame
import Derived.Test.YtimchlpibllmkaaLatt
import Derived.Test.YtimchlpibllmkaaLawKit
namespace Go.Proofs.Ytimchlpibllmkaa.fnExactIsLattice
open Go.ChangeShapes Go.WideShapes Go.ChangeAt Go.RowKit Go.Joins
theorem walk (A0 : Option Addr) (n0 c0 : Nat) (x0 : List Int) (w : World) (h0 : Ints w A0 n0 x0) :
    Calls Try.prog 5 #[.slice A0 n0 c0] w fun e w' => e = .returned (.bool true) ∧ Below w.heap.size w w' := by
  have hle0 := h0.le
  by_cases hn0 : n0 ≤ 1048576
  case neg =>
    go_enter Try.func5, Try.ntmps5
    go_wp2
    go_ret
    exact ⟨rfl, (Below.refl w.heap.size w)⟩
  go_enter Try.func5, Try.ntmps5
  have B := Below.refl w.heap.size w
  have i0 := h0
  go_wp2_with fail
  refine (toIntS_any A0 n0 c0 x0 w i0 hn0).mono ?_
  rintro e w1 ⟨rfl, os0, b1⟩
  replace B := B.trans (b1.mono B.size)
  replace i0 := i0.below b1 (Nat.le_refl _)
  go_wp2_with fail
  refine (specIsLattice_any (some ⟨w.heap.size, 0, none⟩) n0 n0 x0 w1 os0.ints).mono ?_
  rintro e w2 ⟨rfl, b2⟩
  replace B := B.trans (b2.mono B.size)
  replace i0 := i0.below b2 (Nat.le_refl _)
  replace os0 := os0.below b2 (Nat.le_refl _)
  clear os0
  go_wp2_with fail
  refine (toIntS_any A0 n0 c0 x0 w2 i0 hn0).mono ?_
  rintro e w3 ⟨rfl, ox0, b3⟩
  replace B := B.trans (b3.mono B.size)
  replace i0 := i0.below b3 (Nat.le_refl _)
  go_wp2_with fail
  refine (isLattice_top (some ⟨w2.heap.size, 0, none⟩) n0 n0 x0 w3 ox0.ints).mono ?_
  rintro e w4 ⟨rfl, b4⟩
  replace B := B.trans (b4.mono B.size)
  replace i0 := i0.below b4 (Nat.le_refl _)
  replace ox0 := ox0.below b4 (Nat.le_refl _)
  go_wp2_with fail
  refine (toIntS_any A0 n0 c0 x0 w4 i0 hn0).mono ?_
  rintro e w5 ⟨rfl, ot, b5⟩
  replace B := B.trans (b5.mono B.size)
  replace i0 := i0.below b5 (Nat.le_refl _)
  replace ox0 := ox0.below b5 (Nat.le_refl _)
  go_wp2_with fail
  refine (eqIntS_any (some ⟨w2.heap.size, 0, none⟩) (some ⟨w4.heap.size, 0, none⟩) n0 n0 n0 n0 x0 x0 w5 ox0.ints ot.ints).mono ?_
  rintro e w6 ⟨rfl, b6⟩
  replace B := B.trans (b6.mono B.size)
  replace i0 := i0.below b6 (Nat.le_refl _)
  replace ox0 := ox0.below b6 (Nat.le_refl _)
  replace ot := ot.below b6 (Nat.le_refl _)
  clear ot
  go_wp2
  go_ret
  exact ⟨rfl, B⟩

set_option maxRecDepth 100000 in
theorem lifted (os : Os) (started : os.Started) (H : Type) (enc : TypeId × Value → H) :
    ReturnsInHanded {} Try.checked os 5 .any (Rows.fnExactIsLatticeSpec.pre6 enc Try.prog Try.f5 Rows.fnExactIsLatticeRow.domain false) (Rows.fnExactIsLatticeSpec.post enc Try.prog Try.f5 false true false false) := by
  refine returnsInHanded_of_change (C := Try.checked) own_knob started (by kernel_rfl) Try.func5
    (ChangeSpec.witness6 (enc := enc) (C := Try.checked) false ⟨#[], #[.slice none 0 0], []⟩ 8 (by kernel_rfl) (by kernel_rfl) (by kernel_rfl) (by kernel_rfl)) ?_
  intro W base args ds gs before hval0 hW _ _
  have hval : ∀ (j : Nat) t v, Try.f5.params[j]? = some t → args[j]? = some v → Value.okWide Try.prog W .any base t v := hval0
  have hW' := hW
  obtain ⟨p, q, hA0, hV, rfl, _, _⟩ := hW
  have hA : DataW.TrodAll enc Try.prog W 0 (fun _ => true) true Try.f5.params.toList args.toList ds p := hA0
  rw [Try.params5] at hA hval
  obtain ⟨v0, vs0, d0, ds0, p0, q0, hargs, rfl, rfl, k0, r0⟩ := trodAll_cons hA
  obtain ⟨rfl, rfl, rfl⟩ := trodAll_nil r0
  obtain rfl : args = #[v0] := by cases args; simp_all
  obtain ⟨rfl, rfl⟩ := trodVars_none hV
  obtain ⟨A0, n0, c0, x0, rfl, h0⟩ := open_list (hval 0 24 v0 rfl rfl) k0
  have lt0 : ∀ x ∈ p0, x.block < W.heap.size := by obtain ⟨m, hm⟩ := k0; exact DataW.trod_lt m _ _ _ hm
  clear hA0 hval0
  refine (walk A0 n0 c0 x0 W h0).mono fun e W' ⟨he, bel⟩ => ?_
  subst he
  exact ⟨_, rfl, _, _, _, [], _, [], hW', trodAll_mk1 (shut_bool Try.underlying4 _), (trodAll_cons_mk (Below.trod laid_out (by kernel_rfl) (of_decide_eq_true (by kernel_rfl)) k0 bel lt0) trodAll_mk0), rfl, bel.frame _, fun h => by cases h⟩

theorem over : Rows.fnExactIsLatticeRow.holds Try.pinned (OpenSpec.ofChange Rows.fnExactIsLatticeSpec) :=
  OpenClaim.holds_of_wide 5 Try.f5 rfl rfl rfl rfl rfl rfl rfl ⟨rfl, rfl, rfl, rfl, rfl⟩ rfl rfl rfl rfl rfl (by kernel_rfl) Try.func5 (by kernel_rfl)
    (of_decide_eq_true (by kernel_rfl)) (by unfold Func.isWrapper; first | (rw [if_pos (by decide +kernel)]; kernel_rfl) | (rw [if_neg (by decide +kernel)]; exact ⟨rfl, rfl⟩))
    (fun os started H enc _ => lifted os started H enc)

theorem proved : Rows.FnExactIsLatticeSaid := over
#print axioms proved
end Go.Proofs.Ytimchlpibllmkaa.fnExactIsLattice
