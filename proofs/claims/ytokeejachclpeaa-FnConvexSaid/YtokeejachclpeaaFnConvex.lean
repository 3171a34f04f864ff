/- The law FnConvex returns true for every input, and leaves its arguments as they were. No condition. -/
import Derived.Test.YtokeejachclpeaaFrame
import Derived.Test.YtokeejachclpeaaFrameB
import Derived.Test.YtokeejachclpeaaBrConv
import Derived.Test.YtokeejachclpeaaLawW
import Derived.Test.YtokeejachclpeaaDrawB
import Derived.Deep.RegionHeld3
namespace Go.Proofs.Ytokeejachclpeaa.fnConvex
open Go.ChangeShapes Go.WideShapes Go.ChangeAt Go.RowKit Go.Joins
set_option maxRecDepth 20000 in
set_option maxHeartbeats 16000000 in
theorem walk (A0 : Option Addr) (n0 c0 : Nat) (w : World) (hB : Byts w A0 n0) :
    Calls Try.prog 7 #[.slice A0 n0 c0] w fun e w' => e = .returned (.bool true) ∧ Below w.heap.size w w' := by
  by_cases hbig : 1048576 < n0
  case pos =>
    have e1 : decide (1048576 < n0) = true := by simp [hbig]
    go_enter Try.func7, Try.ntmps7
    go_wp2_with fail
    refine (big_any A0 n0 c0 w hB).mono ?_
    rintro e w' ⟨rfl, rfl⟩
    rw [e1]
    go_wp2
    go_ret
    exact ⟨rfl, Below.refl _ _⟩
  have e1 : decide (1048576 < n0) = false := by simp [hbig]
  go_enter Try.func7, Try.ntmps7
  go_wp2_with fail
  refine (big_any A0 n0 c0 w hB).mono ?_
  rintro e w' ⟨rfl, rfl⟩
  rw [e1]
  clear e1 hbig
  have B := Below.refl w.heap.size w
  have hy := hB
  go_wp2_with fail
  refine (drawIsConvexAt_any A0 n0 c0 w hy).mono ?_
  rintro e w1 ⟨E, r, Bf, cr, L, r1, B1, c1, x, r2, B2, c2, y, rfl, hr, of, hr1, ox, hr2, oy, b1⟩
  replace B := B.trans (b1.mono B.size)
  replace hy := hy.below b1
  clear hy
  have tf : Two (w1.alloc (.cells #[.int .i64 E, .slice Bf r cr] 26)) w1.heap.size (.int .i64 E) (.slice Bf r cr) := heap_alloc_new w1 _
  have b2 := (Below.refl w1.heap.size w1).alloc (Nat.le_refl _) (.cells #[.int .i64 E, .slice Bf r cr] 26)
  obtain ⟨q2, hq2⟩ : ∃ q, q = w1.heap.size := ⟨_, rfl⟩
  obtain ⟨w2, hw2⟩ : ∃ W, W = w1.alloc (.cells #[.int .i64 E, .slice Bf r cr] 26) := ⟨_, rfl⟩
  rw [← hw2] at tf b2
  rw [← hq2] at tf
  replace B := B.trans (b2.mono B.size)
  replace of := of.below b2 (Nat.le_refl _)
  replace ox := ox.below b2 (Nat.le_refl _)
  replace oy := oy.below b2 (Nat.le_refl _)
  have tfc0 := tf.cell0
  have tfc1 := tf.cell1
  have tfE := hide (And.intro hw2 hq2)
  clear hw2 hq2
  go_wp2_with fail
  rw [← tfE.out.1, ← tfE.out.2]
  refine (specExtensionAt_any E Bf r cr L B1 r1 c1 x w2 of.ints ox.ints).mono ?_
  rintro e w3 ⟨rfl, b3⟩
  clear tfc0 tfc1
  replace B := B.trans (b3.mono B.size)
  replace of := of.below b3 (Nat.le_refl _)
  replace ox := ox.below b3 (Nat.le_refl _)
  replace oy := oy.below b3 (Nat.le_refl _)
  replace tf := tf.below b3 tf.lt
  have tfc0 := tf.cell0
  have tfc1 := tf.cell1
  go_wp2_with fail
  refine (specExtensionAt_any E Bf r cr L B2 r2 c2 y w3 of.ints oy.ints).mono ?_
  rintro e w4 ⟨rfl, b4⟩
  clear tfc0 tfc1
  replace B := B.trans (b4.mono B.size)
  replace of := of.below b4 (Nat.le_refl _)
  replace ox := ox.below b4 (Nat.le_refl _)
  replace oy := oy.below b4 (Nat.le_refl _)
  replace tf := tf.below b4 tf.lt
  have tfc0 := tf.cell0
  have tfc1 := tf.cell1
  cases h1 : extOk E L x
  case false =>
    go_wp2
    go_ret
    exact ⟨rfl, B⟩
  cases h2 : extOk E L y
  case false =>
    go_wp2
    go_ret
    exact ⟨rfl, B⟩
  have H1 := hide h1
  have H2 := hide h2
  clear h1 h2
  go_wp2_with fail
  refine (specIsSubmodular_any E Bf r cr L w4 of.ints).mono ?_
  rintro e w5 ⟨rfl, b5⟩
  clear tfc0 tfc1
  replace B := B.trans (b5.mono B.size)
  replace of := of.below b5 (Nat.le_refl _)
  replace ox := ox.below b5 (Nat.le_refl _)
  replace oy := oy.below b5 (Nat.le_refl _)
  replace tf := tf.below b5 tf.lt
  have tfc0 := tf.cell0
  have tfc1 := tf.cell1
  cases h3 : subB E L
  case false =>
    go_wp2
    go_ret
    exact ⟨rfl, B⟩
  have HL := hide (conv_law H1.out H2.out h3)
  clear h3
  have hxl := hide ox.len
  have hyl := hide oy.len
  have hrr : r1 = r2 := by
    have q1 := (ext_ok H1.out).2.2
    have q2 := (ext_ok H2.out).2.2
    rw [hxl.out] at q1; rw [hyl.out] at q2; omega
  subst hrr
  go_wp2
  go_loop [10] (fun t => ∃ k : Nat, k ≤ r1 ∧ t = .int .i64 k ∧ (∀ j, j < k → -100 ≤ gv x j ∧ gv x j ≤ 100) ∧ (∀ j, j < k → -100 ≤ gv y j ∧ gv y j ≤ 100)) (fun t => r1 - (intOf t).toNat)
  case atStart => exact ⟨0, Nat.zero_le _, rfl, fun j hj => by omega, fun j hj => by omega⟩
  case round =>
    obtain ⟨k, hk, rfl, hbx, hby⟩ := hrel
    have HX := hide hbx
    have HY := hide hby
    clear hbx hby
    by_cases hlt : k < r1
    · obtain ⟨g1, rfl, _, _⟩ := ox.form (by omega)
      obtain ⟨g2, rfl, _, _⟩ := oy.form (by omega)
      have q1 := ox.cell hlt
      have q2 := oy.cell hlt
      go_wp2
      all_goals first
        | (go_ret; exact ⟨rfl, B⟩)
        | (go_round
           case rel => exact ⟨k + 1, by omega, by go_num, fun j hj => (by by_cases hjk : j = k; (subst hjk; omega); (exact HX.out j (by omega))), fun j hj => (by by_cases hjk : j = k; (subst hjk; omega); (exact HY.out j (by omega)))⟩
           case measure => simp [intOf]; omega)
        | fail
    · obtain rfl : k = r1 := by omega
      have hconv := hide (HL.out.1 (allIn_of (by rw [hxl.out]; exact HX.out)) (allIn_of (by rw [hyl.out]; exact HY.out)))
      go_wp2_with fail
      refine (leastVector_any B1 k c1 x B2 k c2 y w5 ox.ints oy.ints).mono ?_
      rintro e w6 ⟨Bu, ru, cu, rfl, ou, mu, b6⟩
      clear tfc0 tfc1
      replace B := B.trans (b6.mono B.size)
      replace of := of.below b6 (Nat.le_refl _)
      replace ox := ox.below b6 (Nat.le_refl _)
      replace oy := oy.below b6 (Nat.le_refl _)
      replace tf := tf.below b6 tf.lt
      have tfc0 := tf.cell0
      have tfc1 := tf.cell1
      go_wp2_with fail
      refine (greatestVector_any B1 k c1 x B2 k c2 y w6 ox.ints oy.ints).mono ?_
      rintro e w7 ⟨Bv, rv, cv, rfl, ov, mv, b7⟩
      clear tfc0 tfc1
      replace B := B.trans (b7.mono B.size)
      replace of := of.below b7 (Nat.le_refl _)
      replace ox := ox.below b7 (Nat.le_refl _)
      replace oy := oy.below b7 (Nat.le_refl _)
      replace tf := tf.below b7 tf.lt
      have tfc0 := tf.cell0
      have tfc1 := tf.cell1
      replace ou := ou.below b7 (Nat.le_refl _)
      go_wp2_with fail
      refine (extensionAt_any E Bf r cr L Bu ru cu _ w7 of.ints ou.ints).mono ?_
      rintro e w8 ⟨rfl, b8⟩
      clear tfc0 tfc1
      replace B := B.trans (b8.mono B.size)
      replace of := of.below b8 (Nat.le_refl _)
      replace ox := ox.below b8 (Nat.le_refl _)
      replace oy := oy.below b8 (Nat.le_refl _)
      replace tf := tf.below b8 tf.lt
      have tfc0 := tf.cell0
      have tfc1 := tf.cell1
      replace ou := ou.below b8 (Nat.le_refl _)
      replace ov := ov.below b8 (Nat.le_refl _)
      go_wp2_with fail
      refine (extensionAt_any E Bf r cr L Bv rv cv _ w8 of.ints ov.ints).mono ?_
      rintro e w9 ⟨rfl, b9⟩
      clear tfc0 tfc1
      replace B := B.trans (b9.mono B.size)
      replace of := of.below b9 (Nat.le_refl _)
      replace ox := ox.below b9 (Nat.le_refl _)
      replace oy := oy.below b9 (Nat.le_refl _)
      replace tf := tf.below b9 tf.lt
      have tfc0 := tf.cell0
      have tfc1 := tf.cell1
      replace ou := ou.below b9 (Nat.le_refl _)
      replace ov := ov.below b9 (Nat.le_refl _)
      go_wp2_with fail
      refine (isConvexAt_any E Bf r cr L B1 k c1 x B2 k c2 y w9 of.ints ox.ints oy.ints).mono ?_
      rintro e w10 ⟨rfl, b10⟩
      clear tfc0 tfc1
      replace B := B.trans (b10.mono B.size)
      replace of := of.below b10 (Nat.le_refl _)
      replace ox := ox.below b10 (Nat.le_refl _)
      replace oy := oy.below b10 (Nat.le_refl _)
      replace tf := tf.below b10 tf.lt
      have tfc0 := tf.cell0
      have tfc1 := tf.cell1
      replace ou := ou.below b10 (Nat.le_refl _)
      replace ov := ov.below b10 (Nat.le_refl _)
      rw [hconv.out]
      have d1 := extV_bd E L x
      have d2 := extV_bd E L y
      have d3 := extV_bd E L (leastL x y)
      have d4 := extV_bd E L (greatL x y)
      have hge := HL.out.2
      go_wp2
      go_ret
      exact ⟨ret_bool (by simp <;> omega), B⟩

set_option maxRecDepth 100000 in
theorem lifted (os : Os) (started : os.Started) (H : Type) (enc : TypeId × Value → H) :
    ReturnsInHanded {} Try.checked os 7 .any (Rows.fnConvexSpec.pre6 enc Try.prog Try.f7 Rows.fnConvexRow.domain false) (Rows.fnConvexSpec.post enc Try.prog Try.f7 false true false false) := by
  refine returnsInHanded_of_change (C := Try.checked) own_knob started (by kernel_rfl) Try.func7
    (ChangeSpec.witness6 (enc := enc) (C := Try.checked) false ⟨#[], #[.slice none 0 0], []⟩ 8 (by kernel_rfl) (by kernel_rfl) (by kernel_rfl) (by kernel_rfl)) ?_
  intro W base args ds gs before hval0 hW _ _
  have hval : ∀ (j : Nat) t v, Try.f7.params[j]? = some t → args[j]? = some v → Value.okWide Try.prog W .any base t v := hval0
  have hW' := hW
  obtain ⟨p, q, hA0, hV, rfl, _, _⟩ := hW
  have hA : DataW.TrodAll enc Try.prog W 0 (fun _ => true) true Try.f7.params.toList args.toList ds p := hA0
  rw [Try.params7] at hA hval
  obtain ⟨v0, vs0, d0, ds0, p0, q0, hargs, rfl, rfl, k0, r0⟩ := trodAll_cons hA
  obtain ⟨rfl, rfl, rfl⟩ := trodAll_nil r0
  obtain rfl : args = #[v0] := by cases args; simp_all
  obtain ⟨rfl, rfl⟩ := trodVars_none hV
  obtain ⟨A0, n0, c0, rfl, h0⟩ := open_bytes (hval 0 22 v0 rfl rfl) k0
  have lt0 : ∀ x ∈ p0, x.block < W.heap.size := by obtain ⟨m, hm⟩ := k0; exact DataW.trod_lt m _ _ _ hm
  clear hA0 hval0
  refine (walk A0 n0 c0 W h0).mono fun e W' ⟨he, bel⟩ => ?_
  subst he
  exact ⟨_, rfl, _, _, _, [], _, [], hW', trodAll_mk1 (shut_bool Try.underlying4 _), (trodAll_cons_mk (Below.trod laid_out (by kernel_rfl) (of_decide_eq_true (by kernel_rfl)) k0 bel lt0) trodAll_mk0), rfl, bel.frame _, fun h => by cases h⟩

theorem over : Rows.fnConvexRow.holds Try.pinned (OpenSpec.ofChange Rows.fnConvexSpec) :=
  OpenClaim.holds_of_wide 7 Try.f7 rfl rfl rfl rfl rfl rfl rfl ⟨rfl, rfl, rfl, rfl, rfl⟩ rfl rfl rfl rfl rfl (by kernel_rfl) Try.func7 (by kernel_rfl)
    (of_decide_eq_true (by kernel_rfl)) (by unfold Func.isWrapper; first | (rw [if_pos (by decide +kernel)]; kernel_rfl) | (rw [if_neg (by decide +kernel)]; exact ⟨rfl, rfl⟩))
    (fun os started H enc _ => lifted os started H enc)

theorem proved : Rows.FnConvexSaid := over
#print axioms proved
end Go.Proofs.Ytokeejachclpeaa.fnConvex
