/- The law FnMinima returns true for every input, and leaves its arguments as they were. No condition. -/
import Derived.Test.YtokeejachclpeaaFrame
import Derived.Test.YtokeejachclpeaaFrameB
import Derived.Test.YtokeejachclpeaaBrMin
import Derived.Test.YtokeejachclpeaaDrawB
import Derived.Test.YtokeejachclpeaaExtr
import Derived.Test.YtokeejachclpeaaLatt
import Derived.Deep.RegionHeld3
namespace Go.Proofs.Ytokeejachclpeaa.fnMinima
open Go.ChangeShapes Go.WideShapes Go.ChangeAt Go.RowKit Go.Joins
set_option maxRecDepth 20000 in
set_option maxHeartbeats 8000000 in
theorem walk (A0 : Option Addr) (n0 c0 : Nat) (w : World) (hB : Byts w A0 n0) :
    Calls Try.prog 6 #[.slice A0 n0 c0] w fun e w' => e = .returned (.bool true) ∧ Below w.heap.size w w' := by
  by_cases hbig : 1048576 < n0
  case pos =>
    have e1 : decide (1048576 < n0) = true := by simp [hbig]
    go_enter Try.func6, Try.ntmps6
    go_wp2_with fail
    refine (big_any A0 n0 c0 w hB).mono ?_
    rintro e w' ⟨rfl, rfl⟩
    rw [e1]
    go_wp2
    go_ret
    exact ⟨rfl, Below.refl _ _⟩
  have e1 : decide (1048576 < n0) = false := by simp [hbig]
  go_enter Try.func6, Try.ntmps6
  go_wp2_with fail
  refine (big_any A0 n0 c0 w hB).mono ?_
  rintro e w' ⟨rfl, rfl⟩
  rw [e1]
  clear e1 hbig
  have B := Below.refl w.heap.size w
  have hy := hB
  go_wp2_with fail
  refine (drawMinimumBetween_any A0 n0 c0 w hy).mono ?_
  rintro e w1 ⟨E, r, Bf, cr, L, a, b, rfl, hr, of, b1⟩
  replace B := B.trans (b1.mono B.size)
  replace hy := hy.below b1
  have tf : Two (w1.alloc (.cells #[.int .i64 E, .slice Bf r cr] 26)) w1.heap.size (.int .i64 E) (.slice Bf r cr) := heap_alloc_new w1 _
  have b2 := (Below.refl w1.heap.size w1).alloc (Nat.le_refl _) (.cells #[.int .i64 E, .slice Bf r cr] 26)
  obtain ⟨q2, hq2⟩ : ∃ q, q = w1.heap.size := ⟨_, rfl⟩
  obtain ⟨w2, hw2⟩ : ∃ W, W = w1.alloc (.cells #[.int .i64 E, .slice Bf r cr] 26) := ⟨_, rfl⟩
  rw [← hw2] at tf b2
  rw [← hq2] at tf
  replace B := B.trans (b2.mono B.size)
  replace hy := hy.below b2
  replace of := of.below b2 (Nat.le_refl _)
  have tfc0 := tf.cell0
  have tfc1 := tf.cell1
  have tfE := hide (And.intro hw2 hq2)
  clear hw2 hq2
  go_wp2_with fail
  rw [← tfE.out.1, ← tfE.out.2]
  refine (minimumBetween_any E Bf r cr L a b w2 of.ints).mono ?_
  rintro e w3 ⟨rfl, b3⟩
  clear tfc0 tfc1
  replace B := B.trans (b3.mono B.size)
  replace hy := hy.below b3
  replace of := of.below b3 (Nat.le_refl _)
  replace tf := tf.below b3 tf.lt
  have tfc0 := tf.cell0
  have tfc1 := tf.cell1
  go_wp2_with fail
  refine (specMinimumBetween_any E Bf r cr L a b w3 of.ints).mono ?_
  rintro e w4 ⟨rfl, b4⟩
  clear tfc0 tfc1
  replace B := B.trans (b4.mono B.size)
  replace hy := hy.below b4
  replace of := of.below b4 (Nat.le_refl _)
  replace tf := tf.below b4 tf.lt
  have tfc0 := tf.cell0
  have tfc1 := tf.cell1
  have n1 : (betwV E L a b != betwV E L a b) = false := by simp
  have n2 : (betwS E L a b != betwS E L a b) = false := by simp
  cases hok : betwOk E L a b
  · clear of
    clear tf tfc0 tfc1
    go_wp2_with fail
    refine (drawMinimizersOf_any A0 n0 c0 w4 hy).mono ?_
    rintro e w5 ⟨Eg, rg, Bg, cg, Lg, rfl, hrg, og, b5⟩
    replace B := B.trans (b5.mono B.size)
    replace hy := hy.below b5
    clear hrg
    have tg : Two (w5.alloc (.cells #[.int .i64 Eg, .slice Bg rg cg] 26)) w5.heap.size (.int .i64 Eg) (.slice Bg rg cg) := heap_alloc_new w5 _
    have b6 := (Below.refl w5.heap.size w5).alloc (Nat.le_refl _) (.cells #[.int .i64 Eg, .slice Bg rg cg] 26)
    obtain ⟨q6, hq6⟩ : ∃ q, q = w5.heap.size := ⟨_, rfl⟩
    obtain ⟨w6, hw6⟩ : ∃ W, W = w5.alloc (.cells #[.int .i64 Eg, .slice Bg rg cg] 26) := ⟨_, rfl⟩
    rw [← hw6] at tg b6
    rw [← hq6] at tg
    replace B := B.trans (b6.mono B.size)
    replace hy := hy.below b6
    replace og := og.below b6 (Nat.le_refl _)
    have tgc0 := tg.cell0
    have tgc1 := tg.cell1
    have tgE := hide (And.intro hw6 hq6)
    clear hw6 hq6
    go_wp2_with fail
    rw [← tgE.out.1, ← tgE.out.2]
    refine (minimizersOf_any Eg Bg rg cg Lg w6 og.ints).mono ?_
    rintro e w7 ⟨Bl, rl, cl, rfl, ol, ml, b7⟩
    clear tgc0 tgc1
    replace B := B.trans (b7.mono B.size)
    replace hy := hy.below b7
    replace og := og.below b7 (Nat.le_refl _)
    replace tg := tg.below b7 tg.lt
    have tgc0 := tg.cell0
    have tgc1 := tg.cell1
    go_wp2_with fail
    refine (specMinimizersOf_any Eg Bg rg cg Lg w7 og.ints).mono ?_
    rintro e w8 ⟨Bm, rm, cm, rfl, om, mm, b8⟩
    clear tgc0 tgc1
    replace B := B.trans (b8.mono B.size)
    replace hy := hy.below b8
    replace og := og.below b8 (Nat.le_refl _)
    replace tg := tg.below b8 tg.lt
    have tgc0 := tg.cell0
    have tgc1 := tg.cell1
    replace ol := ol.below b8 (Nat.le_refl _)
    go_wp2_with fail
    refine (minimumOf_any Eg Bg rg cg Lg w8 og.ints).mono ?_
    rintro e w9 ⟨rfl, b9⟩
    clear tgc0 tgc1
    replace B := B.trans (b9.mono B.size)
    replace hy := hy.below b9
    replace og := og.below b9 (Nat.le_refl _)
    replace tg := tg.below b9 tg.lt
    have tgc0 := tg.cell0
    have tgc1 := tg.cell1
    replace ol := ol.below b9 (Nat.le_refl _)
    replace om := om.below b9 (Nat.le_refl _)
    go_wp2_with fail
    refine (specMinimumOf_any Eg Bg rg cg Lg w9 og.ints).mono ?_
    rintro e w10 ⟨rfl, b10⟩
    clear tgc0 tgc1
    replace B := B.trans (b10.mono B.size)
    replace hy := hy.below b10
    replace og := og.below b10 (Nat.le_refl _)
    replace tg := tg.below b10 tg.lt
    have tgc0 := tg.cell0
    have tgc1 := tg.cell1
    replace ol := ol.below b10 (Nat.le_refl _)
    replace om := om.below b10 (Nat.le_refl _)
    go_wp2_with fail
    refine (leastMinimizer_any Eg Bg rg cg Lg w10 og.ints).mono ?_
    rintro e w11 ⟨rfl, b11⟩
    clear tgc0 tgc1
    replace B := B.trans (b11.mono B.size)
    replace hy := hy.below b11
    replace og := og.below b11 (Nat.le_refl _)
    replace tg := tg.below b11 tg.lt
    have tgc0 := tg.cell0
    have tgc1 := tg.cell1
    replace ol := ol.below b11 (Nat.le_refl _)
    replace om := om.below b11 (Nat.le_refl _)
    go_wp2_with fail
    refine (specLeastMinimizer_any Eg Bg rg cg Lg w11 og.ints).mono ?_
    rintro e w12 ⟨rfl, b12⟩
    clear tgc0 tgc1
    replace B := B.trans (b12.mono B.size)
    replace hy := hy.below b12
    replace og := og.below b12 (Nat.le_refl _)
    replace tg := tg.below b12 tg.lt
    have tgc0 := tg.cell0
    have tgc1 := tg.cell1
    replace ol := ol.below b12 (Nat.le_refl _)
    replace om := om.below b12 (Nat.le_refl _)
    go_wp2_with fail
    refine (greatestMinimizer_any Eg Bg rg cg Lg w12 og.ints).mono ?_
    rintro e w13 ⟨rfl, b13⟩
    clear tgc0 tgc1
    replace B := B.trans (b13.mono B.size)
    replace hy := hy.below b13
    replace og := og.below b13 (Nat.le_refl _)
    replace tg := tg.below b13 tg.lt
    have tgc0 := tg.cell0
    have tgc1 := tg.cell1
    replace ol := ol.below b13 (Nat.le_refl _)
    replace om := om.below b13 (Nat.le_refl _)
    go_wp2_with fail
    refine (specGreatestMinimizer_any Eg Bg rg cg Lg w13 og.ints).mono ?_
    rintro e w14 ⟨rfl, b14⟩
    clear tgc0 tgc1
    replace B := B.trans (b14.mono B.size)
    replace hy := hy.below b14
    replace og := og.below b14 (Nat.le_refl _)
    replace tg := tg.below b14 tg.lt
    have tgc0 := tg.cell0
    have tgc1 := tg.cell1
    replace ol := ol.below b14 (Nat.le_refl _)
    replace om := om.below b14 (Nat.le_refl _)
    go_wp2_with fail
    refine (drawIsLattice_any A0 n0 c0 w14 hy).mono ?_
    rintro e w15 ⟨ro, Bo, co, Lo, rfl, hro, oo, b15⟩
    clear tgc0 tgc1
    replace B := B.trans (b15.mono B.size)
    replace hy := hy.below b15
    replace og := og.below b15 (Nat.le_refl _)
    replace tg := tg.below b15 tg.lt
    have tgc0 := tg.cell0
    have tgc1 := tg.cell1
    replace ol := ol.below b15 (Nat.le_refl _)
    replace om := om.below b15 (Nat.le_refl _)
    go_wp2_with fail
    refine (sameInts_any Bl Bm rl rm cl cm _ _ w15 ol.ints om.ints).mono ?_
    rintro e w16 ⟨rfl, b16⟩
    clear tgc0 tgc1
    replace B := B.trans (b16.mono B.size)
    replace hy := hy.below b16
    replace og := og.below b16 (Nat.le_refl _)
    replace tg := tg.below b16 tg.lt
    have tgc0 := tg.cell0
    have tgc1 := tg.cell1
    replace ol := ol.below b16 (Nat.le_refl _)
    replace om := om.below b16 (Nat.le_refl _)
    replace oo := oo.below b16 (Nat.le_refl _)
    go_wp2_with fail
    refine (isLattice_any Bo ro co Lo w16 oo.ints).mono ?_
    rintro e w' ⟨rfl, rfl⟩
    go_wp2_with fail
    refine (specIsLattice_any Bo ro co Lo w16 oo.ints).mono ?_
    rintro e w17 ⟨rfl, b17⟩
    clear tgc0 tgc1
    replace B := B.trans (b17.mono B.size)
    replace hy := hy.below b17
    replace og := og.below b17 (Nat.le_refl _)
    replace tg := tg.below b17 tg.lt
    have tgc0 := tg.cell0
    have tgc1 := tg.cell1
    replace ol := ol.below b17 (Nat.le_refl _)
    replace om := om.below b17 (Nat.le_refl _)
    replace oo := oo.below b17 (Nat.le_refl _)
    go_wp2
    go_ret
    exact ⟨ret_bool (by simp), B⟩
  · obtain ⟨f1, f2, f3, f4⟩ := betw_facts hok
    go_wp2_with fail
    refine (minimumOf_any E Bf r cr L w4 of.ints).mono ?_
    rintro e w5 ⟨rfl, b5⟩
    clear tfc0 tfc1
    replace B := B.trans (b5.mono B.size)
    replace hy := hy.below b5
    replace of := of.below b5 (Nat.le_refl _)
    replace tf := tf.below b5 tf.lt
    have tfc0 := tf.cell0
    have tfc1 := tf.cell1
    go_wp2_with fail
    refine (valueOf_any E Bf r cr L (betwS E L a b) w5 of.ints).mono ?_
    rintro e w6 ⟨rfl, b6⟩
    clear tfc0 tfc1
    replace B := B.trans (b6.mono B.size)
    replace hy := hy.below b6
    replace of := of.below b6 (Nat.le_refl _)
    replace tf := tf.below b6 tf.lt
    have tfc0 := tf.cell0
    have tfc1 := tf.cell1
    skip
    clear of
    clear tf tfc0 tfc1
    go_wp2_with fail
    refine (drawMinimizersOf_any A0 n0 c0 w6 hy).mono ?_
    rintro e w7 ⟨Eg, rg, Bg, cg, Lg, rfl, hrg, og, b7⟩
    replace B := B.trans (b7.mono B.size)
    replace hy := hy.below b7
    clear hrg
    have tg : Two (w7.alloc (.cells #[.int .i64 Eg, .slice Bg rg cg] 26)) w7.heap.size (.int .i64 Eg) (.slice Bg rg cg) := heap_alloc_new w7 _
    have b8 := (Below.refl w7.heap.size w7).alloc (Nat.le_refl _) (.cells #[.int .i64 Eg, .slice Bg rg cg] 26)
    obtain ⟨q8, hq8⟩ : ∃ q, q = w7.heap.size := ⟨_, rfl⟩
    obtain ⟨w8, hw8⟩ : ∃ W, W = w7.alloc (.cells #[.int .i64 Eg, .slice Bg rg cg] 26) := ⟨_, rfl⟩
    rw [← hw8] at tg b8
    rw [← hq8] at tg
    replace B := B.trans (b8.mono B.size)
    replace hy := hy.below b8
    replace og := og.below b8 (Nat.le_refl _)
    have tgc0 := tg.cell0
    have tgc1 := tg.cell1
    have tgE := hide (And.intro hw8 hq8)
    clear hw8 hq8
    go_wp2_with fail
    rw [← tgE.out.1, ← tgE.out.2]
    refine (minimizersOf_any Eg Bg rg cg Lg w8 og.ints).mono ?_
    rintro e w9 ⟨Bl, rl, cl, rfl, ol, ml, b9⟩
    clear tgc0 tgc1
    replace B := B.trans (b9.mono B.size)
    replace hy := hy.below b9
    replace og := og.below b9 (Nat.le_refl _)
    replace tg := tg.below b9 tg.lt
    have tgc0 := tg.cell0
    have tgc1 := tg.cell1
    go_wp2_with fail
    refine (specMinimizersOf_any Eg Bg rg cg Lg w9 og.ints).mono ?_
    rintro e w10 ⟨Bm, rm, cm, rfl, om, mm, b10⟩
    clear tgc0 tgc1
    replace B := B.trans (b10.mono B.size)
    replace hy := hy.below b10
    replace og := og.below b10 (Nat.le_refl _)
    replace tg := tg.below b10 tg.lt
    have tgc0 := tg.cell0
    have tgc1 := tg.cell1
    replace ol := ol.below b10 (Nat.le_refl _)
    go_wp2_with fail
    refine (minimumOf_any Eg Bg rg cg Lg w10 og.ints).mono ?_
    rintro e w11 ⟨rfl, b11⟩
    clear tgc0 tgc1
    replace B := B.trans (b11.mono B.size)
    replace hy := hy.below b11
    replace og := og.below b11 (Nat.le_refl _)
    replace tg := tg.below b11 tg.lt
    have tgc0 := tg.cell0
    have tgc1 := tg.cell1
    replace ol := ol.below b11 (Nat.le_refl _)
    replace om := om.below b11 (Nat.le_refl _)
    go_wp2_with fail
    refine (specMinimumOf_any Eg Bg rg cg Lg w11 og.ints).mono ?_
    rintro e w12 ⟨rfl, b12⟩
    clear tgc0 tgc1
    replace B := B.trans (b12.mono B.size)
    replace hy := hy.below b12
    replace og := og.below b12 (Nat.le_refl _)
    replace tg := tg.below b12 tg.lt
    have tgc0 := tg.cell0
    have tgc1 := tg.cell1
    replace ol := ol.below b12 (Nat.le_refl _)
    replace om := om.below b12 (Nat.le_refl _)
    go_wp2_with fail
    refine (leastMinimizer_any Eg Bg rg cg Lg w12 og.ints).mono ?_
    rintro e w13 ⟨rfl, b13⟩
    clear tgc0 tgc1
    replace B := B.trans (b13.mono B.size)
    replace hy := hy.below b13
    replace og := og.below b13 (Nat.le_refl _)
    replace tg := tg.below b13 tg.lt
    have tgc0 := tg.cell0
    have tgc1 := tg.cell1
    replace ol := ol.below b13 (Nat.le_refl _)
    replace om := om.below b13 (Nat.le_refl _)
    go_wp2_with fail
    refine (specLeastMinimizer_any Eg Bg rg cg Lg w13 og.ints).mono ?_
    rintro e w14 ⟨rfl, b14⟩
    clear tgc0 tgc1
    replace B := B.trans (b14.mono B.size)
    replace hy := hy.below b14
    replace og := og.below b14 (Nat.le_refl _)
    replace tg := tg.below b14 tg.lt
    have tgc0 := tg.cell0
    have tgc1 := tg.cell1
    replace ol := ol.below b14 (Nat.le_refl _)
    replace om := om.below b14 (Nat.le_refl _)
    go_wp2_with fail
    refine (greatestMinimizer_any Eg Bg rg cg Lg w14 og.ints).mono ?_
    rintro e w15 ⟨rfl, b15⟩
    clear tgc0 tgc1
    replace B := B.trans (b15.mono B.size)
    replace hy := hy.below b15
    replace og := og.below b15 (Nat.le_refl _)
    replace tg := tg.below b15 tg.lt
    have tgc0 := tg.cell0
    have tgc1 := tg.cell1
    replace ol := ol.below b15 (Nat.le_refl _)
    replace om := om.below b15 (Nat.le_refl _)
    go_wp2_with fail
    refine (specGreatestMinimizer_any Eg Bg rg cg Lg w15 og.ints).mono ?_
    rintro e w16 ⟨rfl, b16⟩
    clear tgc0 tgc1
    replace B := B.trans (b16.mono B.size)
    replace hy := hy.below b16
    replace og := og.below b16 (Nat.le_refl _)
    replace tg := tg.below b16 tg.lt
    have tgc0 := tg.cell0
    have tgc1 := tg.cell1
    replace ol := ol.below b16 (Nat.le_refl _)
    replace om := om.below b16 (Nat.le_refl _)
    go_wp2_with fail
    refine (drawIsLattice_any A0 n0 c0 w16 hy).mono ?_
    rintro e w17 ⟨ro, Bo, co, Lo, rfl, hro, oo, b17⟩
    clear tgc0 tgc1
    replace B := B.trans (b17.mono B.size)
    replace hy := hy.below b17
    replace og := og.below b17 (Nat.le_refl _)
    replace tg := tg.below b17 tg.lt
    have tgc0 := tg.cell0
    have tgc1 := tg.cell1
    replace ol := ol.below b17 (Nat.le_refl _)
    replace om := om.below b17 (Nat.le_refl _)
    go_wp2_with fail
    refine (sameInts_any Bl Bm rl rm cl cm _ _ w17 ol.ints om.ints).mono ?_
    rintro e w18 ⟨rfl, b18⟩
    clear tgc0 tgc1
    replace B := B.trans (b18.mono B.size)
    replace hy := hy.below b18
    replace og := og.below b18 (Nat.le_refl _)
    replace tg := tg.below b18 tg.lt
    have tgc0 := tg.cell0
    have tgc1 := tg.cell1
    replace ol := ol.below b18 (Nat.le_refl _)
    replace om := om.below b18 (Nat.le_refl _)
    replace oo := oo.below b18 (Nat.le_refl _)
    go_wp2_with fail
    refine (isLattice_any Bo ro co Lo w18 oo.ints).mono ?_
    rintro e w' ⟨rfl, rfl⟩
    go_wp2_with fail
    refine (specIsLattice_any Bo ro co Lo w18 oo.ints).mono ?_
    rintro e w19 ⟨rfl, b19⟩
    clear tgc0 tgc1
    replace B := B.trans (b19.mono B.size)
    replace hy := hy.below b19
    replace og := og.below b19 (Nat.le_refl _)
    replace tg := tg.below b19 tg.lt
    have tgc0 := tg.cell0
    have tgc1 := tg.cell1
    replace ol := ol.below b19 (Nat.le_refl _)
    replace om := om.below b19 (Nat.le_refl _)
    replace oo := oo.below b19 (Nat.le_refl _)
    go_wp2
    go_ret
    exact ⟨ret_bool (by simp), B⟩

set_option maxRecDepth 100000 in
theorem lifted (os : Os) (started : os.Started) (H : Type) (enc : TypeId × Value → H) :
    ReturnsInHanded {} Try.checked os 6 .any (Rows.fnMinimaSpec.pre6 enc Try.prog Try.f6 Rows.fnMinimaRow.domain false) (Rows.fnMinimaSpec.post enc Try.prog Try.f6 false true false false) := by
  refine returnsInHanded_of_change (C := Try.checked) own_knob started (by kernel_rfl) Try.func6
    (ChangeSpec.witness6 (enc := enc) (C := Try.checked) false ⟨#[], #[.slice none 0 0], []⟩ 8 (by kernel_rfl) (by kernel_rfl) (by kernel_rfl) (by kernel_rfl)) ?_
  intro W base args ds gs before hval0 hW _ _
  have hval : ∀ (j : Nat) t v, Try.f6.params[j]? = some t → args[j]? = some v → Value.okWide Try.prog W .any base t v := hval0
  have hW' := hW
  obtain ⟨p, q, hA0, hV, rfl, _, _⟩ := hW
  have hA : DataW.TrodAll enc Try.prog W 0 (fun _ => true) true Try.f6.params.toList args.toList ds p := hA0
  rw [Try.params6] at hA hval
  obtain ⟨v0, vs0, d0, ds0, p0, q0, hargs, rfl, rfl, k0, r0⟩ := trodAll_cons hA
  obtain ⟨rfl, rfl, rfl⟩ := trodAll_nil r0
  obtain rfl : args = #[v0] := by cases args; simp_all
  obtain ⟨rfl, rfl⟩ := trodVars_none hV
  obtain ⟨A0, n0, c0, rfl, h0⟩ := open_bytes (hval 0 22 v0 rfl rfl) k0
  have lt0 : ∀ x ∈ p0, x.block < W.heap.size := by obtain ⟨m, hm⟩ := k0; exact DataW.trod_lt m _ _ _ hm
  clear hA0 hval0
  refine (walk A0 n0 c0 W h0).mono fun e W' ⟨he, bel⟩ => ?_
  subst he
  exact ⟨_, rfl, _, _, _, [], _, [], hW', trodAll_mk1 (shut_bool Try.underlying4 _), (trodAll_cons_mk (Below.trod laid_out (by kernel_rfl) (of_decide_eq_true (by kernel_rfl)) k0 bel lt0) trodAll_mk0), rfl, bel.frame _, fun h => by cases h⟩

theorem over : Rows.fnMinimaRow.holds Try.pinned (OpenSpec.ofChange Rows.fnMinimaSpec) :=
  OpenClaim.holds_of_wide 6 Try.f6 rfl rfl rfl rfl rfl rfl rfl ⟨rfl, rfl, rfl, rfl, rfl⟩ rfl rfl rfl rfl rfl (by kernel_rfl) Try.func6 (by kernel_rfl)
    (of_decide_eq_true (by kernel_rfl)) (by unfold Func.isWrapper; first | (rw [if_pos (by decide +kernel)]; kernel_rfl) | (rw [if_neg (by decide +kernel)]; exact ⟨rfl, rfl⟩))
    (fun os started H enc _ => lifted os started H enc)

theorem proved : Rows.FnMinimaSaid := over
#print axioms proved
end Go.Proofs.Ytokeejachclpeaa.fnMinima
