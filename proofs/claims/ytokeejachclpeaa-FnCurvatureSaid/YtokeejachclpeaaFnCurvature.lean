/- The law FnCurvature returns true for every input, and leaves its arguments as they were. No condition. -/
import Derived.Test.YtokeejachclpeaaFrame
import Derived.Test.YtokeejachclpeaaFrameB
import Derived.Test.YtokeejachclpeaaBrCurv
import Derived.Test.YtokeejachclpeaaLawW
import Derived.Test.YtokeejachclpeaaDrawB
import Derived.Test.YtokeejachclpeaaMinM
import Derived.Deep.RegionHeld3
namespace Go.Proofs.Ytokeejachclpeaa.fnCurvature
open Go.ChangeShapes Go.WideShapes Go.ChangeAt Go.RowKit Go.Joins
set_option maxRecDepth 20000 in
set_option maxHeartbeats 16000000 in
theorem walk (A0 : Option Addr) (n0 c0 : Nat) (w : World) (hB : Byts w A0 n0) :
    Calls Try.prog 9 #[.slice A0 n0 c0] w fun e w' => e = .returned (.bool true) ∧ Below w.heap.size w w' := by
  by_cases hbig : 1048576 < n0
  case pos =>
    have e1 : decide (1048576 < n0) = true := by simp [hbig]
    go_enter Try.func9, Try.ntmps9
    go_wp2_with fail
    refine (big_any A0 n0 c0 w hB).mono ?_
    rintro e w' ⟨rfl, rfl⟩
    rw [e1]
    go_wp2
    go_ret
    exact ⟨rfl, Below.refl _ _⟩
  have e1 : decide (1048576 < n0) = false := by simp [hbig]
  go_enter Try.func9, Try.ntmps9
  go_wp2_with fail
  refine (big_any A0 n0 c0 w hB).mono ?_
  rintro e w' ⟨rfl, rfl⟩
  rw [e1]
  clear e1 hbig
  have B := Below.refl w.heap.size w
  have hy := hB
  go_wp2_with fail
  refine (drawCurvatureOf_any A0 n0 c0 w hy).mono ?_
  rintro e w1 ⟨E, r, Bf, cr, L, rfl, hr, of, b1⟩
  replace B := B.trans (b1.mono B.size)
  replace hy := hy.below b1
  have tf : Two (w1.alloc (.cells #[.int .i64 E, .slice Bf r cr] 26)) w1.heap.size (.int .i64 E) (.slice Bf r cr) := heap_alloc_new w1 _
  have b2 := (Below.refl w1.heap.size w1).alloc (Nat.le_refl _) (.cells #[.int .i64 E, .slice Bf r cr] 26)
  obtain ⟨q2, hq2⟩ : ∃ q, q = w1.heap.size := ⟨_, rfl⟩
  obtain ⟨w2, hw2⟩ : ∃ W, W = w1.alloc (.cells #[.int .i64 E, .slice Bf r cr] 26) := ⟨_, rfl⟩
  rw [← hw2] at tf b2
  rw [← hq2] at tf
  replace B := B.trans (b2.mono B.size)
  replace hy := hy.below b2
  replace of := of.below b2 (Nat.le_refl _)
  have tfc0 := tf.cell0
  have tfc1 := tf.cell1
  have tfE := hide (And.intro hw2 hq2)
  clear hw2 hq2
  go_wp2_with fail
  rw [← tfE.out.1, ← tfE.out.2]
  refine (curvatureOf_any E Bf r cr L w2 of.ints).mono ?_
  rintro e w3 ⟨rfl, b3⟩
  clear tfc0 tfc1
  replace B := B.trans (b3.mono B.size)
  replace hy := hy.below b3
  replace of := of.below b3 (Nat.le_refl _)
  replace tf := tf.below b3 tf.lt
  have tfc0 := tf.cell0
  have tfc1 := tf.cell1
  go_wp2_with fail
  refine (specCurvatureOf_any E Bf r cr L w3 of.ints).mono ?_
  rintro e w4 ⟨rfl, b4⟩
  clear tfc0 tfc1
  replace B := B.trans (b4.mono B.size)
  replace hy := hy.below b4
  replace of := of.below b4 (Nat.le_refl _)
  replace tf := tf.below b4 tf.lt
  have tfc0 := tf.cell0
  have tfc1 := tf.cell1
  cases hp : polyB E L
  · clear of
    clear tf tfc0 tfc1
    go_wp2_with fail
    refine (drawRatioOf_any A0 n0 c0 w4 hy).mono ?_
    rintro e w5 ⟨E2, r2, Bg, cg, L2, k, rfl, hr2, og, b5⟩
    replace B := B.trans (b5.mono B.size)
    replace hy := hy.below b5
    have tg : Two (w5.alloc (.cells #[.int .i64 E2, .slice Bg r2 cg] 26)) w5.heap.size (.int .i64 E2) (.slice Bg r2 cg) := heap_alloc_new w5 _
    have b6 := (Below.refl w5.heap.size w5).alloc (Nat.le_refl _) (.cells #[.int .i64 E2, .slice Bg r2 cg] 26)
    obtain ⟨q6, hq6⟩ : ∃ q, q = w5.heap.size := ⟨_, rfl⟩
    obtain ⟨w6, hw6⟩ : ∃ W, W = w5.alloc (.cells #[.int .i64 E2, .slice Bg r2 cg] 26) := ⟨_, rfl⟩
    rw [← hw6] at tg b6
    rw [← hq6] at tg
    replace B := B.trans (b6.mono B.size)
    replace hy := hy.below b6
    replace og := og.below b6 (Nat.le_refl _)
    have tgc0 := tg.cell0
    have tgc1 := tg.cell1
    have tgE := hide (And.intro hw6 hq6)
    clear hw6 hq6
    go_wp2_with fail
    rw [← tgE.out.1, ← tgE.out.2]
    refine (ratioOf_any E2 Bg r2 cg L2 k w6 og.ints).mono ?_
    rintro e w7 ⟨rfl, b7⟩
    clear tgc0 tgc1
    replace B := B.trans (b7.mono B.size)
    replace hy := hy.below b7
    replace og := og.below b7 (Nat.le_refl _)
    replace tg := tg.below b7 tg.lt
    have tgc0 := tg.cell0
    have tgc1 := tg.cell1
    go_wp2_with fail
    refine (specRatioOf_any E2 Bg r2 cg L2 k w7 og.ints).mono ?_
    rintro e w8 ⟨rfl, b8⟩
    clear tgc0 tgc1
    replace B := B.trans (b8.mono B.size)
    replace hy := hy.below b8
    replace og := og.below b8 (Nat.le_refl _)
    replace tg := tg.below b8 tg.lt
    have tgc0 := tg.cell0
    have tgc1 := tg.cell1
    cases hq : ratOk E2 L2 k
    · clear og
      clear tg tgc0 tgc1
      go_wp2_with fail
      refine (drawSubmodularityGap_any A0 n0 c0 w8 hy).mono ?_
      rintro e w9 ⟨E3, r3, Bh, ch, L3, rfl, hr3, oh, b9⟩
      replace B := B.trans (b9.mono B.size)
      replace hy := hy.below b9
      have th : Two (w9.alloc (.cells #[.int .i64 E3, .slice Bh r3 ch] 26)) w9.heap.size (.int .i64 E3) (.slice Bh r3 ch) := heap_alloc_new w9 _
      have b10 := (Below.refl w9.heap.size w9).alloc (Nat.le_refl _) (.cells #[.int .i64 E3, .slice Bh r3 ch] 26)
      obtain ⟨q10, hq10⟩ : ∃ q, q = w9.heap.size := ⟨_, rfl⟩
      obtain ⟨w10, hw10⟩ : ∃ W, W = w9.alloc (.cells #[.int .i64 E3, .slice Bh r3 ch] 26) := ⟨_, rfl⟩
      rw [← hw10] at th b10
      rw [← hq10] at th
      replace B := B.trans (b10.mono B.size)
      replace hy := hy.below b10
      replace oh := oh.below b10 (Nat.le_refl _)
      have thc0 := th.cell0
      have thc1 := th.cell1
      have thE := hide (And.intro hw10 hq10)
      clear hw10 hq10
      go_wp2_with fail
      rw [← thE.out.1, ← thE.out.2]
      refine (submodularityGap_any E3 Bh r3 ch L3 w10 oh.ints).mono ?_
      rintro e w11 ⟨rfl, b11⟩
      clear thc0 thc1
      replace B := B.trans (b11.mono B.size)
      replace hy := hy.below b11
      replace oh := oh.below b11 (Nat.le_refl _)
      replace th := th.below b11 th.lt
      have thc0 := th.cell0
      have thc1 := th.cell1
      go_wp2_with fail
      refine (specSubmodularityGap_any E3 Bh r3 ch L3 w11 oh.ints).mono ?_
      rintro e w12 ⟨rfl, b12⟩
      clear thc0 thc1
      replace B := B.trans (b12.mono B.size)
      replace hy := hy.below b12
      replace oh := oh.below b12 (Nat.le_refl _)
      replace th := th.below b12 th.lt
      have thc0 := th.cell0
      have thc1 := th.cell1
      go_wp2_with fail
      refine (totalGain_any E3 Bh r3 ch L3 w12 oh.ints).mono ?_
      rintro e w13 ⟨rfl, b13⟩
      clear thc0 thc1
      replace B := B.trans (b13.mono B.size)
      replace hy := hy.below b13
      replace oh := oh.below b13 (Nat.le_refl _)
      replace th := th.below b13 th.lt
      have thc0 := th.cell0
      have thc1 := th.cell1
      go_wp2_with fail
      refine (specTotalGain_any E3 Bh r3 ch L3 w13 oh.ints).mono ?_
      rintro e w14 ⟨rfl, b14⟩
      clear thc0 thc1
      replace B := B.trans (b14.mono B.size)
      replace hy := hy.below b14
      replace oh := oh.below b14 (Nat.le_refl _)
      replace th := th.below b14 th.lt
      have thc0 := th.cell0
      have thc1 := th.cell1
      go_wp2_with fail
      refine (drawCompareRatios_any A0 n0 c0 w14 hy).mono ?_
      rintro e w15 ⟨a4, b4, x4, y4, rfl, b15⟩
      clear thc0 thc1
      replace B := B.trans (b15.mono B.size)
      replace hy := hy.below b15
      replace oh := oh.below b15 (Nat.le_refl _)
      replace th := th.below b15 th.lt
      have thc0 := th.cell0
      have thc1 := th.cell1
      cases hi : isFn E3 L3
      · go_wp2_with fail
        refine (compareRatios_any a4 b4 x4 y4 w15).mono ?_
        rintro e w' ⟨rfl, rfl⟩
        go_wp2_with fail
        refine (specCompareRatios_any a4 b4 x4 y4 w15).mono ?_
        rintro e w' ⟨rfl, rfl⟩
        go_wp2
        go_ret
        exact ⟨ret_bool (by simp), B⟩
      · have hgap := gap_law hi
        go_wp2_with fail
        refine (isSubmodular_any E3 Bh r3 ch L3 w15 oh.ints).mono ?_
        rintro e w16 ⟨rfl, b16⟩
        clear thc0 thc1
        replace B := B.trans (b16.mono B.size)
        replace hy := hy.below b16
        replace oh := oh.below b16 (Nat.le_refl _)
        replace th := th.below b16 th.lt
        have thc0 := th.cell0
        have thc1 := th.cell1
        go_wp2_with fail
        refine (compareRatios_any a4 b4 x4 y4 w16).mono ?_
        rintro e w' ⟨rfl, rfl⟩
        go_wp2_with fail
        refine (specCompareRatios_any a4 b4 x4 y4 w16).mono ?_
        rintro e w' ⟨rfl, rfl⟩
        go_wp2
        go_ret
        exact ⟨ret_bool (by simp), B⟩
    · obtain ⟨q1, q2, q3, q4⟩ := rat_facts hq
      have hcf := cur_facts (show polyB E2 L2 = true by simp only [ratOk, Bool.and_eq_true] at hq; exact hq.1)
      have q5 := hcf.d1
      have q6 := hcf.x0
      have q7 := hcf.y1000
      have q8 := hcf.le
      have q9 : 0 ≤ ratA E2 L2 k * (curY E2 L2 + curX E2 L2) ∧ ratA E2 L2 k * (curY E2 L2 + curX E2 L2) ≤ 2000000 :=
        ⟨Int.mul_nonneg q2 (by omega), by have := Int.mul_le_mul (show ratA E2 L2 k ≤ 1000 by omega) (show curY E2 L2 + curX E2 L2 ≤ 2000 by omega) (by omega) (by omega); omega⟩
      have q10 : 0 ≤ ratB E2 L2 k * curY E2 L2 ∧ ratB E2 L2 k * curY E2 L2 ≤ 1000000 :=
        ⟨Int.mul_nonneg (by omega) (by omega), by have := Int.mul_le_mul (show ratB E2 L2 k ≤ 1000 by omega) (show curY E2 L2 ≤ 1000 by omega) (by omega) (by omega); omega⟩
      obtain ⟨q11, q12⟩ := q9
      obtain ⟨q13, q14⟩ := q10
      clear hcf
      go_wp2_with fail
      refine (specCurvatureOf_any E2 Bg r2 cg L2 w8 og.ints).mono ?_
      rintro e w9 ⟨rfl, b9⟩
      clear tgc0 tgc1
      replace B := B.trans (b9.mono B.size)
      replace hy := hy.below b9
      replace og := og.below b9 (Nat.le_refl _)
      replace tg := tg.below b9 tg.lt
      have tgc0 := tg.cell0
      have tgc1 := tg.cell1
      clear og
      clear tg tgc0 tgc1
      go_wp2_with fail
      refine (drawSubmodularityGap_any A0 n0 c0 w9 hy).mono ?_
      rintro e w10 ⟨E3, r3, Bh, ch, L3, rfl, hr3, oh, b10⟩
      replace B := B.trans (b10.mono B.size)
      replace hy := hy.below b10
      have th : Two (w10.alloc (.cells #[.int .i64 E3, .slice Bh r3 ch] 26)) w10.heap.size (.int .i64 E3) (.slice Bh r3 ch) := heap_alloc_new w10 _
      have b11 := (Below.refl w10.heap.size w10).alloc (Nat.le_refl _) (.cells #[.int .i64 E3, .slice Bh r3 ch] 26)
      obtain ⟨q11, hq11⟩ : ∃ q, q = w10.heap.size := ⟨_, rfl⟩
      obtain ⟨w11, hw11⟩ : ∃ W, W = w10.alloc (.cells #[.int .i64 E3, .slice Bh r3 ch] 26) := ⟨_, rfl⟩
      rw [← hw11] at th b11
      rw [← hq11] at th
      replace B := B.trans (b11.mono B.size)
      replace hy := hy.below b11
      replace oh := oh.below b11 (Nat.le_refl _)
      have thc0 := th.cell0
      have thc1 := th.cell1
      have thE := hide (And.intro hw11 hq11)
      clear hw11 hq11
      go_wp2_with fail
      rw [← thE.out.1, ← thE.out.2]
      refine (submodularityGap_any E3 Bh r3 ch L3 w11 oh.ints).mono ?_
      rintro e w12 ⟨rfl, b12⟩
      clear thc0 thc1
      replace B := B.trans (b12.mono B.size)
      replace hy := hy.below b12
      replace oh := oh.below b12 (Nat.le_refl _)
      replace th := th.below b12 th.lt
      have thc0 := th.cell0
      have thc1 := th.cell1
      go_wp2_with fail
      refine (specSubmodularityGap_any E3 Bh r3 ch L3 w12 oh.ints).mono ?_
      rintro e w13 ⟨rfl, b13⟩
      clear thc0 thc1
      replace B := B.trans (b13.mono B.size)
      replace hy := hy.below b13
      replace oh := oh.below b13 (Nat.le_refl _)
      replace th := th.below b13 th.lt
      have thc0 := th.cell0
      have thc1 := th.cell1
      go_wp2_with fail
      refine (totalGain_any E3 Bh r3 ch L3 w13 oh.ints).mono ?_
      rintro e w14 ⟨rfl, b14⟩
      clear thc0 thc1
      replace B := B.trans (b14.mono B.size)
      replace hy := hy.below b14
      replace oh := oh.below b14 (Nat.le_refl _)
      replace th := th.below b14 th.lt
      have thc0 := th.cell0
      have thc1 := th.cell1
      go_wp2_with fail
      refine (specTotalGain_any E3 Bh r3 ch L3 w14 oh.ints).mono ?_
      rintro e w15 ⟨rfl, b15⟩
      clear thc0 thc1
      replace B := B.trans (b15.mono B.size)
      replace hy := hy.below b15
      replace oh := oh.below b15 (Nat.le_refl _)
      replace th := th.below b15 th.lt
      have thc0 := th.cell0
      have thc1 := th.cell1
      go_wp2_with fail
      refine (drawCompareRatios_any A0 n0 c0 w15 hy).mono ?_
      rintro e w16 ⟨a4, b4, x4, y4, rfl, b16⟩
      clear thc0 thc1
      replace B := B.trans (b16.mono B.size)
      replace hy := hy.below b16
      replace oh := oh.below b16 (Nat.le_refl _)
      replace th := th.below b16 th.lt
      have thc0 := th.cell0
      have thc1 := th.cell1
      cases hi : isFn E3 L3
      · go_wp2_with fail
        refine (compareRatios_any a4 b4 x4 y4 w16).mono ?_
        rintro e w' ⟨rfl, rfl⟩
        go_wp2_with fail
        refine (specCompareRatios_any a4 b4 x4 y4 w16).mono ?_
        rintro e w' ⟨rfl, rfl⟩
        go_wp2
        go_ret
        exact ⟨ret_bool (by simp), B⟩
      · have hgap := gap_law hi
        go_wp2_with fail
        refine (isSubmodular_any E3 Bh r3 ch L3 w16 oh.ints).mono ?_
        rintro e w17 ⟨rfl, b17⟩
        clear thc0 thc1
        replace B := B.trans (b17.mono B.size)
        replace hy := hy.below b17
        replace oh := oh.below b17 (Nat.le_refl _)
        replace th := th.below b17 th.lt
        have thc0 := th.cell0
        have thc1 := th.cell1
        go_wp2_with fail
        refine (compareRatios_any a4 b4 x4 y4 w17).mono ?_
        rintro e w' ⟨rfl, rfl⟩
        go_wp2_with fail
        refine (specCompareRatios_any a4 b4 x4 y4 w17).mono ?_
        rintro e w' ⟨rfl, rfl⟩
        go_wp2
        go_ret
        exact ⟨ret_bool (by simp), B⟩
  · have hcf := cur_facts hp
    have f1 := hcf.pos
    have f2 : decide (curY E L < curX E L) = false := decide_eq_false (by have := hcf.le; omega)
    have f3 := hcf.md
    clear hcf
    go_wp2_with fail
    refine (isModular_any E Bf r cr L w4 of.ints).mono ?_
    rintro e w5 ⟨rfl, b5⟩
    clear tfc0 tfc1
    replace B := B.trans (b5.mono B.size)
    replace hy := hy.below b5
    replace of := of.below b5 (Nat.le_refl _)
    replace tf := tf.below b5 tf.lt
    have tfc0 := tf.cell0
    have tfc1 := tf.cell1
    clear of
    clear tf tfc0 tfc1
    go_wp2_with fail
    refine (drawRatioOf_any A0 n0 c0 w5 hy).mono ?_
    rintro e w6 ⟨E2, r2, Bg, cg, L2, k, rfl, hr2, og, b6⟩
    replace B := B.trans (b6.mono B.size)
    replace hy := hy.below b6
    have tg : Two (w6.alloc (.cells #[.int .i64 E2, .slice Bg r2 cg] 26)) w6.heap.size (.int .i64 E2) (.slice Bg r2 cg) := heap_alloc_new w6 _
    have b7 := (Below.refl w6.heap.size w6).alloc (Nat.le_refl _) (.cells #[.int .i64 E2, .slice Bg r2 cg] 26)
    obtain ⟨q7, hq7⟩ : ∃ q, q = w6.heap.size := ⟨_, rfl⟩
    obtain ⟨w7, hw7⟩ : ∃ W, W = w6.alloc (.cells #[.int .i64 E2, .slice Bg r2 cg] 26) := ⟨_, rfl⟩
    rw [← hw7] at tg b7
    rw [← hq7] at tg
    replace B := B.trans (b7.mono B.size)
    replace hy := hy.below b7
    replace og := og.below b7 (Nat.le_refl _)
    have tgc0 := tg.cell0
    have tgc1 := tg.cell1
    have tgE := hide (And.intro hw7 hq7)
    clear hw7 hq7
    go_wp2_with fail
    rw [← tgE.out.1, ← tgE.out.2]
    refine (ratioOf_any E2 Bg r2 cg L2 k w7 og.ints).mono ?_
    rintro e w8 ⟨rfl, b8⟩
    clear tgc0 tgc1
    replace B := B.trans (b8.mono B.size)
    replace hy := hy.below b8
    replace og := og.below b8 (Nat.le_refl _)
    replace tg := tg.below b8 tg.lt
    have tgc0 := tg.cell0
    have tgc1 := tg.cell1
    go_wp2_with fail
    refine (specRatioOf_any E2 Bg r2 cg L2 k w8 og.ints).mono ?_
    rintro e w9 ⟨rfl, b9⟩
    clear tgc0 tgc1
    replace B := B.trans (b9.mono B.size)
    replace hy := hy.below b9
    replace og := og.below b9 (Nat.le_refl _)
    replace tg := tg.below b9 tg.lt
    have tgc0 := tg.cell0
    have tgc1 := tg.cell1
    cases hq : ratOk E2 L2 k
    · clear og
      clear tg tgc0 tgc1
      go_wp2_with fail
      refine (drawSubmodularityGap_any A0 n0 c0 w9 hy).mono ?_
      rintro e w10 ⟨E3, r3, Bh, ch, L3, rfl, hr3, oh, b10⟩
      replace B := B.trans (b10.mono B.size)
      replace hy := hy.below b10
      have th : Two (w10.alloc (.cells #[.int .i64 E3, .slice Bh r3 ch] 26)) w10.heap.size (.int .i64 E3) (.slice Bh r3 ch) := heap_alloc_new w10 _
      have b11 := (Below.refl w10.heap.size w10).alloc (Nat.le_refl _) (.cells #[.int .i64 E3, .slice Bh r3 ch] 26)
      obtain ⟨q11, hq11⟩ : ∃ q, q = w10.heap.size := ⟨_, rfl⟩
      obtain ⟨w11, hw11⟩ : ∃ W, W = w10.alloc (.cells #[.int .i64 E3, .slice Bh r3 ch] 26) := ⟨_, rfl⟩
      rw [← hw11] at th b11
      rw [← hq11] at th
      replace B := B.trans (b11.mono B.size)
      replace hy := hy.below b11
      replace oh := oh.below b11 (Nat.le_refl _)
      have thc0 := th.cell0
      have thc1 := th.cell1
      have thE := hide (And.intro hw11 hq11)
      clear hw11 hq11
      go_wp2_with fail
      rw [← thE.out.1, ← thE.out.2]
      refine (submodularityGap_any E3 Bh r3 ch L3 w11 oh.ints).mono ?_
      rintro e w12 ⟨rfl, b12⟩
      clear thc0 thc1
      replace B := B.trans (b12.mono B.size)
      replace hy := hy.below b12
      replace oh := oh.below b12 (Nat.le_refl _)
      replace th := th.below b12 th.lt
      have thc0 := th.cell0
      have thc1 := th.cell1
      go_wp2_with fail
      refine (specSubmodularityGap_any E3 Bh r3 ch L3 w12 oh.ints).mono ?_
      rintro e w13 ⟨rfl, b13⟩
      clear thc0 thc1
      replace B := B.trans (b13.mono B.size)
      replace hy := hy.below b13
      replace oh := oh.below b13 (Nat.le_refl _)
      replace th := th.below b13 th.lt
      have thc0 := th.cell0
      have thc1 := th.cell1
      go_wp2_with fail
      refine (totalGain_any E3 Bh r3 ch L3 w13 oh.ints).mono ?_
      rintro e w14 ⟨rfl, b14⟩
      clear thc0 thc1
      replace B := B.trans (b14.mono B.size)
      replace hy := hy.below b14
      replace oh := oh.below b14 (Nat.le_refl _)
      replace th := th.below b14 th.lt
      have thc0 := th.cell0
      have thc1 := th.cell1
      go_wp2_with fail
      refine (specTotalGain_any E3 Bh r3 ch L3 w14 oh.ints).mono ?_
      rintro e w15 ⟨rfl, b15⟩
      clear thc0 thc1
      replace B := B.trans (b15.mono B.size)
      replace hy := hy.below b15
      replace oh := oh.below b15 (Nat.le_refl _)
      replace th := th.below b15 th.lt
      have thc0 := th.cell0
      have thc1 := th.cell1
      go_wp2_with fail
      refine (drawCompareRatios_any A0 n0 c0 w15 hy).mono ?_
      rintro e w16 ⟨a4, b4, x4, y4, rfl, b16⟩
      clear thc0 thc1
      replace B := B.trans (b16.mono B.size)
      replace hy := hy.below b16
      replace oh := oh.below b16 (Nat.le_refl _)
      replace th := th.below b16 th.lt
      have thc0 := th.cell0
      have thc1 := th.cell1
      cases hi : isFn E3 L3
      · go_wp2_with fail
        refine (compareRatios_any a4 b4 x4 y4 w16).mono ?_
        rintro e w' ⟨rfl, rfl⟩
        go_wp2_with fail
        refine (specCompareRatios_any a4 b4 x4 y4 w16).mono ?_
        rintro e w' ⟨rfl, rfl⟩
        go_wp2
        go_ret
        exact ⟨ret_bool (by simp), B⟩
      · have hgap := gap_law hi
        go_wp2_with fail
        refine (isSubmodular_any E3 Bh r3 ch L3 w16 oh.ints).mono ?_
        rintro e w17 ⟨rfl, b17⟩
        clear thc0 thc1
        replace B := B.trans (b17.mono B.size)
        replace hy := hy.below b17
        replace oh := oh.below b17 (Nat.le_refl _)
        replace th := th.below b17 th.lt
        have thc0 := th.cell0
        have thc1 := th.cell1
        go_wp2_with fail
        refine (compareRatios_any a4 b4 x4 y4 w17).mono ?_
        rintro e w' ⟨rfl, rfl⟩
        go_wp2_with fail
        refine (specCompareRatios_any a4 b4 x4 y4 w17).mono ?_
        rintro e w' ⟨rfl, rfl⟩
        go_wp2
        go_ret
        exact ⟨ret_bool (by simp), B⟩
    · obtain ⟨q1, q2, q3, q4⟩ := rat_facts hq
      have hcf := cur_facts (show polyB E2 L2 = true by simp only [ratOk, Bool.and_eq_true] at hq; exact hq.1)
      have q5 := hcf.d1
      have q6 := hcf.x0
      have q7 := hcf.y1000
      have q8 := hcf.le
      have q9 : 0 ≤ ratA E2 L2 k * (curY E2 L2 + curX E2 L2) ∧ ratA E2 L2 k * (curY E2 L2 + curX E2 L2) ≤ 2000000 :=
        ⟨Int.mul_nonneg q2 (by omega), by have := Int.mul_le_mul (show ratA E2 L2 k ≤ 1000 by omega) (show curY E2 L2 + curX E2 L2 ≤ 2000 by omega) (by omega) (by omega); omega⟩
      have q10 : 0 ≤ ratB E2 L2 k * curY E2 L2 ∧ ratB E2 L2 k * curY E2 L2 ≤ 1000000 :=
        ⟨Int.mul_nonneg (by omega) (by omega), by have := Int.mul_le_mul (show ratB E2 L2 k ≤ 1000 by omega) (show curY E2 L2 ≤ 1000 by omega) (by omega) (by omega); omega⟩
      obtain ⟨q11, q12⟩ := q9
      obtain ⟨q13, q14⟩ := q10
      clear hcf
      go_wp2_with fail
      refine (specCurvatureOf_any E2 Bg r2 cg L2 w9 og.ints).mono ?_
      rintro e w10 ⟨rfl, b10⟩
      clear tgc0 tgc1
      replace B := B.trans (b10.mono B.size)
      replace hy := hy.below b10
      replace og := og.below b10 (Nat.le_refl _)
      replace tg := tg.below b10 tg.lt
      have tgc0 := tg.cell0
      have tgc1 := tg.cell1
      clear og
      clear tg tgc0 tgc1
      go_wp2_with fail
      refine (drawSubmodularityGap_any A0 n0 c0 w10 hy).mono ?_
      rintro e w11 ⟨E3, r3, Bh, ch, L3, rfl, hr3, oh, b11⟩
      replace B := B.trans (b11.mono B.size)
      replace hy := hy.below b11
      have th : Two (w11.alloc (.cells #[.int .i64 E3, .slice Bh r3 ch] 26)) w11.heap.size (.int .i64 E3) (.slice Bh r3 ch) := heap_alloc_new w11 _
      have b12 := (Below.refl w11.heap.size w11).alloc (Nat.le_refl _) (.cells #[.int .i64 E3, .slice Bh r3 ch] 26)
      obtain ⟨q12, hq12⟩ : ∃ q, q = w11.heap.size := ⟨_, rfl⟩
      obtain ⟨w12, hw12⟩ : ∃ W, W = w11.alloc (.cells #[.int .i64 E3, .slice Bh r3 ch] 26) := ⟨_, rfl⟩
      rw [← hw12] at th b12
      rw [← hq12] at th
      replace B := B.trans (b12.mono B.size)
      replace hy := hy.below b12
      replace oh := oh.below b12 (Nat.le_refl _)
      have thc0 := th.cell0
      have thc1 := th.cell1
      have thE := hide (And.intro hw12 hq12)
      clear hw12 hq12
      go_wp2_with fail
      rw [← thE.out.1, ← thE.out.2]
      refine (submodularityGap_any E3 Bh r3 ch L3 w12 oh.ints).mono ?_
      rintro e w13 ⟨rfl, b13⟩
      clear thc0 thc1
      replace B := B.trans (b13.mono B.size)
      replace hy := hy.below b13
      replace oh := oh.below b13 (Nat.le_refl _)
      replace th := th.below b13 th.lt
      have thc0 := th.cell0
      have thc1 := th.cell1
      go_wp2_with fail
      refine (specSubmodularityGap_any E3 Bh r3 ch L3 w13 oh.ints).mono ?_
      rintro e w14 ⟨rfl, b14⟩
      clear thc0 thc1
      replace B := B.trans (b14.mono B.size)
      replace hy := hy.below b14
      replace oh := oh.below b14 (Nat.le_refl _)
      replace th := th.below b14 th.lt
      have thc0 := th.cell0
      have thc1 := th.cell1
      go_wp2_with fail
      refine (totalGain_any E3 Bh r3 ch L3 w14 oh.ints).mono ?_
      rintro e w15 ⟨rfl, b15⟩
      clear thc0 thc1
      replace B := B.trans (b15.mono B.size)
      replace hy := hy.below b15
      replace oh := oh.below b15 (Nat.le_refl _)
      replace th := th.below b15 th.lt
      have thc0 := th.cell0
      have thc1 := th.cell1
      go_wp2_with fail
      refine (specTotalGain_any E3 Bh r3 ch L3 w15 oh.ints).mono ?_
      rintro e w16 ⟨rfl, b16⟩
      clear thc0 thc1
      replace B := B.trans (b16.mono B.size)
      replace hy := hy.below b16
      replace oh := oh.below b16 (Nat.le_refl _)
      replace th := th.below b16 th.lt
      have thc0 := th.cell0
      have thc1 := th.cell1
      go_wp2_with fail
      refine (drawCompareRatios_any A0 n0 c0 w16 hy).mono ?_
      rintro e w17 ⟨a4, b4, x4, y4, rfl, b17⟩
      clear thc0 thc1
      replace B := B.trans (b17.mono B.size)
      replace hy := hy.below b17
      replace oh := oh.below b17 (Nat.le_refl _)
      replace th := th.below b17 th.lt
      have thc0 := th.cell0
      have thc1 := th.cell1
      cases hi : isFn E3 L3
      · go_wp2_with fail
        refine (compareRatios_any a4 b4 x4 y4 w17).mono ?_
        rintro e w' ⟨rfl, rfl⟩
        go_wp2_with fail
        refine (specCompareRatios_any a4 b4 x4 y4 w17).mono ?_
        rintro e w' ⟨rfl, rfl⟩
        go_wp2
        go_ret
        exact ⟨ret_bool (by simp), B⟩
      · have hgap := gap_law hi
        go_wp2_with fail
        refine (isSubmodular_any E3 Bh r3 ch L3 w17 oh.ints).mono ?_
        rintro e w18 ⟨rfl, b18⟩
        clear thc0 thc1
        replace B := B.trans (b18.mono B.size)
        replace hy := hy.below b18
        replace oh := oh.below b18 (Nat.le_refl _)
        replace th := th.below b18 th.lt
        have thc0 := th.cell0
        have thc1 := th.cell1
        go_wp2_with fail
        refine (compareRatios_any a4 b4 x4 y4 w18).mono ?_
        rintro e w' ⟨rfl, rfl⟩
        go_wp2_with fail
        refine (specCompareRatios_any a4 b4 x4 y4 w18).mono ?_
        rintro e w' ⟨rfl, rfl⟩
        go_wp2
        go_ret
        exact ⟨ret_bool (by simp), B⟩

set_option maxRecDepth 100000 in
theorem lifted (os : Os) (started : os.Started) (H : Type) (enc : TypeId × Value → H) :
    ReturnsInHanded {} Try.checked os 9 .any (Rows.fnCurvatureSpec.pre6 enc Try.prog Try.f9 Rows.fnCurvatureRow.domain false) (Rows.fnCurvatureSpec.post enc Try.prog Try.f9 false true false false) := by
  refine returnsInHanded_of_change (C := Try.checked) own_knob started (by kernel_rfl) Try.func9
    (ChangeSpec.witness6 (enc := enc) (C := Try.checked) false ⟨#[], #[.slice none 0 0], []⟩ 8 (by kernel_rfl) (by kernel_rfl) (by kernel_rfl) (by kernel_rfl)) ?_
  intro W base args ds gs before hval0 hW _ _
  have hval : ∀ (j : Nat) t v, Try.f9.params[j]? = some t → args[j]? = some v → Value.okWide Try.prog W .any base t v := hval0
  have hW' := hW
  obtain ⟨p, q, hA0, hV, rfl, _, _⟩ := hW
  have hA : DataW.TrodAll enc Try.prog W 0 (fun _ => true) true Try.f9.params.toList args.toList ds p := hA0
  rw [Try.params9] at hA hval
  obtain ⟨v0, vs0, d0, ds0, p0, q0, hargs, rfl, rfl, k0, r0⟩ := trodAll_cons hA
  obtain ⟨rfl, rfl, rfl⟩ := trodAll_nil r0
  obtain rfl : args = #[v0] := by cases args; simp_all
  obtain ⟨rfl, rfl⟩ := trodVars_none hV
  obtain ⟨A0, n0, c0, rfl, h0⟩ := open_bytes (hval 0 22 v0 rfl rfl) k0
  have lt0 : ∀ x ∈ p0, x.block < W.heap.size := by obtain ⟨m, hm⟩ := k0; exact DataW.trod_lt m _ _ _ hm
  clear hA0 hval0
  refine (walk A0 n0 c0 W h0).mono fun e W' ⟨he, bel⟩ => ?_
  subst he
  exact ⟨_, rfl, _, _, _, [], _, [], hW', trodAll_mk1 (shut_bool Try.underlying4 _), (trodAll_cons_mk (Below.trod laid_out (by kernel_rfl) (of_decide_eq_true (by kernel_rfl)) k0 bel lt0) trodAll_mk0), rfl, bel.frame _, fun h => by cases h⟩

theorem over : Rows.fnCurvatureRow.holds Try.pinned (OpenSpec.ofChange Rows.fnCurvatureSpec) :=
  OpenClaim.holds_of_wide 9 Try.f9 rfl rfl rfl rfl rfl rfl rfl ⟨rfl, rfl, rfl, rfl, rfl⟩ rfl rfl rfl rfl rfl (by kernel_rfl) Try.func9 (by kernel_rfl)
    (of_decide_eq_true (by kernel_rfl)) (by unfold Func.isWrapper; first | (rw [if_pos (by decide +kernel)]; kernel_rfl) | (rw [if_neg (by decide +kernel)]; exact ⟨rfl, rfl⟩))
    (fun os started H enc _ => lifted os started H enc)

theorem proved : Rows.FnCurvatureSaid := over
#print axioms proved
end Go.Proofs.Ytokeejachclpeaa.fnCurvature
