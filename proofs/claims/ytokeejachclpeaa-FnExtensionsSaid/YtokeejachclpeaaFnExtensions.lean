/- The law FnExtensions returns true for every input, and leaves its arguments as they were. No condition. -/
import Derived.Test.YtokeejachclpeaaFrame
import Derived.Test.YtokeejachclpeaaFrameB
import Derived.Test.YtokeejachclpeaaBrExt
import Derived.Test.YtokeejachclpeaaLawX
import Derived.Test.YtokeejachclpeaaLawT
import Derived.Test.YtokeejachclpeaaLawS
import Derived.Test.YtokeejachclpeaaLawW
import Derived.Test.YtokeejachclpeaaDrawF
import Derived.Test.YtokeejachclpeaaConv
import Derived.Test.YtokeejachclpeaaLeaM
import Derived.Test.YtokeejachclpeaaLevM
import Derived.Test.YtokeejachclpeaaOrdM
import Derived.Test.YtokeejachclpeaaLinM
import Derived.Test.YtokeejachclpeaaExt
import Derived.Test.YtokeejachclpeaaBB
import Derived.Deep.RegionHeld3
import Derived.Deep.CutRange
import Derived.BigQuiet
namespace Go.Proofs.Ytokeejachclpeaa.fnExtensions
open Go.ChangeShapes Go.WideShapes Go.ChangeAt Go.RowKit Go.Joins
set_option maxRecDepth 20000 in
set_option maxHeartbeats 16000000 in
theorem walk (A0 : Option Addr) (n0 c0 : Nat) (w : World) (hB : Byts w A0 n0) :
    Calls Try.prog 5 #[.slice A0 n0 c0] w fun e w' => e = .returned (.bool true) ∧ Below w.heap.size w w' := by
  by_cases hbig : 1048576 < n0
  case pos =>
    have e1 : decide (1048576 < n0) = true := by simp [hbig]
    go_enter Try.func5, Try.ntmps5
    go_wp2_with fail
    refine (big_any A0 n0 c0 w hB).mono ?_
    rintro e w' ⟨rfl, rfl⟩
    rw [e1]
    go_wp2
    go_ret
    exact ⟨rfl, Below.refl _ _⟩
  have e1 : decide (1048576 < n0) = false := by simp [hbig]
  go_enter Try.func5, Try.ntmps5
  go_wp2_with fail
  refine (big_any A0 n0 c0 w hB).mono ?_
  rintro e w' ⟨rfl, rfl⟩
  rw [e1]
  have hn0 : n0 ≤ 1048576 := by omega
  clear e1 hbig
  have B := Below.refl w.heap.size w
  have hy := hB
  go_wp2_with fail
  refine (drawExtensionAt_any A0 n0 c0 w hy).mono ?_
  rintro e w1 ⟨E, r, Bf, cr, L, kx, Bx, cx, x, rfl, hr, of, hkx, ox, b1, hFl⟩
  replace B := B.trans (b1.mono B.size)
  replace hy := hy.below b1
  clear hFl
  have tf : Two (w1.alloc (.cells #[.int .i64 E, .slice Bf r cr] 26)) w1.heap.size (.int .i64 E) (.slice Bf r cr) := heap_alloc_new w1 _
  have b2 := (Below.refl w1.heap.size w1).alloc (Nat.le_refl _) (.cells #[.int .i64 E, .slice Bf r cr] 26)
  obtain ⟨q2, hq2⟩ : ∃ q, q = w1.heap.size := ⟨_, rfl⟩
  obtain ⟨w2, hw2⟩ : ∃ W, W = w1.alloc (.cells #[.int .i64 E, .slice Bf r cr] 26) := ⟨_, rfl⟩
  rw [← hw2] at tf b2
  rw [← hq2] at tf
  replace B := B.trans (b2.mono B.size)
  replace hy := hy.below b2
  replace of := of.below b2 (Nat.le_refl _)
  replace ox := ox.below b2 (Nat.le_refl _)
  have tfc0 := tf.cell0
  have tfc1 := tf.cell1
  have tfE := hide (And.intro hw2 hq2)
  clear hw2 hq2
  go_wp2_with fail
  rw [← tfE.out.1, ← tfE.out.2]
  refine (extensionAt_any E Bf r cr L Bx kx cx x w2 of.ints ox.ints).mono ?_
  rintro e w3 ⟨rfl, b3⟩
  clear tfc0 tfc1
  replace B := B.trans (b3.mono B.size)
  replace hy := hy.below b3
  replace of := of.below b3 (Nat.le_refl _)
  replace ox := ox.below b3 (Nat.le_refl _)
  replace tf := tf.below b3 tf.lt
  have tfc0 := tf.cell0
  have tfc1 := tf.cell1
  go_wp2_with fail
  refine (specExtensionAt_any E Bf r cr L Bx kx cx x w3 of.ints ox.ints).mono ?_
  rintro e w4 ⟨rfl, b4⟩
  clear tfc0 tfc1
  replace B := B.trans (b4.mono B.size)
  replace hy := hy.below b4
  replace of := of.below b4 (Nat.le_refl _)
  replace ox := ox.below b4 (Nat.le_refl _)
  replace tf := tf.below b4 tf.lt
  have tfc0 := tf.cell0
  have tfc1 := tf.cell1
  go_wp2_with fail
  refine (specIsFunction_any E Bf r cr L w4 of.ints).mono ?_
  rintro e w5 ⟨rfl, b5⟩
  clear tfc0 tfc1
  replace B := B.trans (b5.mono B.size)
  replace hy := hy.below b5
  replace of := of.below b5 (Nat.le_refl _)
  replace ox := ox.below b5 (Nat.le_refl _)
  replace tf := tf.below b5 tf.lt
  have tfc0 := tf.cell0
  have tfc1 := tf.cell1
  go_upto_if 95 with fail
  go_cut [9, 10, 11, 12, 13, 95] from 96 to 125 (fun s9 s10 s11 s12 s13 s95 wx => Below w5.heap.size w5 wx)
  case first =>
    have bm := Below.refl w5.heap.size w5
    cases hf : isFn E L
    · go_wp2_with fail
      go_meet
      case rel => exact bm
    · obtain ⟨N, rfl, hN, hl, ha⟩ := isFn_true hf
      have hrl : r = 2 ^ N := by have := of.len; omega
      have hpN := Nat.two_pow_pos N
      have h32 : 2 ^ N ≤ 32 := Nat.pow_le_pow_right (n := 2) (by omega) hN
      have hr0 : 0 < r := by omega
      obtain ⟨x8, hx8, HA⟩ := at3_val A0 n0 c0 _ hy hn0
      obtain ⟨s8, hs8⟩ : ∃ s, s = x8 % r := ⟨_, rfl⟩
      have hs8r : s8 < r := by rw [hs8]; exact Nat.mod_lt _ hr0
      have hmod : (x8 : Int) % (r : Int) = (s8 : Int) := by rw [hs8]; rfl
      have hmodT : Int.tmod (x8 : Int) (r : Int) = (s8 : Int) := by rw [hs8]; rfl
      obtain ⟨ei1, ei2⟩ := ext_ind (s := s8) hf (by omega)
      have HAT := hide HA
      have HEX := hide (fun W Bi ri ci (h1 : Ints W Bf r L) (h2 : Ints W Bi ri (indL N s8)) => extensionAt_any N Bf r cr L Bi ri ci (indL N s8) W h1 h2)
      rw [ei1, ei2] at HEX
      have HIN := hide (fun W => indicatorOf_any N s8 W hN (by omega))
      have hrz : ((r : Int) == 0) = false := by simp; omega
      have hrz2 : ¬ (r : Int) = 0 := by omega
      have u0 := wc_cell tfc0
      have u1 := wc_cell tfc1
      clear hrl hpN h32 HA hs8 ei1 ei2 hl ha hf
      go_wp2_with fail
      refine region_below (by kernel_rfl) (by kernel_rfl) ?_
      repeat (go_big_quiet_step ((go_at_call 62; refine wc_same (HAT.out _ (Wc.below _)))))
      refine wpQuiet_nil ?_
      intro _ hw'
      obtain ⟨p, rfl⟩ := hw'
      have bq := p.below
      obtain ⟨wq, hwq⟩ : ∃ W, W = p.at_ := ⟨_, rfl⟩
      rw [← hwq] at bq ⊢
      clear hwq u0 u1 hmod hmodT hrz hrz2
      clear tfc0 tfc1
      replace B := B.trans (bq.mono B.size)
      replace hy := hy.below bq
      replace of := of.below bq (Nat.le_refl _)
      replace ox := ox.below bq (Nat.le_refl _)
      replace tf := tf.below bq tf.lt
      have tfc0 := tf.cell0
      have tfc1 := tf.cell1
      replace bm := bm.trans (bq.mono bm.size)
      go_wp2_with fail
      refine (HIN.out wq).mono ?_
      rintro e w6 ⟨Bi, ri, ci, rfl, oi, hri, b6⟩
      clear tfc0 tfc1
      replace B := B.trans (b6.mono B.size)
      replace hy := hy.below b6
      replace of := of.below b6 (Nat.le_refl _)
      replace ox := ox.below b6 (Nat.le_refl _)
      replace tf := tf.below b6 tf.lt
      have tfc0 := tf.cell0
      have tfc1 := tf.cell1
      replace bm := bm.trans (b6.mono bm.size)
      go_wp2_with fail
      refine (HEX.out w6 Bi ri ci of.ints oi.ints).mono ?_
      rintro e w7 ⟨rfl, b7⟩
      clear tfc0 tfc1
      replace B := B.trans (b7.mono B.size)
      replace hy := hy.below b7
      replace of := of.below b7 (Nat.le_refl _)
      replace ox := ox.below b7 (Nat.le_refl _)
      replace tf := tf.below b7 tf.lt
      have tfc0 := tf.cell0
      have tfc1 := tf.cell1
      replace bm := bm.trans (b7.mono bm.size)
      replace oi := oi.below b7 (Nat.le_refl _)
      obtain ⟨bL, offL, rfl, hbL, hcL⟩ := of.ints.at_ hs8r
      have i1 : (0 : Int) ≤ (s8 : Int) := by omega
      have i2 : (s8 : Int) < (r : Int) := by omega
      go_wp2_with fail
      go_meet
      case rel => exact bm
  case rest =>
    obtain ⟨w8, rfl⟩ : ∃ W : World, W = wc := ⟨_, rfl⟩
    have b8 := hcut
    clear tfc0 tfc1
    replace B := B.trans (b8.mono B.size)
    replace hy := hy.below b8
    replace of := of.below b8 (Nat.le_refl _)
    replace ox := ox.below b8 (Nat.le_refl _)
    replace tf := tf.below b8 tf.lt
    have tfc0 := tf.cell0
    have tfc1 := tf.cell1
    clear ox
    clear of
    clear tf tfc0 tfc1
    go_wp2_with fail
    refine (drawIsConvexAt_any A0 n0 c0 w8 hy).mono ?_
    rintro e w9 ⟨E2, r2, Bg, cg, L2, k1, B1, c1, y1, k2, B2, c2, y2, rfl, hr2, og, hk1, o1, hk2, o2, b9⟩
    replace B := B.trans (b9.mono B.size)
    replace hy := hy.below b9
    have tg : Two (w9.alloc (.cells #[.int .i64 E2, .slice Bg r2 cg] 26)) w9.heap.size (.int .i64 E2) (.slice Bg r2 cg) := heap_alloc_new w9 _
    have b10 := (Below.refl w9.heap.size w9).alloc (Nat.le_refl _) (.cells #[.int .i64 E2, .slice Bg r2 cg] 26)
    obtain ⟨q10, hq10⟩ : ∃ q, q = w9.heap.size := ⟨_, rfl⟩
    obtain ⟨w10, hw10⟩ : ∃ W, W = w9.alloc (.cells #[.int .i64 E2, .slice Bg r2 cg] 26) := ⟨_, rfl⟩
    rw [← hw10] at tg b10
    rw [← hq10] at tg
    replace B := B.trans (b10.mono B.size)
    replace hy := hy.below b10
    replace og := og.below b10 (Nat.le_refl _)
    replace o1 := o1.below b10 (Nat.le_refl _)
    replace o2 := o2.below b10 (Nat.le_refl _)
    have tgc0 := tg.cell0
    have tgc1 := tg.cell1
    have tgE := hide (And.intro hw10 hq10)
    clear hw10 hq10
    go_wp2_with fail
    rw [← tgE.out.1, ← tgE.out.2]
    refine (isConvexAt_any E2 Bg r2 cg L2 B1 k1 c1 y1 B2 k2 c2 y2 w10 og.ints o1.ints o2.ints).mono ?_
    rintro e w11 ⟨rfl, b11⟩
    clear tgc0 tgc1
    replace B := B.trans (b11.mono B.size)
    replace hy := hy.below b11
    replace og := og.below b11 (Nat.le_refl _)
    replace o1 := o1.below b11 (Nat.le_refl _)
    replace o2 := o2.below b11 (Nat.le_refl _)
    replace tg := tg.below b11 tg.lt
    have tgc0 := tg.cell0
    have tgc1 := tg.cell1
    go_wp2_with fail
    refine (specIsConvexAt_any E2 Bg r2 cg L2 B1 k1 c1 y1 B2 k2 c2 y2 w11 og.ints o1.ints o2.ints).mono ?_
    rintro e w12 ⟨rfl, b12⟩
    clear tgc0 tgc1
    replace B := B.trans (b12.mono B.size)
    replace hy := hy.below b12
    replace og := og.below b12 (Nat.le_refl _)
    replace o1 := o1.below b12 (Nat.le_refl _)
    replace o2 := o2.below b12 (Nat.le_refl _)
    replace tg := tg.below b12 tg.lt
    have tgc0 := tg.cell0
    have tgc1 := tg.cell1
    clear og
    clear o1
    clear o2
    clear tg tgc0 tgc1
    go_wp2_with fail
    refine (drawMaximumFor_any A0 n0 c0 w12 hy).mono ?_
    rintro e w13 ⟨E3, r3, Bh, ch, L3, kw, Bw, cw, x3, rfl, hr3, oh, hkw, ow, b13, hFl3⟩
    replace B := B.trans (b13.mono B.size)
    replace hy := hy.below b13
    have HFL := hide hFl3
    clear hFl3
    have th : Two (w13.alloc (.cells #[.int .i64 E3, .slice Bh r3 ch] 26)) w13.heap.size (.int .i64 E3) (.slice Bh r3 ch) := heap_alloc_new w13 _
    have b14 := (Below.refl w13.heap.size w13).alloc (Nat.le_refl _) (.cells #[.int .i64 E3, .slice Bh r3 ch] 26)
    obtain ⟨q14, hq14⟩ : ∃ q, q = w13.heap.size := ⟨_, rfl⟩
    obtain ⟨w14, hw14⟩ : ∃ W, W = w13.alloc (.cells #[.int .i64 E3, .slice Bh r3 ch] 26) := ⟨_, rfl⟩
    rw [← hw14] at th b14
    rw [← hq14] at th
    replace B := B.trans (b14.mono B.size)
    replace hy := hy.below b14
    replace oh := oh.below b14 (Nat.le_refl _)
    replace ow := ow.below b14 (Nat.le_refl _)
    have thc0 := th.cell0
    have thc1 := th.cell1
    have thE := hide (And.intro hw14 hq14)
    clear hw14 hq14
    go_wp2_with fail
    rw [← thE.out.1, ← thE.out.2]
    refine (maximumFor_any E3 Bh r3 ch L3 Bw kw cw x3 w14 oh.ints ow.ints).mono ?_
    rintro e w15 ⟨Bm, rm, cm, rfl, om, hrm, b15⟩
    clear thc0 thc1
    replace B := B.trans (b15.mono B.size)
    replace hy := hy.below b15
    replace oh := oh.below b15 (Nat.le_refl _)
    replace ow := ow.below b15 (Nat.le_refl _)
    replace th := th.below b15 th.lt
    have thc0 := th.cell0
    have thc1 := th.cell1
    go_wp2_with fail
    refine (specMaximumFor_any E3 Bh r3 ch L3 Bw kw cw x3 w15 oh.ints ow.ints).mono ?_
    rintro e w16 ⟨Bn, rn, cn, rfl, on, hrn, b16⟩
    clear thc0 thc1
    replace B := B.trans (b16.mono B.size)
    replace hy := hy.below b16
    replace oh := oh.below b16 (Nat.le_refl _)
    replace ow := ow.below b16 (Nat.le_refl _)
    replace th := th.below b16 th.lt
    have thc0 := th.cell0
    have thc1 := th.cell1
    replace om := om.below b16 (Nat.le_refl _)
    go_wp2_with fail
    refine (minimumFor_any E3 Bh r3 ch L3 Bw kw cw x3 w16 oh.ints ow.ints).mono ?_
    rintro e w17 ⟨Bp, rp, cp, rfl, op, hrp, b17⟩
    clear thc0 thc1
    replace B := B.trans (b17.mono B.size)
    replace hy := hy.below b17
    replace oh := oh.below b17 (Nat.le_refl _)
    replace ow := ow.below b17 (Nat.le_refl _)
    replace th := th.below b17 th.lt
    have thc0 := th.cell0
    have thc1 := th.cell1
    replace om := om.below b17 (Nat.le_refl _)
    replace on := on.below b17 (Nat.le_refl _)
    go_wp2_with fail
    refine (specMinimumFor_any E3 Bh r3 ch L3 Bw kw cw x3 w17 oh.ints ow.ints).mono ?_
    rintro e w18 ⟨Bq, rq, cq, rfl, oq, hrq, b18⟩
    clear thc0 thc1
    replace B := B.trans (b18.mono B.size)
    replace hy := hy.below b18
    replace oh := oh.below b18 (Nat.le_refl _)
    replace ow := ow.below b18 (Nat.le_refl _)
    replace th := th.below b18 th.lt
    have thc0 := th.cell0
    have thc1 := th.cell1
    replace om := om.below b18 (Nat.le_refl _)
    replace on := on.below b18 (Nat.le_refl _)
    replace op := op.below b18 (Nat.le_refl _)
    go_wp2_with fail
    refine (sameInts_eq Bm Bn rm rn cm cn _ w18 om.ints on.ints).mono ?_
    rintro e w19 ⟨rfl, b19⟩
    clear thc0 thc1
    replace B := B.trans (b19.mono B.size)
    replace hy := hy.below b19
    replace oh := oh.below b19 (Nat.le_refl _)
    replace ow := ow.below b19 (Nat.le_refl _)
    replace th := th.below b19 th.lt
    have thc0 := th.cell0
    have thc1 := th.cell1
    replace om := om.below b19 (Nat.le_refl _)
    replace on := on.below b19 (Nat.le_refl _)
    replace op := op.below b19 (Nat.le_refl _)
    replace oq := oq.below b19 (Nat.le_refl _)
    go_wp2_with fail
    refine (sameInts_eq Bp Bq rp rq cp cq _ w19 op.ints oq.ints).mono ?_
    rintro e w20 ⟨rfl, b20⟩
    clear thc0 thc1
    replace B := B.trans (b20.mono B.size)
    replace hy := hy.below b20
    replace oh := oh.below b20 (Nat.le_refl _)
    replace ow := ow.below b20 (Nat.le_refl _)
    replace th := th.below b20 th.lt
    have thc0 := th.cell0
    have thc1 := th.cell1
    replace om := om.below b20 (Nat.le_refl _)
    replace on := on.below b20 (Nat.le_refl _)
    replace op := op.below b20 (Nat.le_refl _)
    replace oq := oq.below b20 (Nat.le_refl _)
    clear om
    clear op
    clear oq
    go_upto_if 205 with fail
    go_cut [22, 25, 28, 31, 205] from 147 to 292 (fun s22 s25 s28 s31 s205 wx => Below w20.heap.size w20 wx)
    case first =>
      as_aux_lemma =>
        have bm := Below.refl w20.heap.size w20
        cases ho : optB E3 L3 x3
        · go_wp2_with fail
          go_meet
          case rel => exact bm
        · have hof := opt_facts ho
          have HE := hide (fun W (h1 : Ints W Bh r3 L3) (h2 : Ints W Bw kw x3) => extensionAt_any E3 Bh r3 ch L3 Bw kw cw x3 W h1 h2)
          have HP := hide (fun W (h1 : Ints W Bw kw x3) (h2 : Ints W Bn rn (maxL E3 L3 x3)) => pairingOf_any Bw Bn kw cw rn cn x3 (maxL E3 L3 x3) W h1 h2)
          have HBB := hide (fun W (h1 : Ints W Bh r3 L3) (h2 : Ints W Bw kw x3) (h3 : Ints W Bn rn (maxL E3 L3 x3)) => isBestBase_any E3 Bh r3 ch L3 Bw kw cw x3 Bn rn cn (maxL E3 L3 x3) W h1 h2 h3)
          rw [hof.ext] at HE
          rw [hof.pair HFL.out] at HP
          rw [hof.best] at HBB
          have hlow := hof.low
          have HC := hide (fun j (hj : j < (cornersL E3 L3).length) => corner_facts ho hj)
          have HC0 := hide (fun (h : cornersOk E3 L3 = false) => (show (cornersL E3 L3).length = 0 by unfold cornersL; rw [h]; rfl))
          generalize extOk E3 L3 x3 = eo at *
          generalize pairOk x3 (maxL E3 L3 x3) = po at *
          generalize maxP E3 L3 x3 = M at *
          generalize minP' E3 L3 x3 = m at *
          clear hof ho
          go_wp2_with fail
          refine (HE.out w20 oh.ints ow.ints).mono ?_
          rintro e w21 ⟨rfl, b21⟩
          clear thc0 thc1
          replace B := B.trans (b21.mono B.size)
          replace hy := hy.below b21
          replace oh := oh.below b21 (Nat.le_refl _)
          replace ow := ow.below b21 (Nat.le_refl _)
          replace th := th.below b21 th.lt
          have thc0 := th.cell0
          have thc1 := th.cell1
          replace on := on.below b21 (Nat.le_refl _)
          replace bm := bm.trans (b21.mono bm.size)
          go_wp2_with fail
          refine (HP.out w21 ow.ints on.ints).mono ?_
          rintro e w22 ⟨rfl, b22⟩
          clear thc0 thc1
          replace B := B.trans (b22.mono B.size)
          replace hy := hy.below b22
          replace oh := oh.below b22 (Nat.le_refl _)
          replace ow := ow.below b22 (Nat.le_refl _)
          replace th := th.below b22 th.lt
          have thc0 := th.cell0
          have thc1 := th.cell1
          replace on := on.below b22 (Nat.le_refl _)
          replace bm := bm.trans (b22.mono bm.size)
          go_wp2_with fail
          refine (HBB.out w22 oh.ints ow.ints on.ints).mono ?_
          rintro e w23 ⟨rfl, b23⟩
          clear thc0 thc1
          replace B := B.trans (b23.mono B.size)
          replace hy := hy.below b23
          replace oh := oh.below b23 (Nat.le_refl _)
          replace ow := ow.below b23 (Nat.le_refl _)
          replace th := th.below b23 th.lt
          have thc0 := th.cell0
          have thc1 := th.cell1
          replace on := on.below b23 (Nat.le_refl _)
          replace bm := bm.trans (b23.mono bm.size)
          go_wp2_with fail
          refine (specCornersM_any E3 Bh r3 ch L3 w23 oh.ints).mono ?_
          rintro e w24 ⟨Bd, rd, cd, vd, rfl, od, b24⟩
          clear thc0 thc1
          replace B := B.trans (b24.mono B.size)
          replace hy := hy.below b24
          replace oh := oh.below b24 (Nat.le_refl _)
          replace ow := ow.below b24 (Nat.le_refl _)
          replace th := th.below b24 th.lt
          have thc0 := th.cell0
          have thc1 := th.cell1
          replace on := on.below b24 (Nat.le_refl _)
          replace bm := bm.trans (b24.mono bm.size)
          have hdl := hide od.len
          have hdle := od.own.le
          have hwl := hide ow.ints.len
          have hI1 := oh.ints
          have hI2 := ow.ints
          have hrd0 := hide (fun (h : cornersOk E3 L3 = false) => (show rd = 0 by rw [hdl.out]; exact HC0.out h))
          obtain ⟨ck, hck⟩ : ∃ b, b = cornersOk E3 L3 := ⟨_, rfl⟩
          rw [← hck] at hrd0 ⊢
          clear hck hlow HC0
          have hkw' : kw ≤ 6 := hkw
          cases ck
          · obtain rfl : rd = 0 := hrd0.out rfl
            go_wp2
            go_loopw [38, 39, 40] (fun t a c wr => ∃ (x y : Value), t = .int .i64 0 ∧ a = x ∧ c = y ∧ Below w24.heap.size w24 wr) (fun _ _ _ _ => 0)
            case atStart => exact ⟨_, _, rfl, rfl, rfl, Below.refl _ _⟩
            case round =>
              obtain ⟨x, y, rfl, rfl, rfl, hbel⟩ := hrel
              go_wp2_with fail
              go_meet
              case rel => exact bm.trans (hbel.mono bm.size)
          · clear hrd0
            go_wp2
            go_loopw [38, 39, 40] (fun t a c wr => ∃ (j : Nat) (x y : Value), j ≤ rd ∧ t = .int .i64 j ∧ a = x ∧ c = y ∧ Below w24.heap.size w24 wr) (fun t _ _ _ => rd - (intOf t).toNat)
            case atStart => exact ⟨0, _, _, Nat.zero_le _, rfl, rfl, rfl, Below.refl _ _⟩
            case round =>
              obtain ⟨j, x, y, hj, rfl, rfl, rfl, hbel⟩ := hrel
              obtain ⟨wo, rfl⟩ : ∃ W : World, W = wr := ⟨_, rfl⟩
              have hbs := hbel.size
              by_cases hlt : j < rd
              · obtain ⟨f1, f2, f3, f4, f5, f6, f7⟩ := HC.out j (by rw [← hdl.out]; exact hlt)
                have od1 := od.below hbel (Nat.le_refl _)
                obtain ⟨gD, rfl, hg1, hg2⟩ := od1.own.form (by omega)
                obtain ⟨AK, nK, cK, hK1, hK2⟩ := od1.rows.get (k := j) (by rw [← hdl.out]; exact hlt)
                have hK3 := hK2.ints
                have r0 := od1.own.cell hK1
                have hIh := hI1.below hbel (Nat.le_refl _)
                have hIw := hI2.below hbel (Nat.le_refl _)
                have HB3 := hide (fun W (h1 : Ints W Bh r3 L3) (h2 : Ints W Bw kw x3) (h3 : Ints W AK nK ((cornersL E3 L3).getD j [])) => isBestBase_any E3 Bh r3 ch L3 Bw kw cw x3 AK nK cK ((cornersL E3 L3).getD j []) W h1 h2 h3)
                rw [← f3] at HB3
                obtain ⟨z, hz⟩ : ∃ z, z = (cornersL E3 L3).getD j [] := ⟨_, rfl⟩
                rw [← hz] at f1 f2 f4 f7 hK3 HB3
                have hwl2 := hwl.out
                rw [hwl2] at f1 f2 f4 f5 f6 f7 HB3
                have hnK : nK = kw := by have := hK3.len; omega
                have x0 := (hbel.cell (p := ⟨q14, 0, none⟩) th.lt).trans thc0
                have x1 := (hbel.cell (p := ⟨q14, 1, none⟩) th.lt).trans thc1
                have hth := th.lt
                have HX := hide f6
                have HY := hide f7
                have HPB := hide (fun k (hk : k ≤ kw) => prodT_bd (x := x3) (y := z) f6 f7 k hk)
                have HF1 := hide f1
                have HF2 := hide f2
                have i1 : (0 : Int) ≤ (j : Int) := by omega
                have i2 : (j : Int) < (rd : Int) := by omega
                clear hK1 hz f1 f2 f3 f4 f6 f7 hwl2 od1 hK2
                subst hnK
                go_wp2
                go_loopw [39, 40] (fun a t w2 => ∃ k : Nat, k ≤ nK ∧ t = .int .i64 k ∧ a = .int .i64 (prodT x3 z k) ∧ Below wo.heap.size wo w2) (fun _ t _ => nK - (intOf t).toNat)
                case atStart => exact ⟨0, Nat.zero_le _, rfl, rfl, Below.refl _ _⟩
                case round =>
                  obtain ⟨k, hk, rfl, rfl, hbl2⟩ := hrel
                  by_cases hltk : k < nK
                  · obtain ⟨b5, off5, rfl, hb5, hc5⟩ := hIw.at_ hltk
                    obtain ⟨b6, off6, rfl, hb6, hc6⟩ := hK3.at_ hltk
                    have v1 := (hbl2.cell (p := ⟨b5, off5 + k, none⟩) hb5).trans hc5
                    have v2 := (hbl2.cell (p := ⟨b6, off6 + k, none⟩) hb6).trans hc6
                    have v3 := (hbl2.cell (p := ⟨gD, j, none⟩) hg2).trans r0
                    clear hc5 hc6
                    have q1 := HX.out k hltk
                    have q2' := HY.out k hltk
                    have q3 := mul_bd q1.1 q1.2 q2'.1 q2'.2
                    have q4 := HPB.out (k + 1) (by omega)
                    have i3 : (0 : Int) ≤ (k : Int) := by omega
                    have i4 : (k : Int) < (nK : Int) := by omega
                    have hs := hide (show prodT x3 z (k + 1) = prodT x3 z k + gv x3 k * gv z k from rfl)
                    rw [hs.out] at q4
                    have t1 : IntKind.i64.wrap (gv x3 k * gv z k) = gv x3 k * gv z k := IntWalk.i64_in _ (by omega)
                    have t2 : IntKind.i64.wrap (prodT x3 z k + gv x3 k * gv z k) = prodT x3 z (k + 1) := by rw [hs.out]; exact IntWalk.i64_in _ (by omega)
                    clear q3 q4 q1 q2'
                    go_wp2
                    go_quiet (fail)
                    clear t1 t2
                    go_wp2
                    go_roundw
                    case rel => exact ⟨k + 1, by omega, by go_num, rfl, below_drewN hbl2 _⟩
                    case measure => simp [intOf]; omega
                  · obtain rfl : k = nK := by omega
                    have hbs2 := hbl2.size
                    have e1 := (hbl2.cell (p := ⟨q14, 0, none⟩) (by have : q14 < wo.heap.size := by omega
                                                                    exact this)).trans x0
                    have e2 := (hbl2.cell (p := ⟨q14, 1, none⟩) (by have : q14 < wo.heap.size := by omega
                                                                    exact this)).trans x1
                    have e3 := (hbl2.cell (p := ⟨gD, j, none⟩) hg2).trans r0
                    have jh := hIh.below hbl2 (Nat.le_refl _)
                    have jw := hIw.below hbl2 (Nat.le_refl _)
                    have jz := hK3.below hbl2 (Nat.le_refl _)
                    have y0 := wc_cell e1
                    have y1 := wc_cell e2
                    have y2 := wc_cell e3
                    have hF1 := HF1.out
                    have hF2 := HF2.out
                    have HB4 := HB3
                    obtain ⟨u, hu⟩ : ∃ u, u = prodT x3 z k := ⟨_, rfl⟩
                    rw [← hu] at hF1 hF2 HB4 ⊢
                    clear hu
                    have g1 : decide (M < u) = false := decide_eq_false (by omega)
                    have g2 : decide (u < m) = false := decide_eq_false (by omega)
                    have g3 : ¬ M < u := by omega
                    have g4 : ¬ u < m := by omega
                    have i5 : ¬ (k : Int) < (k : Int) := by omega
                    obtain ⟨bq, hbq⟩ : ∃ b, b = (u == M) := ⟨_, rfl⟩
                    rw [← hbq] at HB4
                    have hbq' := hbq.symm
                    clear hbq
                    go_wp2
                    refine region_below (by kernel_rfl) (by kernel_rfl) ?_
                    repeat (go_big_quiet_step ((go_at_call 73; refine wc_call (HB4.out _ (wc_ints jh _) (wc_ints jw _) (wc_ints jz _)))))
                    refine wpQuiet_nil ?_
                    intro _ hw'
                    obtain ⟨p, rfl⟩ := hw'
                    go_wp2
                    go_roundw
                    case rel => exact ⟨j + 1, _, _, by omega, by go_num, rfl, rfl, hbel.trans ((hbl2.trans (p.below.mono hbs2)).mono hbs)⟩
                    case measure => simp [intOf]; omega
              · obtain rfl : j = rd := by omega
                have i5 : ¬ (j : Int) < (j : Int) := by omega
                go_wp2_with fail
                go_meet
                case rel => exact bm.trans (hbel.mono bm.size)
    case rest =>
      obtain ⟨w25, rfl⟩ : ∃ W : World, W = wc := ⟨_, rfl⟩
      have b25 := hcut
      clear thc0 thc1
      replace B := B.trans (b25.mono B.size)
      replace hy := hy.below b25
      replace oh := oh.below b25 (Nat.le_refl _)
      replace ow := ow.below b25 (Nat.le_refl _)
      replace th := th.below b25 th.lt
      have thc0 := th.cell0
      have thc1 := th.cell1
      replace on := on.below b25 (Nat.le_refl _)
      clear oh
      clear ow
      clear on
      clear th thc0 thc1
      go_wp2_with fail
      refine (drawLeastVector_any A0 n0 c0 w25 hy).mono ?_
      rintro e w26 ⟨k5, B5, c5, y5, k6, B6, c6, y6, rfl, hk5, o5, hk6, o6, b26⟩
      replace B := B.trans (b26.mono B.size)
      replace hy := hy.below b26
      go_wp2_with fail
      refine (leastVector_any B5 k5 c5 y5 B6 k6 c6 y6 w26 o5.ints o6.ints).mono ?_
      rintro e w27 ⟨Ba1, ra1, ca1, rfl, oa1, hra1, b27⟩
      replace B := B.trans (b27.mono B.size)
      replace hy := hy.below b27
      replace o5 := o5.below b27 (Nat.le_refl _)
      replace o6 := o6.below b27 (Nat.le_refl _)
      go_wp2_with fail
      refine (specLeastVector_any B5 k5 c5 y5 B6 k6 c6 y6 w27 o5.ints o6.ints).mono ?_
      rintro e w28 ⟨Ba2, ra2, ca2, rfl, oa2, hra2, b28⟩
      replace B := B.trans (b28.mono B.size)
      replace hy := hy.below b28
      replace o5 := o5.below b28 (Nat.le_refl _)
      replace o6 := o6.below b28 (Nat.le_refl _)
      replace oa1 := oa1.below b28 (Nat.le_refl _)
      go_wp2_with fail
      refine (greatestVector_any B5 k5 c5 y5 B6 k6 c6 y6 w28 o5.ints o6.ints).mono ?_
      rintro e w29 ⟨Ba3, ra3, ca3, rfl, oa3, hra3, b29⟩
      replace B := B.trans (b29.mono B.size)
      replace hy := hy.below b29
      replace o5 := o5.below b29 (Nat.le_refl _)
      replace o6 := o6.below b29 (Nat.le_refl _)
      replace oa1 := oa1.below b29 (Nat.le_refl _)
      replace oa2 := oa2.below b29 (Nat.le_refl _)
      go_wp2_with fail
      refine (specGreatestVector_any B5 k5 c5 y5 B6 k6 c6 y6 w29 o5.ints o6.ints).mono ?_
      rintro e w30 ⟨Ba4, ra4, ca4, rfl, oa4, hra4, b30⟩
      replace B := B.trans (b30.mono B.size)
      replace hy := hy.below b30
      replace o5 := o5.below b30 (Nat.le_refl _)
      replace o6 := o6.below b30 (Nat.le_refl _)
      replace oa1 := oa1.below b30 (Nat.le_refl _)
      replace oa2 := oa2.below b30 (Nat.le_refl _)
      replace oa3 := oa3.below b30 (Nat.le_refl _)
      clear o5
      clear o6
      go_wp2_with fail
      refine (drawOrderFor_any A0 n0 c0 w30 hy).mono ?_
      rintro e w31 ⟨k7, B7, c7, y7, rfl, hk7, o7, b31⟩
      replace B := B.trans (b31.mono B.size)
      replace hy := hy.below b31
      replace oa1 := oa1.below b31 (Nat.le_refl _)
      replace oa2 := oa2.below b31 (Nat.le_refl _)
      replace oa3 := oa3.below b31 (Nat.le_refl _)
      replace oa4 := oa4.below b31 (Nat.le_refl _)
      go_wp2_with fail
      refine (implOrderFor_any B7 k7 c7 y7 w31 o7.ints).mono ?_
      rintro e w32 ⟨Ba5, ra5, ca5, rfl, oa5, hra5, b32⟩
      replace B := B.trans (b32.mono B.size)
      replace hy := hy.below b32
      replace oa1 := oa1.below b32 (Nat.le_refl _)
      replace oa2 := oa2.below b32 (Nat.le_refl _)
      replace oa3 := oa3.below b32 (Nat.le_refl _)
      replace oa4 := oa4.below b32 (Nat.le_refl _)
      replace o7 := o7.below b32 (Nat.le_refl _)
      go_wp2_with fail
      refine (specOrderFor_any B7 k7 c7 y7 w32 o7.ints).mono ?_
      rintro e w33 ⟨Ba6, ra6, ca6, rfl, oa6, hra6, b33⟩
      replace B := B.trans (b33.mono B.size)
      replace hy := hy.below b33
      replace oa1 := oa1.below b33 (Nat.le_refl _)
      replace oa2 := oa2.below b33 (Nat.le_refl _)
      replace oa3 := oa3.below b33 (Nat.le_refl _)
      replace oa4 := oa4.below b33 (Nat.le_refl _)
      replace o7 := o7.below b33 (Nat.le_refl _)
      replace oa5 := oa5.below b33 (Nat.le_refl _)
      clear o7
      go_wp2_with fail
      refine (drawPairingOf_any A0 n0 c0 w33 hy).mono ?_
      rintro e w34 ⟨k8, B8, c8, y8, k9, B9, c9, y9, rfl, hk8, o8, hk9, o9, b34⟩
      replace B := B.trans (b34.mono B.size)
      replace hy := hy.below b34
      replace oa1 := oa1.below b34 (Nat.le_refl _)
      replace oa2 := oa2.below b34 (Nat.le_refl _)
      replace oa3 := oa3.below b34 (Nat.le_refl _)
      replace oa4 := oa4.below b34 (Nat.le_refl _)
      replace oa5 := oa5.below b34 (Nat.le_refl _)
      replace oa6 := oa6.below b34 (Nat.le_refl _)
      go_wp2_with fail
      refine (pairingOf_any B8 B9 k8 c8 k9 c9 y8 y9 w34 o8.ints o9.ints).mono ?_
      rintro e w35 ⟨rfl, b35⟩
      replace B := B.trans (b35.mono B.size)
      replace hy := hy.below b35
      replace oa1 := oa1.below b35 (Nat.le_refl _)
      replace oa2 := oa2.below b35 (Nat.le_refl _)
      replace oa3 := oa3.below b35 (Nat.le_refl _)
      replace oa4 := oa4.below b35 (Nat.le_refl _)
      replace oa5 := oa5.below b35 (Nat.le_refl _)
      replace oa6 := oa6.below b35 (Nat.le_refl _)
      replace o8 := o8.below b35 (Nat.le_refl _)
      replace o9 := o9.below b35 (Nat.le_refl _)
      go_wp2_with fail
      refine (specPairingOf_any B8 B9 k8 c8 k9 c9 y8 y9 w35 o8.ints o9.ints).mono ?_
      rintro e w36 ⟨rfl, b36⟩
      replace B := B.trans (b36.mono B.size)
      replace hy := hy.below b36
      replace oa1 := oa1.below b36 (Nat.le_refl _)
      replace oa2 := oa2.below b36 (Nat.le_refl _)
      replace oa3 := oa3.below b36 (Nat.le_refl _)
      replace oa4 := oa4.below b36 (Nat.le_refl _)
      replace oa5 := oa5.below b36 (Nat.le_refl _)
      replace oa6 := oa6.below b36 (Nat.le_refl _)
      replace o8 := o8.below b36 (Nat.le_refl _)
      replace o9 := o9.below b36 (Nat.le_refl _)
      clear o8
      clear o9
      go_wp2_with fail
      refine (drawLevelSets_any A0 n0 c0 w36 hy).mono ?_
      rintro e w37 ⟨k10, B10, c10, y10, rfl, hk10, o10, b37⟩
      replace B := B.trans (b37.mono B.size)
      replace hy := hy.below b37
      replace oa1 := oa1.below b37 (Nat.le_refl _)
      replace oa2 := oa2.below b37 (Nat.le_refl _)
      replace oa3 := oa3.below b37 (Nat.le_refl _)
      replace oa4 := oa4.below b37 (Nat.le_refl _)
      replace oa5 := oa5.below b37 (Nat.le_refl _)
      replace oa6 := oa6.below b37 (Nat.le_refl _)
      go_wp2_with fail
      refine (levelSets_any B10 k10 c10 y10 w37 o10.ints).mono ?_
      rintro e w38 ⟨Ba7, ra7, ca7, rfl, oa7, hra7, b38⟩
      replace B := B.trans (b38.mono B.size)
      replace hy := hy.below b38
      replace oa1 := oa1.below b38 (Nat.le_refl _)
      replace oa2 := oa2.below b38 (Nat.le_refl _)
      replace oa3 := oa3.below b38 (Nat.le_refl _)
      replace oa4 := oa4.below b38 (Nat.le_refl _)
      replace oa5 := oa5.below b38 (Nat.le_refl _)
      replace oa6 := oa6.below b38 (Nat.le_refl _)
      replace o10 := o10.below b38 (Nat.le_refl _)
      go_wp2_with fail
      refine (specLevelSets_any B10 k10 c10 y10 w38 o10.ints).mono ?_
      rintro e w39 ⟨Ba8, ra8, ca8, rfl, oa8, hra8, b39⟩
      replace B := B.trans (b39.mono B.size)
      replace hy := hy.below b39
      replace oa1 := oa1.below b39 (Nat.le_refl _)
      replace oa2 := oa2.below b39 (Nat.le_refl _)
      replace oa3 := oa3.below b39 (Nat.le_refl _)
      replace oa4 := oa4.below b39 (Nat.le_refl _)
      replace oa5 := oa5.below b39 (Nat.le_refl _)
      replace oa6 := oa6.below b39 (Nat.le_refl _)
      replace o10 := o10.below b39 (Nat.le_refl _)
      replace oa7 := oa7.below b39 (Nat.le_refl _)
      clear o10
      go_wp2_with fail
      refine (sameInts_eq Ba1 Ba2 ra1 ra2 ca1 ca2 _ w39 oa1.ints oa2.ints).mono ?_
      rintro e w40 ⟨rfl, b40⟩
      replace B := B.trans (b40.mono B.size)
      replace hy := hy.below b40
      replace oa1 := oa1.below b40 (Nat.le_refl _)
      replace oa2 := oa2.below b40 (Nat.le_refl _)
      replace oa3 := oa3.below b40 (Nat.le_refl _)
      replace oa4 := oa4.below b40 (Nat.le_refl _)
      replace oa5 := oa5.below b40 (Nat.le_refl _)
      replace oa6 := oa6.below b40 (Nat.le_refl _)
      replace oa7 := oa7.below b40 (Nat.le_refl _)
      replace oa8 := oa8.below b40 (Nat.le_refl _)
      go_wp2_with fail
      refine (sameInts_eq Ba3 Ba4 ra3 ra4 ca3 ca4 _ w40 oa3.ints oa4.ints).mono ?_
      rintro e w41 ⟨rfl, b41⟩
      replace B := B.trans (b41.mono B.size)
      replace hy := hy.below b41
      replace oa1 := oa1.below b41 (Nat.le_refl _)
      replace oa2 := oa2.below b41 (Nat.le_refl _)
      replace oa3 := oa3.below b41 (Nat.le_refl _)
      replace oa4 := oa4.below b41 (Nat.le_refl _)
      replace oa5 := oa5.below b41 (Nat.le_refl _)
      replace oa6 := oa6.below b41 (Nat.le_refl _)
      replace oa7 := oa7.below b41 (Nat.le_refl _)
      replace oa8 := oa8.below b41 (Nat.le_refl _)
      go_wp2_with fail
      refine (sameInts_eq Ba5 Ba6 ra5 ra6 ca5 ca6 _ w41 oa5.ints oa6.ints).mono ?_
      rintro e w42 ⟨rfl, b42⟩
      replace B := B.trans (b42.mono B.size)
      replace hy := hy.below b42
      replace oa1 := oa1.below b42 (Nat.le_refl _)
      replace oa2 := oa2.below b42 (Nat.le_refl _)
      replace oa3 := oa3.below b42 (Nat.le_refl _)
      replace oa4 := oa4.below b42 (Nat.le_refl _)
      replace oa5 := oa5.below b42 (Nat.le_refl _)
      replace oa6 := oa6.below b42 (Nat.le_refl _)
      replace oa7 := oa7.below b42 (Nat.le_refl _)
      replace oa8 := oa8.below b42 (Nat.le_refl _)
      go_wp2_with fail
      refine (sameInts_eq Ba7 Ba8 ra7 ra8 ca7 ca8 _ w42 oa7.ints oa8.ints).mono ?_
      rintro e w43 ⟨rfl, b43⟩
      replace B := B.trans (b43.mono B.size)
      replace hy := hy.below b43
      replace oa1 := oa1.below b43 (Nat.le_refl _)
      replace oa2 := oa2.below b43 (Nat.le_refl _)
      replace oa3 := oa3.below b43 (Nat.le_refl _)
      replace oa4 := oa4.below b43 (Nat.le_refl _)
      replace oa5 := oa5.below b43 (Nat.le_refl _)
      replace oa6 := oa6.below b43 (Nat.le_refl _)
      replace oa7 := oa7.below b43 (Nat.le_refl _)
      replace oa8 := oa8.below b43 (Nat.le_refl _)
      go_wp2
      go_ret
      exact ⟨ret_bool (by simp), B⟩

set_option maxRecDepth 100000 in
theorem lifted (os : Os) (started : os.Started) (H : Type) (enc : TypeId × Value → H) :
    ReturnsInHanded {} Try.checked os 5 .any (Rows.fnExtensionsSpec.pre6 enc Try.prog Try.f5 Rows.fnExtensionsRow.domain false) (Rows.fnExtensionsSpec.post enc Try.prog Try.f5 false true false false) := by
  refine returnsInHanded_of_change (C := Try.checked) own_knob started (by kernel_rfl) Try.func5
    (ChangeSpec.witness6 (enc := enc) (C := Try.checked) false ⟨#[], #[.slice none 0 0], []⟩ 8 (by kernel_rfl) (by kernel_rfl) (by kernel_rfl) (by kernel_rfl)) ?_
  intro W base args ds gs before hval0 hW _ _
  have hval : ∀ (j : Nat) t v, Try.f5.params[j]? = some t → args[j]? = some v → Value.okWide Try.prog W .any base t v := hval0
  have hW' := hW
  obtain ⟨p, q, hA0, hV, rfl, _, _⟩ := hW
  have hA : DataW.TrodAll enc Try.prog W 0 (fun _ => true) true Try.f5.params.toList args.toList ds p := hA0
  rw [Try.params5] at hA hval
  obtain ⟨v0, vs0, d0, ds0, p0, q0, hargs, rfl, rfl, k0, r0⟩ := trodAll_cons hA
  obtain ⟨rfl, rfl, rfl⟩ := trodAll_nil r0
  obtain rfl : args = #[v0] := by cases args; simp_all
  obtain ⟨rfl, rfl⟩ := trodVars_none hV
  obtain ⟨A0, n0, c0, rfl, h0⟩ := open_bytes (hval 0 22 v0 rfl rfl) k0
  have lt0 : ∀ x ∈ p0, x.block < W.heap.size := by obtain ⟨m, hm⟩ := k0; exact DataW.trod_lt m _ _ _ hm
  clear hA0 hval0
  refine (walk A0 n0 c0 W h0).mono fun e W' ⟨he, bel⟩ => ?_
  subst he
  exact ⟨_, rfl, _, _, _, [], _, [], hW', trodAll_mk1 (shut_bool Try.underlying4 _), (trodAll_cons_mk (Below.trod laid_out (by kernel_rfl) (of_decide_eq_true (by kernel_rfl)) k0 bel lt0) trodAll_mk0), rfl, bel.frame _, fun h => by cases h⟩

theorem over : Rows.fnExtensionsRow.holds Try.pinned (OpenSpec.ofChange Rows.fnExtensionsSpec) :=
  OpenClaim.holds_of_wide 5 Try.f5 rfl rfl rfl rfl rfl rfl rfl ⟨rfl, rfl, rfl, rfl, rfl⟩ rfl rfl rfl rfl rfl (by kernel_rfl) Try.func5 (by kernel_rfl)
    (of_decide_eq_true (by kernel_rfl)) (by unfold Func.isWrapper; first | (rw [if_pos (by decide +kernel)]; kernel_rfl) | (rw [if_neg (by decide +kernel)]; exact ⟨rfl, rfl⟩))
    (fun os started H enc _ => lifted os started H enc)

theorem proved : Rows.FnExtensionsSaid := over
#print axioms proved
end Go.Proofs.Ytokeejachclpeaa.fnExtensions
