/- The law FnGreedy returns true for every input, and leaves its arguments as they were. No condition. -/
import Derived.Test.YtokeejachclpeaaFrame
import Derived.Test.YtokeejachclpeaaFrameB
import Derived.Test.YtokeejachclpeaaBrGreed
import Derived.Test.YtokeejachclpeaaLawW
import Derived.Test.YtokeejachclpeaaDrawB
import Derived.Test.YtokeejachclpeaaMinM
import Derived.Test.YtokeejachclpeaaCurM
import Derived.Test.YtokeejachclpeaaLocM
import Derived.Deep.RegionHeld3
import Derived.Deep.CutRange
import Derived.BigQuiet
namespace Go.Proofs.Ytokeejachclpeaa.fnGreedy
open Go.ChangeShapes Go.WideShapes Go.ChangeAt Go.RowKit Go.Joins
set_option maxRecDepth 20000 in
set_option maxHeartbeats 16000000 in
theorem walk (A0 : Option Addr) (n0 c0 : Nat) (w : World) (hB : Byts w A0 n0) :
    Calls Try.prog 8 #[.slice A0 n0 c0] w fun e w' => e = .returned (.bool true) ∧ Below w.heap.size w w' := by
  by_cases hbig : 1048576 < n0
  case pos =>
    have e1 : decide (1048576 < n0) = true := by simp [hbig]
    go_enter Try.func8, Try.ntmps8
    go_wp2_with fail
    refine (big_any A0 n0 c0 w hB).mono ?_
    rintro e w' ⟨rfl, rfl⟩
    rw [e1]
    go_wp2
    go_ret
    exact ⟨rfl, Below.refl _ _⟩
  have e1 : decide (1048576 < n0) = false := by simp [hbig]
  go_enter Try.func8, Try.ntmps8
  go_wp2_with fail
  refine (big_any A0 n0 c0 w hB).mono ?_
  rintro e w' ⟨rfl, rfl⟩
  rw [e1]
  clear e1 hbig
  have B := Below.refl w.heap.size w
  have hy := hB
  go_wp2_with fail
  refine (drawGreedyOfSize_any A0 n0 c0 w hy).mono ?_
  rintro e w1 ⟨E, r, Bf, cr, L, k, rfl, hr, of, b1⟩
  replace B := B.trans (b1.mono B.size)
  replace hy := hy.below b1
  have tf : Two (w1.alloc (.cells #[.int .i64 E, .slice Bf r cr] 26)) w1.heap.size (.int .i64 E) (.slice Bf r cr) := heap_alloc_new w1 _
  have b2 := (Below.refl w1.heap.size w1).alloc (Nat.le_refl _) (.cells #[.int .i64 E, .slice Bf r cr] 26)
  obtain ⟨q2, hq2⟩ : ∃ q, q = w1.heap.size := ⟨_, rfl⟩
  obtain ⟨w2, hw2⟩ : ∃ W, W = w1.alloc (.cells #[.int .i64 E, .slice Bf r cr] 26) := ⟨_, rfl⟩
  rw [← hw2] at tf b2
  rw [← hq2] at tf
  replace B := B.trans (b2.mono B.size)
  replace hy := hy.below b2
  replace of := of.below b2 (Nat.le_refl _)
  have tfc0 := tf.cell0
  have tfc1 := tf.cell1
  have tfE := hide (And.intro hw2 hq2)
  clear hw2 hq2
  go_wp2_with fail
  rw [← tfE.out.1, ← tfE.out.2]
  refine (greedyOfSize_any E Bf r cr L k w2 of.ints).mono ?_
  rintro e w3 ⟨Bl, rl, cl, rfl, ol, ml, b3⟩
  clear tfc0 tfc1
  replace B := B.trans (b3.mono B.size)
  replace hy := hy.below b3
  replace of := of.below b3 (Nat.le_refl _)
  replace tf := tf.below b3 tf.lt
  have tfc0 := tf.cell0
  have tfc1 := tf.cell1
  go_wp2_with fail
  refine (specGreedyOfSize_any E Bf r cr L k w3 of.ints).mono ?_
  rintro e w4 ⟨Bm, rm, cm, rfl, om, mm, b4⟩
  clear tfc0 tfc1
  replace B := B.trans (b4.mono B.size)
  replace hy := hy.below b4
  replace of := of.below b4 (Nat.le_refl _)
  replace tf := tf.below b4 tf.lt
  have tfc0 := tf.cell0
  have tfc1 := tf.cell1
  replace ol := ol.below b4 (Nat.le_refl _)
  go_wp2_with fail
  refine (bestOfSize_any E Bf r cr L k w4 of.ints).mono ?_
  rintro e w5 ⟨rfl, b5⟩
  clear tfc0 tfc1
  replace B := B.trans (b5.mono B.size)
  replace hy := hy.below b5
  replace of := of.below b5 (Nat.le_refl _)
  replace tf := tf.below b5 tf.lt
  have tfc0 := tf.cell0
  have tfc1 := tf.cell1
  replace ol := ol.below b5 (Nat.le_refl _)
  replace om := om.below b5 (Nat.le_refl _)
  go_wp2_with fail
  refine (specBestOfSize_any E Bf r cr L k w5 of.ints).mono ?_
  rintro e w6 ⟨rfl, b6⟩
  clear tfc0 tfc1
  replace B := B.trans (b6.mono B.size)
  replace hy := hy.below b6
  replace of := of.below b6 (Nat.le_refl _)
  replace tf := tf.below b6 tf.lt
  have tfc0 := tf.cell0
  have tfc1 := tf.cell1
  replace ol := ol.below b6 (Nat.le_refl _)
  replace om := om.below b6 (Nat.le_refl _)
  go_wp2_with fail
  refine (sameInts_any Bl Bm rl rm cl cm _ _ w6 ol.ints om.ints).mono ?_
  rintro e w7 ⟨rfl, b7⟩
  clear tfc0 tfc1
  replace B := B.trans (b7.mono B.size)
  replace hy := hy.below b7
  replace of := of.below b7 (Nat.le_refl _)
  replace tf := tf.below b7 tf.lt
  have tfc0 := tf.cell0
  have tfc1 := tf.cell1
  replace ol := ol.below b7 (Nat.le_refl _)
  replace om := om.below b7 (Nat.le_refl _)
  clear ol
  clear om
  go_wp2_with fail
  refine (greedyReaches_any E Bf r cr L k w7 of.ints).mono ?_
  rintro e w8 ⟨rfl, b8⟩
  clear tfc0 tfc1
  replace B := B.trans (b8.mono B.size)
  replace hy := hy.below b8
  replace of := of.below b8 (Nat.le_refl _)
  replace tf := tf.below b8 tf.lt
  have tfc0 := tf.cell0
  have tfc1 := tf.cell1
  go_upto_region 11 with fail
  go_cut [7, 10, 13, 16, 17, 140] from 53 to 140 (fun s7 s10 s13 s16 s17 s140 wx => s140 = .bool false ∧ Below w8.heap.size w8 wx)
  case first =>
    have bm := Below.refl w8.heap.size w8
    go_wp2_with fail
    refine (specGreedyReaches_any E Bf r cr L k w8 of.ints).mono ?_
    rintro e w9 ⟨rfl, b9⟩
    clear tfc0 tfc1
    replace B := B.trans (b9.mono B.size)
    replace hy := hy.below b9
    replace of := of.below b9 (Nat.le_refl _)
    replace tf := tf.below b9 tf.lt
    have tfc0 := tf.cell0
    have tfc1 := tf.cell1
    replace bm := bm.trans (b9.mono bm.size)
    cases hb : bestOk E L k
    · go_wp2_with fail
      go_meet
      case rel => exact ⟨rfl, bm⟩
    · have hgb : decide (bestV E L k < grV E L k) = false := not_lt_dec (gr_le_best hb)
      go_wp2_with fail
      refine (specIsPolymatroid_any E Bf r cr L w9 of.ints).mono ?_
      rintro e w10 ⟨rfl, b10⟩
      clear tfc0 tfc1
      replace B := B.trans (b10.mono B.size)
      replace hy := hy.below b10
      replace of := of.below b10 (Nat.le_refl _)
      replace tf := tf.below b10 tf.lt
      have tfc0 := tf.cell0
      have tfc1 := tf.cell1
      replace bm := bm.trans (b10.mono bm.size)
      cases hp : polyB E L
      · go_wp2_with fail
        refine (specIsIncreasing_any E Bf r cr L w10 of.ints).mono ?_
        rintro e w11 ⟨rfl, b11⟩
        clear tfc0 tfc1
        replace B := B.trans (b11.mono B.size)
        replace hy := hy.below b11
        replace of := of.below b11 (Nat.le_refl _)
        replace tf := tf.below b11 tf.lt
        have tfc0 := tf.cell0
        have tfc1 := tf.cell1
        replace bm := bm.trans (b11.mono bm.size)
        cases hi : incB E L
        · go_wp2_with fail
          go_meet
          case rel => exact ⟨rfl, bm⟩
        · go_wp2_with fail
          go_meet
          case rel => exact ⟨rfl, bm⟩
      · have hre := reach_law hb hp
        go_wp2_with fail
        refine (specIsIncreasing_any E Bf r cr L w10 of.ints).mono ?_
        rintro e w12 ⟨rfl, b12⟩
        clear tfc0 tfc1
        replace B := B.trans (b12.mono B.size)
        replace hy := hy.below b12
        replace of := of.below b12 (Nat.le_refl _)
        replace tf := tf.below b12 tf.lt
        have tfc0 := tf.cell0
        have tfc1 := tf.cell1
        replace bm := bm.trans (b12.mono bm.size)
        cases hi : incB E L
        · go_wp2_with fail
          go_meet
          case rel => exact ⟨rfl, bm⟩
        · go_wp2_with fail
          go_meet
          case rel => exact ⟨rfl, bm⟩
  case rest =>
    obtain ⟨w13, rfl⟩ : ∃ W : World, W = wc := ⟨_, rfl⟩
    obtain ⟨rfl, b13⟩ := hcut
    clear tfc0 tfc1
    replace B := B.trans (b13.mono B.size)
    replace hy := hy.below b13
    replace of := of.below b13 (Nat.le_refl _)
    replace tf := tf.below b13 tf.lt
    have tfc0 := tf.cell0
    have tfc1 := tf.cell1
    clear of
    clear tf tfc0 tfc1
    go_wp2_with fail
    refine (drawDoubleGreedy_any A0 n0 c0 w13 hy).mono ?_
    rintro e w14 ⟨E2, r2, Bg, cg, L2, rfl, hr2, og, b14⟩
    replace B := B.trans (b14.mono B.size)
    replace hy := hy.below b14
    have tg : Two (w14.alloc (.cells #[.int .i64 E2, .slice Bg r2 cg] 26)) w14.heap.size (.int .i64 E2) (.slice Bg r2 cg) := heap_alloc_new w14 _
    have b15 := (Below.refl w14.heap.size w14).alloc (Nat.le_refl _) (.cells #[.int .i64 E2, .slice Bg r2 cg] 26)
    obtain ⟨q15, hq15⟩ : ∃ q, q = w14.heap.size := ⟨_, rfl⟩
    obtain ⟨w15, hw15⟩ : ∃ W, W = w14.alloc (.cells #[.int .i64 E2, .slice Bg r2 cg] 26) := ⟨_, rfl⟩
    rw [← hw15] at tg b15
    rw [← hq15] at tg
    replace B := B.trans (b15.mono B.size)
    replace hy := hy.below b15
    replace og := og.below b15 (Nat.le_refl _)
    have tgc0 := tg.cell0
    have tgc1 := tg.cell1
    have tgE := hide (And.intro hw15 hq15)
    clear hw15 hq15
    go_wp2_with fail
    rw [← tgE.out.1, ← tgE.out.2]
    refine (doubleGreedy_any E2 Bg r2 cg L2 w15 og.ints).mono ?_
    rintro e w16 ⟨rfl, b16⟩
    clear tgc0 tgc1
    replace B := B.trans (b16.mono B.size)
    replace hy := hy.below b16
    replace og := og.below b16 (Nat.le_refl _)
    replace tg := tg.below b16 tg.lt
    have tgc0 := tg.cell0
    have tgc1 := tg.cell1
    go_wp2_with fail
    refine (specDoubleGreedy_any E2 Bg r2 cg L2 w16 og.ints).mono ?_
    rintro e w17 ⟨rfl, b17⟩
    clear tgc0 tgc1
    replace B := B.trans (b17.mono B.size)
    replace hy := hy.below b17
    replace og := og.below b17 (Nat.le_refl _)
    replace tg := tg.below b17 tg.lt
    have tgc0 := tg.cell0
    have tgc1 := tg.cell1
    go_wp2_with fail
    refine (maximumOf_any E2 Bg r2 cg L2 w17 og.ints).mono ?_
    rintro e w18 ⟨rfl, b18⟩
    clear tgc0 tgc1
    replace B := B.trans (b18.mono B.size)
    replace hy := hy.below b18
    replace og := og.below b18 (Nat.le_refl _)
    replace tg := tg.below b18 tg.lt
    have tgc0 := tg.cell0
    have tgc1 := tg.cell1
    go_wp2_with fail
    refine (specMaximumOf_any E2 Bg r2 cg L2 w18 og.ints).mono ?_
    rintro e w19 ⟨rfl, b19⟩
    clear tgc0 tgc1
    replace B := B.trans (b19.mono B.size)
    replace hy := hy.below b19
    replace og := og.below b19 (Nat.le_refl _)
    replace tg := tg.below b19 tg.lt
    have tgc0 := tg.cell0
    have tgc1 := tg.cell1
    go_upto_if 188 with fail
    go_cut [20, 22, 25, 28] from 143 to 207 (fun s20 s22 s25 s28 wx => Below w19.heap.size w19 wx)
    case first =>
      have bm := Below.refl w19.heap.size w19
      cases hf : isFn E2 L2
      · go_wp2_with fail
        go_meet
        case rel => exact bm
      · go_wp2_with fail
        refine (specMinimumOf_any E2 Bg r2 cg L2 w19 og.ints).mono ?_
        rintro e w20 ⟨rfl, b20⟩
        clear tgc0 tgc1
        replace B := B.trans (b20.mono B.size)
        replace hy := hy.below b20
        replace og := og.below b20 (Nat.le_refl _)
        replace tg := tg.below b20 tg.lt
        have tgc0 := tg.cell0
        have tgc1 := tg.cell1
        replace bm := bm.trans (b20.mono bm.size)
        go_wp2_with fail
        refine (specIsSubmodular_any E2 Bg r2 cg L2 w20 og.ints).mono ?_
        rintro e w21 ⟨rfl, b21⟩
        clear tgc0 tgc1
        replace B := B.trans (b21.mono B.size)
        replace hy := hy.below b21
        replace og := og.below b21 (Nat.le_refl _)
        replace tg := tg.below b21 tg.lt
        have tgc0 := tg.cell0
        have tgc1 := tg.cell1
        replace bm := bm.trans (b21.mono bm.size)
        cases hs : subB E2 L2
        · go_wp2_with fail
          go_meet
          case rel => exact bm
        · by_cases h0 : 0 ≤ minR E2 L2
          · have hd3 := dg_third hs h0
            have hvb := valR_bd E2 L2 (dgR E2 L2)
            obtain ⟨hvb1, hvb2⟩ := hvb
            go_wp2_with fail
            refine (valueOf_any E2 Bg r2 cg L2 (dgR E2 L2) w21 og.ints).mono ?_
            rintro e w22 ⟨rfl, b22⟩
            clear tgc0 tgc1
            replace B := B.trans (b22.mono B.size)
            replace hy := hy.below b22
            replace og := og.below b22 (Nat.le_refl _)
            replace tg := tg.below b22 tg.lt
            have tgc0 := tg.cell0
            have tgc1 := tg.cell1
            replace bm := bm.trans (b22.mono bm.size)
            go_wp2_with fail
            go_meet
            case rel => exact bm
          · go_wp2_with fail
            go_meet
            case rel => exact bm
    case rest =>
      obtain ⟨w23, rfl⟩ : ∃ W : World, W = wc := ⟨_, rfl⟩
      have b23 := hcut
      clear tgc0 tgc1
      replace B := B.trans (b23.mono B.size)
      replace hy := hy.below b23
      replace og := og.below b23 (Nat.le_refl _)
      replace tg := tg.below b23 tg.lt
      have tgc0 := tg.cell0
      have tgc1 := tg.cell1
      clear og
      clear tg tgc0 tgc1
      go_wp2_with fail
      refine (drawLocalMaximum_any A0 n0 c0 w23 hy).mono ?_
      rintro e w24 ⟨E3, r3, Bh, ch, L3, s, rfl, hr3, oh, b24⟩
      replace B := B.trans (b24.mono B.size)
      replace hy := hy.below b24
      have th : Two (w24.alloc (.cells #[.int .i64 E3, .slice Bh r3 ch] 26)) w24.heap.size (.int .i64 E3) (.slice Bh r3 ch) := heap_alloc_new w24 _
      have b25 := (Below.refl w24.heap.size w24).alloc (Nat.le_refl _) (.cells #[.int .i64 E3, .slice Bh r3 ch] 26)
      obtain ⟨q25, hq25⟩ : ∃ q, q = w24.heap.size := ⟨_, rfl⟩
      obtain ⟨w25, hw25⟩ : ∃ W, W = w24.alloc (.cells #[.int .i64 E3, .slice Bh r3 ch] 26) := ⟨_, rfl⟩
      rw [← hw25] at th b25
      rw [← hq25] at th
      replace B := B.trans (b25.mono B.size)
      replace hy := hy.below b25
      replace oh := oh.below b25 (Nat.le_refl _)
      have thc0 := th.cell0
      have thc1 := th.cell1
      have thE := hide (And.intro hw25 hq25)
      clear hw25 hq25
      go_wp2_with fail
      rw [← thE.out.1, ← thE.out.2]
      refine (localMaximum_any E3 Bh r3 ch L3 s w25 oh.ints).mono ?_
      rintro e w26 ⟨rfl, b26⟩
      clear thc0 thc1
      replace B := B.trans (b26.mono B.size)
      replace hy := hy.below b26
      replace oh := oh.below b26 (Nat.le_refl _)
      replace th := th.below b26 th.lt
      have thc0 := th.cell0
      have thc1 := th.cell1
      go_wp2_with fail
      refine (specLocalMaximum_any E3 Bh r3 ch L3 s w26 oh.ints).mono ?_
      rintro e w27 ⟨rfl, b27⟩
      clear thc0 thc1
      replace B := B.trans (b27.mono B.size)
      replace hy := hy.below b27
      replace oh := oh.below b27 (Nat.le_refl _)
      replace th := th.below b27 th.lt
      have thc0 := th.cell0
      have thc1 := th.cell1
      go_upto_region 27 with fail
      go_cut [34, 36, 250] from 213 to 250 (fun s34 s36 s250 wx => s34 = .bool (lmaxOk E3 L3 s) ∧ s250 = .bool false ∧ Below w27.heap.size w27 wx)
      case first =>
        have bm := Below.refl w27.heap.size w27
        have n1 : (lmaxS E3 L3 s != lmaxS E3 L3 s) = false := by simp
        have n2 : (lmaxOk E3 L3 s != lmaxOk E3 L3 s) = false := by simp
        have u0 := wc_cell thc0
        have u1 := wc_cell thc1
        have hI := oh.ints
        have HV := hide (fun (t : Int) W (hW : Ints W Bh r3 L3) => valueOf_any E3 Bh r3 ch L3 t W hW)
        have HL := hide (fun (t : Int) W (hW : Ints W Bh r3 L3) => isLocalMaximum_any E3 Bh r3 ch L3 t W hW)
        cases hq : lmaxOk E3 L3 s
        · rw [hq] at n2
          go_wp2_with fail
          refine region_below (by kernel_rfl) (by kernel_rfl) ?_
          repeat (go_big_quiet_step (first | (go_at_call 114; refine wc_call (HL.out _ _ (wc_ints hI _))) | (go_at_call 57; refine wc_call (HV.out _ _ (wc_ints hI _)))))
          refine wpQuiet_nil ?_
          intro _ hw'
          obtain ⟨p, rfl⟩ := hw'
          go_wp2_with fail
          go_meet
          case rel => exact ⟨by rw [hq], rfl, p.below⟩
        · have hlf := lmax_facts hq
          have k1 := hlf.loc
          have k2 : decide (valR E3 L3 (lmaxS E3 L3 s) < valR E3 L3 s) = false := not_lt_dec hlf.up
          clear hlf
          go_wp2_with fail
          refine region_below (by kernel_rfl) (by kernel_rfl) ?_
          repeat (go_big_quiet_step (first | (go_at_call 114; refine wc_call (HL.out _ _ (wc_ints hI _))) | (go_at_call 57; refine wc_call (HV.out _ _ (wc_ints hI _)))))
          refine wpQuiet_nil ?_
          intro _ hw'
          obtain ⟨p, rfl⟩ := hw'
          go_wp2_with fail
          go_meet
          case rel => exact ⟨by rw [hq], rfl, p.below⟩
      case rest =>
        obtain ⟨w28, rfl⟩ : ∃ W : World, W = wc := ⟨_, rfl⟩
        obtain ⟨rfl, rfl, b28⟩ := hcut
        clear thc0 thc1
        replace B := B.trans (b28.mono B.size)
        replace hy := hy.below b28
        replace oh := oh.below b28 (Nat.le_refl _)
        replace th := th.below b28 th.lt
        have thc0 := th.cell0
        have thc1 := th.cell1
        go_upto_if 251 with fail
        go_cut [34] from 213 to 287 (fun s34 wx => Below w28.heap.size w28 wx)
        case first =>
          have bm := Below.refl w28.heap.size w28
          cases hq : lmaxOk E3 L3 s
          · go_wp2_with fail
            go_meet
            case rel => exact bm
          · have hlf := lmax_facts hq
            obtain ⟨N, rr, hEN, hN5, hS, hrr⟩ := hlf.lt
            have h32 : p2 N ≤ 32 := Nat.pow_le_pow_right (n := 2) (by omega) hN5
            have hS1 : 0 ≤ lmaxS E3 L3 s := by omega
            have hS2 : lmaxS E3 L3 s < ((p2 N : Nat) : Int) := by unfold p2; omega
            have hthird := hlf.third
            have etn : E3.toNat = N := by omega
            rw [etn] at hthird
            have HT := hide hthird
            have HEN := hide hEN
            have hN40 : N ≤ 40 := by omega
            clear hlf hS hrr hthird etn hEN
            generalize lmaxS E3 L3 s = S at *
            have hxb := valR_bd E3 L3 S
            have hyb := valR_bd E3 L3 (((p2 N : Nat) : Int) - 1 - S)
            have HV := hide (fun W (hW : Ints W Bh r3 L3) => valueOf_any E3 Bh r3 ch L3 (((p2 N : Nat) : Int) - 1 - S) W hW)
            generalize valR E3 L3 (((p2 N : Nat) : Int) - 1 - S) = Y at *
            rw [HEN.out] at HV
            obtain ⟨y1, y2⟩ := hyb
            
            go_wp2_with fail
            refine (specMinimumOf_any E3 Bh r3 ch L3 w28 oh.ints).mono ?_
            rintro e w29 ⟨rfl, b29⟩
            clear thc0 thc1
            replace B := B.trans (b29.mono B.size)
            replace hy := hy.below b29
            replace oh := oh.below b29 (Nat.le_refl _)
            replace th := th.below b29 th.lt
            have thc0 := th.cell0
            have thc1 := th.cell1
            replace bm := bm.trans (b29.mono bm.size)
            go_wp2_with fail
            refine (specMaximumOf_any E3 Bh r3 ch L3 w29 oh.ints).mono ?_
            rintro e w30 ⟨rfl, b30⟩
            clear thc0 thc1
            replace B := B.trans (b30.mono B.size)
            replace hy := hy.below b30
            replace oh := oh.below b30 (Nat.le_refl _)
            replace th := th.below b30 th.lt
            have thc0 := th.cell0
            have thc1 := th.cell1
            replace bm := bm.trans (b30.mono bm.size)
            go_wp2_with fail
            refine (valueOf_any E3 Bh r3 ch L3 S w30 oh.ints).mono ?_
            rintro e w31 ⟨rfl, b31⟩
            clear thc0 thc1
            replace B := B.trans (b31.mono B.size)
            replace hy := hy.below b31
            replace oh := oh.below b31 (Nat.le_refl _)
            replace th := th.below b31 th.lt
            have thc0 := th.cell0
            have thc1 := th.cell1
            replace bm := bm.trans (b31.mono bm.size)
            generalize valR E3 L3 S = X at *
            obtain ⟨x1, x2⟩ := hxb
            have thN := thc0
            rw [HEN.out] at thN
            clear thc0
            have u0 := wc_cell thN
            have u1 := wc_cell thc1
            have hI := oh.ints
            go_wp2_with fail
            refine region_below (by kernel_rfl) (by kernel_rfl) ?_
            repeat (go_big_quiet_step ((go_at_call 57; refine wc_call (HV.out _ (wc_ints hI _)))))
            refine wpQuiet_nil ?_
            intro _ hw'
            obtain ⟨p, rfl⟩ := hw'
            have bq := p.below
            obtain ⟨wq, hwq⟩ : ∃ W, W = p.at_ := ⟨_, rfl⟩
            rw [← hwq] at bq ⊢
            clear hwq u0 u1 thN thc1
            replace B := B.trans (bq.mono B.size)
            replace hy := hy.below bq
            replace oh := oh.below bq (Nat.le_refl _)
            replace th := th.below bq th.lt
            have thc0 := th.cell0
            have thc1 := th.cell1
            replace bm := bm.trans (bq.mono bm.size)
            go_wp2_with fail
            refine (specIsSubmodular_any E3 Bh r3 ch L3 wq oh.ints).mono ?_
            rintro e w32 ⟨rfl, b32⟩
            clear thc0 thc1
            replace B := B.trans (b32.mono B.size)
            replace hy := hy.below b32
            replace oh := oh.below b32 (Nat.le_refl _)
            replace th := th.below b32 th.lt
            have thc0 := th.cell0
            have thc1 := th.cell1
            replace bm := bm.trans (b32.mono bm.size)
            cases hs : subB E3 L3
            · go_wp2_with fail
              go_meet
              case rel => exact bm
            · by_cases h0 : 0 ≤ minR E3 L3
              · have h3 := HT.out hs h0
                skip
                by_cases hxy : X < Y
                · have h4 : maxV E3 L3 ≤ 3 * Y := by omega
                  go_wp2_with fail
                  go_meet
                  case rel => exact bm
                · have h4 : maxV E3 L3 ≤ 3 * X := by omega
                  go_wp2_with fail
                  go_meet
                  case rel => exact bm
              · go_wp2_with fail
                go_meet
                case rel => exact bm
        case rest =>
          obtain ⟨w33, rfl⟩ : ∃ W : World, W = wc := ⟨_, rfl⟩
          have b33 := hcut
          clear thc0 thc1
          replace B := B.trans (b33.mono B.size)
          replace hy := hy.below b33
          replace oh := oh.below b33 (Nat.le_refl _)
          replace th := th.below b33 th.lt
          have thc0 := th.cell0
          have thc1 := th.cell1
          clear oh
          clear th thc0 thc1
          go_wp2_with fail
          refine (drawIsLocalMaximum_any A0 n0 c0 w33 hy).mono ?_
          rintro e w34 ⟨E4, r4, Bi, ci, L4, t, rfl, hr4, oi, b34⟩
          replace B := B.trans (b34.mono B.size)
          replace hy := hy.below b34
          have ti : Two (w34.alloc (.cells #[.int .i64 E4, .slice Bi r4 ci] 26)) w34.heap.size (.int .i64 E4) (.slice Bi r4 ci) := heap_alloc_new w34 _
          have b35 := (Below.refl w34.heap.size w34).alloc (Nat.le_refl _) (.cells #[.int .i64 E4, .slice Bi r4 ci] 26)
          obtain ⟨q35, hq35⟩ : ∃ q, q = w34.heap.size := ⟨_, rfl⟩
          obtain ⟨w35, hw35⟩ : ∃ W, W = w34.alloc (.cells #[.int .i64 E4, .slice Bi r4 ci] 26) := ⟨_, rfl⟩
          rw [← hw35] at ti b35
          rw [← hq35] at ti
          replace B := B.trans (b35.mono B.size)
          replace hy := hy.below b35
          replace oi := oi.below b35 (Nat.le_refl _)
          have tic0 := ti.cell0
          have tic1 := ti.cell1
          have tiE := hide (And.intro hw35 hq35)
          clear hw35 hq35
          go_wp2
          rw [← tiE.out.1, ← tiE.out.2]
          have u0 := wc_cell tic0
          have u1 := wc_cell tic1
          have hI := oi.ints
          have HL := hide (fun W (hW : Ints W Bi r4 L4) => isLocalMaximum_any E4 Bi r4 ci L4 t W hW)
          have HS := hide (fun W (hW : Ints W Bi r4 L4) => specIsLocalMaximum_any E4 Bi r4 ci L4 t W hW)
          refine region_below (by kernel_rfl) (by kernel_rfl) ?_
          repeat (go_big_quiet_step (first | (go_at_call 114; refine wc_call (HL.out _ (wc_ints hI _))) | (go_at_call 116; refine wc_call (HS.out _ (wc_ints hI _)))))
          refine wpQuiet_nil ?_
          intro _ hw'
          obtain ⟨p, rfl⟩ := hw'
          go_wp2
          go_ret
          exact ⟨ret_bool (by simp), B.trans (p.below.mono B.size)⟩

set_option maxRecDepth 100000 in
theorem lifted (os : Os) (started : os.Started) (H : Type) (enc : TypeId × Value → H) :
    ReturnsInHanded {} Try.checked os 8 .any (Rows.fnGreedySpec.pre6 enc Try.prog Try.f8 Rows.fnGreedyRow.domain false) (Rows.fnGreedySpec.post enc Try.prog Try.f8 false true false false) := by
  refine returnsInHanded_of_change (C := Try.checked) own_knob started (by kernel_rfl) Try.func8
    (ChangeSpec.witness6 (enc := enc) (C := Try.checked) false ⟨#[], #[.slice none 0 0], []⟩ 8 (by kernel_rfl) (by kernel_rfl) (by kernel_rfl) (by kernel_rfl)) ?_
  intro W base args ds gs before hval0 hW _ _
  have hval : ∀ (j : Nat) t v, Try.f8.params[j]? = some t → args[j]? = some v → Value.okWide Try.prog W .any base t v := hval0
  have hW' := hW
  obtain ⟨p, q, hA0, hV, rfl, _, _⟩ := hW
  have hA : DataW.TrodAll enc Try.prog W 0 (fun _ => true) true Try.f8.params.toList args.toList ds p := hA0
  rw [Try.params8] at hA hval
  obtain ⟨v0, vs0, d0, ds0, p0, q0, hargs, rfl, rfl, k0, r0⟩ := trodAll_cons hA
  obtain ⟨rfl, rfl, rfl⟩ := trodAll_nil r0
  obtain rfl : args = #[v0] := by cases args; simp_all
  obtain ⟨rfl, rfl⟩ := trodVars_none hV
  obtain ⟨A0, n0, c0, rfl, h0⟩ := open_bytes (hval 0 22 v0 rfl rfl) k0
  have lt0 : ∀ x ∈ p0, x.block < W.heap.size := by obtain ⟨m, hm⟩ := k0; exact DataW.trod_lt m _ _ _ hm
  clear hA0 hval0
  refine (walk A0 n0 c0 W h0).mono fun e W' ⟨he, bel⟩ => ?_
  subst he
  exact ⟨_, rfl, _, _, _, [], _, [], hW', trodAll_mk1 (shut_bool Try.underlying4 _), (trodAll_cons_mk (Below.trod laid_out (by kernel_rfl) (of_decide_eq_true (by kernel_rfl)) k0 bel lt0) trodAll_mk0), rfl, bel.frame _, fun h => by cases h⟩

theorem over : Rows.fnGreedyRow.holds Try.pinned (OpenSpec.ofChange Rows.fnGreedySpec) :=
  OpenClaim.holds_of_wide 8 Try.f8 rfl rfl rfl rfl rfl rfl rfl ⟨rfl, rfl, rfl, rfl, rfl⟩ rfl rfl rfl rfl rfl (by kernel_rfl) Try.func8 (by kernel_rfl)
    (of_decide_eq_true (by kernel_rfl)) (by unfold Func.isWrapper; first | (rw [if_pos (by decide +kernel)]; kernel_rfl) | (rw [if_neg (by decide +kernel)]; exact ⟨rfl, rfl⟩))
    (fun os started H enc _ => lifted os started H enc)

theorem proved : Rows.FnGreedySaid := over
#print axioms proved
end Go.Proofs.Ytokeejachclpeaa.fnGreedy
