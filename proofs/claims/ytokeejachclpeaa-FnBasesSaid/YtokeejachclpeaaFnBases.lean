/- The law FnBases returns true for every input, and leaves its arguments as they were. No condition. -/
import Derived.Test.YtokeejachclpeaaFrame
import Derived.Test.YtokeejachclpeaaFrameB
import Derived.Test.YtokeejachclpeaaBrBase
import Derived.Test.YtokeejachclpeaaLawT
import Derived.Test.YtokeejachclpeaaLawW
import Derived.Test.YtokeejachclpeaaDrawF
import Derived.Test.YtokeejachclpeaaCapM
import Derived.Test.YtokeejachclpeaaWgtM
import Derived.Test.YtokeejachclpeaaBelM
import Derived.Deep.RegionHeld3
import Derived.Deep.CutRange
import Derived.BigQuiet
namespace Go.Proofs.Ytokeejachclpeaa.fnBases
open Go.ChangeShapes Go.WideShapes Go.ChangeAt Go.RowKit Go.Joins
set_option maxRecDepth 20000 in
set_option maxHeartbeats 16000000 in
theorem walk (A0 : Option Addr) (n0 c0 : Nat) (w : World) (hB : Byts w A0 n0) :
    Calls Try.prog 4 #[.slice A0 n0 c0] w fun e w' => e = .returned (.bool true) ∧ Below w.heap.size w w' := by
  by_cases hbig : 1048576 < n0
  case pos =>
    have e1 : decide (1048576 < n0) = true := by simp [hbig]
    go_enter Try.func4, Try.ntmps4
    go_wp2_with fail
    refine (big_any A0 n0 c0 w hB).mono ?_
    rintro e w' ⟨rfl, rfl⟩
    rw [e1]
    go_wp2
    go_ret
    exact ⟨rfl, Below.refl _ _⟩
  have e1 : decide (1048576 < n0) = false := by simp [hbig]
  go_enter Try.func4, Try.ntmps4
  go_wp2_with fail
  refine (big_any A0 n0 c0 w hB).mono ?_
  rintro e w' ⟨rfl, rfl⟩
  rw [e1]
  clear e1 hbig
  have B := Below.refl w.heap.size w
  have hy := hB
  go_wp2_with fail
  refine (drawTightSets_any A0 n0 c0 w hy).mono ?_
  rintro e w1 ⟨E, r, Bf, cr, L, kx, Bx, cx, x, rfl, hr, of, hkx, ox, b1, hFl⟩
  replace B := B.trans (b1.mono B.size)
  replace hy := hy.below b1
  clear hFl
  have tf : Two (w1.alloc (.cells #[.int .i64 E, .slice Bf r cr] 26)) w1.heap.size (.int .i64 E) (.slice Bf r cr) := heap_alloc_new w1 _
  have b2 := (Below.refl w1.heap.size w1).alloc (Nat.le_refl _) (.cells #[.int .i64 E, .slice Bf r cr] 26)
  obtain ⟨q2, hq2⟩ : ∃ q, q = w1.heap.size := ⟨_, rfl⟩
  obtain ⟨w2, hw2⟩ : ∃ W, W = w1.alloc (.cells #[.int .i64 E, .slice Bf r cr] 26) := ⟨_, rfl⟩
  rw [← hw2] at tf b2
  rw [← hq2] at tf
  replace B := B.trans (b2.mono B.size)
  replace hy := hy.below b2
  replace of := of.below b2 (Nat.le_refl _)
  replace ox := ox.below b2 (Nat.le_refl _)
  have tfc0 := tf.cell0
  have tfc1 := tf.cell1
  have tfE := hide (And.intro hw2 hq2)
  clear hw2 hq2
  go_wp2_with fail
  rw [← tfE.out.1, ← tfE.out.2]
  refine (tightSets_any E Bf r cr L Bx kx cx x w2 of.ints ox.ints).mono ?_
  rintro e w3 ⟨Bt, rt, ct, rfl, ot, hrt, b3⟩
  clear tfc0 tfc1
  replace B := B.trans (b3.mono B.size)
  replace hy := hy.below b3
  replace of := of.below b3 (Nat.le_refl _)
  replace ox := ox.below b3 (Nat.le_refl _)
  replace tf := tf.below b3 tf.lt
  have tfc0 := tf.cell0
  have tfc1 := tf.cell1
  go_wp2_with fail
  refine (specTightSets_any E Bf r cr L Bx kx cx x w3 of.ints ox.ints).mono ?_
  rintro e w4 ⟨Bu, ru, cu, rfl, ou, hru, b4⟩
  clear tfc0 tfc1
  replace B := B.trans (b4.mono B.size)
  replace hy := hy.below b4
  replace of := of.below b4 (Nat.le_refl _)
  replace ox := ox.below b4 (Nat.le_refl _)
  replace tf := tf.below b4 tf.lt
  have tfc0 := tf.cell0
  have tfc1 := tf.cell1
  replace ot := ot.below b4 (Nat.le_refl _)
  go_upto_region 6 with fail
  go_cut [6, 8, 119] from 54 to 119 (fun s6 s8 s119 wx => s119 = .bool false ∧ Below w4.heap.size w4 wx)
  case first =>
    have bm := Below.refl w4.heap.size w4
    have u0 := wc_cell tfc0
    have u1 := wc_cell tfc1
    have hI1 := of.ints
    have hI2 := ox.ints
    have hI3 := ot.ints
    have hI4 := ou.ints
    have HS := hide (fun W (h1 : Ints W Bt rt (tightL E L x)) (h2 : Ints W Bu ru (tightL E L x)) => sameInts_eq Bt Bu rt ru ct cu (tightL E L x) W h1 h2)
    have HBe := hide (fun W (h1 : Ints W Bf r L) (h2 : Ints W Bx kx x) => isBelow_any E Bf r cr L Bx kx cx x W h1 h2)
    have HB1 := hide (fun W (h1 : Ints W Bf r L) (h2 : Ints W Bx kx x) => isBase_any E Bf r cr L Bx kx cx x W h1 h2)
    have HB2 := hide (fun W (h1 : Ints W Bf r L) (h2 : Ints W Bx kx x) => specIsBase_any E Bf r cr L Bx kx cx x W h1 h2)
    have HSu := hide (fun W (h1 : Ints W Bf r L) => specIsSubmodular_any E Bf r cr L W h1)
    have HLa := hide (fun W (h2 : Ints W Bu ru (tightL E L x)) => isLattice_any Bu ru cu (tightL E L x) W h2)
    cases hb : belowB E L x
    · rw [hb] at HBe
      generalize baseB E L x = b1 at *
      go_wp2_with fail
      refine region_below (by kernel_rfl) (by kernel_rfl) ?_
      repeat (go_big_quiet_step (first | (go_at_call 15; refine wc_call (HS.out _ (wc_ints hI3 _) (wc_ints hI4 _))) | (go_at_call 37; refine wc_call (HBe.out _ (wc_ints hI1 _) (wc_ints hI2 _))) | (go_at_call 21; refine wc_call (HB1.out _ (wc_ints hI1 _) (wc_ints hI2 _))) | (go_at_call 38; refine wc_call (HB2.out _ (wc_ints hI1 _) (wc_ints hI2 _))) | fail))
      refine wpQuiet_nil ?_
      intro _ hw'
      obtain ⟨p, rfl⟩ := hw'
      go_wp2_with fail
      go_meet
      case rel => exact ⟨rfl, p.below⟩
    · rw [hb] at HBe
      obtain ⟨N, rfl, tfa⟩ := tight_facts hb
      have h32 : p2 N ≤ 32 := Nat.pow_le_pow_right (n := 2) (by omega) tfa.hN
      have hp0 := p2_pos N
      have hN40 : N ≤ 40 := by have := tfa.hN; omega
      have hfull := tfa.full
      have hlatt := tfa.latt
      clear tfa
      have HH := hide (fun W (h2 : Ints W Bu ru (tightL N L x)) => has_any Bu ru cu (tightL N L x) (((p2 N : Nat) : Int) - 1) W h2)
      have hbe : hasI (tightL N L x) (((p2 N : Nat) : Int) - 1) = baseB N L x := by have h := hfull; simp only [bne_eq_false_iff_eq] at h; exact h.symm
      rw [hbe] at HH
      generalize baseB N L x = b1 at *
      clear hfull hbe
      cases hs : subB N L
      · rw [hs] at HSu
        clear hlatt hs
        go_wp2_with fail
        refine region_below (by kernel_rfl) (by kernel_rfl) ?_
        repeat (go_big_quiet_step (first | (go_at_call 15; refine wc_call (HS.out _ (wc_ints hI3 _) (wc_ints hI4 _))) | (go_at_call 37; refine wc_call (HBe.out _ (wc_ints hI1 _) (wc_ints hI2 _))) | (go_at_call 21; refine wc_call (HB1.out _ (wc_ints hI1 _) (wc_ints hI2 _))) | (go_at_call 38; refine wc_call (HB2.out _ (wc_ints hI1 _) (wc_ints hI2 _))) | (go_at_call 32; refine wc_same (HH.out _ (wc_ints hI4 _))) | (go_at_call 16; refine wc_call (HSu.out _ (wc_ints hI1 _))) | (go_at_call 31; refine wc_same (HLa.out _ (wc_ints hI4 _))) | fail))
        refine wpQuiet_nil ?_
        intro _ hw'
        obtain ⟨p, rfl⟩ := hw'
        go_wp2_with fail
        go_meet
        case rel => exact ⟨rfl, p.below⟩
      · rw [hs] at HSu
        have hla := hlatt hs
        rw [hla] at HLa
        clear hla hlatt hs
        go_wp2_with fail
        refine region_below (by kernel_rfl) (by kernel_rfl) ?_
        repeat (go_big_quiet_step (first | (go_at_call 15; refine wc_call (HS.out _ (wc_ints hI3 _) (wc_ints hI4 _))) | (go_at_call 37; refine wc_call (HBe.out _ (wc_ints hI1 _) (wc_ints hI2 _))) | (go_at_call 21; refine wc_call (HB1.out _ (wc_ints hI1 _) (wc_ints hI2 _))) | (go_at_call 38; refine wc_call (HB2.out _ (wc_ints hI1 _) (wc_ints hI2 _))) | (go_at_call 32; refine wc_same (HH.out _ (wc_ints hI4 _))) | (go_at_call 16; refine wc_call (HSu.out _ (wc_ints hI1 _))) | (go_at_call 31; refine wc_same (HLa.out _ (wc_ints hI4 _))) | fail))
        refine wpQuiet_nil ?_
        intro _ hw'
        obtain ⟨p, rfl⟩ := hw'
        go_wp2_with fail
        go_meet
        case rel => exact ⟨rfl, p.below⟩
  case rest =>
    obtain ⟨w5, rfl⟩ : ∃ W : World, W = wc := ⟨_, rfl⟩
    obtain ⟨rfl, b5⟩ := hcut
    clear tfc0 tfc1
    replace B := B.trans (b5.mono B.size)
    replace hy := hy.below b5
    replace of := of.below b5 (Nat.le_refl _)
    replace ox := ox.below b5 (Nat.le_refl _)
    replace tf := tf.below b5 tf.lt
    have tfc0 := tf.cell0
    have tfc1 := tf.cell1
    replace ot := ot.below b5 (Nat.le_refl _)
    replace ou := ou.below b5 (Nat.le_refl _)
    clear ot
    clear ou
    clear ox
    clear of
    clear tf tfc0 tfc1
    go_wp2_with fail
    refine (drawCapacityOf_any A0 n0 c0 w5 hy).mono ?_
    rintro e w6 ⟨E2, r2, Bg, cg, L2, ky, By, cy, y, e2, rfl, hr2, og, hky, oy, b6⟩
    replace B := B.trans (b6.mono B.size)
    replace hy := hy.below b6
    have tg : Two (w6.alloc (.cells #[.int .i64 E2, .slice Bg r2 cg] 26)) w6.heap.size (.int .i64 E2) (.slice Bg r2 cg) := heap_alloc_new w6 _
    have b7 := (Below.refl w6.heap.size w6).alloc (Nat.le_refl _) (.cells #[.int .i64 E2, .slice Bg r2 cg] 26)
    obtain ⟨q7, hq7⟩ : ∃ q, q = w6.heap.size := ⟨_, rfl⟩
    obtain ⟨w7, hw7⟩ : ∃ W, W = w6.alloc (.cells #[.int .i64 E2, .slice Bg r2 cg] 26) := ⟨_, rfl⟩
    rw [← hw7] at tg b7
    rw [← hq7] at tg
    replace B := B.trans (b7.mono B.size)
    replace hy := hy.below b7
    replace og := og.below b7 (Nat.le_refl _)
    replace oy := oy.below b7 (Nat.le_refl _)
    have tgc0 := tg.cell0
    have tgc1 := tg.cell1
    have tgE := hide (And.intro hw7 hq7)
    clear hw7 hq7
    go_wp2_with fail
    rw [← tgE.out.1, ← tgE.out.2]
    refine (capacityOf_any E2 Bg r2 cg L2 By ky cy y e2 w7 og.ints oy.ints).mono ?_
    rintro e w8 ⟨rfl, b8⟩
    clear tgc0 tgc1
    replace B := B.trans (b8.mono B.size)
    replace hy := hy.below b8
    replace og := og.below b8 (Nat.le_refl _)
    replace oy := oy.below b8 (Nat.le_refl _)
    replace tg := tg.below b8 tg.lt
    have tgc0 := tg.cell0
    have tgc1 := tg.cell1
    go_wp2_with fail
    refine (specCapacityOf_any E2 Bg r2 cg L2 By ky cy y e2 w8 og.ints oy.ints).mono ?_
    rintro e w9 ⟨rfl, b9⟩
    clear tgc0 tgc1
    replace B := B.trans (b9.mono B.size)
    replace hy := hy.below b9
    replace og := og.below b9 (Nat.le_refl _)
    replace oy := oy.below b9 (Nat.le_refl _)
    replace tg := tg.below b9 tg.lt
    have tgc0 := tg.cell0
    have tgc1 := tg.cell1
    go_upto_region 13 with fail
    go_cut [13, 15, 152] from 126 to 152 (fun s13 s15 s152 wx => s152 = .bool (capOk E2 L2 y e2 && decide (capV E2 L2 y e2 < 2000)) ∧ Below w9.heap.size w9 wx)
    case first =>
      have bm := Below.refl w9.heap.size w9
      cases hc : capOk E2 L2 y e2
      · go_wp2_with fail
        go_meet
        case rel => exact ⟨by rw [hc]; rfl, bm⟩
      · go_wp2_with fail
        go_meet
        case rel => exact ⟨by rw [hc]; rfl, bm⟩
    case rest =>
      obtain ⟨w10, rfl⟩ : ∃ W : World, W = wc := ⟨_, rfl⟩
      obtain ⟨rfl, b10⟩ := hcut
      clear tgc0 tgc1
      replace B := B.trans (b10.mono B.size)
      replace hy := hy.below b10
      replace og := og.below b10 (Nat.le_refl _)
      replace oy := oy.below b10 (Nat.le_refl _)
      replace tg := tg.below b10 tg.lt
      have tgc0 := tg.cell0
      have tgc1 := tg.cell1
      go_upto_if 152 with fail
      go_cut [152] from 153 to 183 (fun s152 wx => Below w10.heap.size w10 wx)
      case first =>
        have bm := Below.refl w10.heap.size w10
        cases hG : (capOk E2 L2 y e2 && decide (capV E2 L2 y e2 < 2000))
        · go_wp2_with fail
          go_meet
          case rel => exact bm
        · simp only [Bool.and_eq_true, decide_eq_true_eq] at hG
          obtain ⟨hc, h2⟩ := hG
          obtain ⟨j, rfl, cf⟩ := cap_facts hc
          generalize capV E2 L2 y (j : Int) = c at *
          have hlt := cf.lt
          have hpos := cf.pos
          obtain ⟨bd1, bd2⟩ := cf.bd
          have Hup := hide cf.up
          have Hno := hide cf.no
          have hjk : j < ky := by have := oy.len; omega
          have hyl := hide oy.len
          clear cf hc
          have UP := hide (Hup.out h2)
          have NO := hide (Hno.out h2)
          obtain ⟨u, hu⟩ : ∃ u, u = gv y j + c := ⟨_, rfl⟩
          rw [← hu] at UP NO
          have ub1 : -5000 ≤ u := by omega
          have ub2 : u ≤ 7000 := by omega
          have t1 : IntKind.i64.wrap (gv y j + c) = u := by rw [hu]; exact IntWalk.i64_in _ (by omega)
          have t2 : IntKind.i64.wrap (u + 1) = u + 1 := IntWalk.i64_in _ (by omega)
          have i1 : (0 : Int) ≤ (j : Int) := by omega
          have i2 : (j : Int) < (ky : Int) := by omega
          have hc0 : ¬ c < 0 := by omega
          have hky40 : ky ≤ 1000 := by omega
          clear hu Hup Hno
          go_wp2_with
            (refine wpl_apps (by rfl) (.tmp 153) (.tmp 154) (by rfl) w10.heap.size _ 0 0 [] By ky _ y (by rfl) (by rfl) (own_zero w10 (Nat.le_refl _)) (oy.ints.alloc _) (by omega) (by omega) (by simp) ?_
             intro A5 c5 z5 hz5 hgrow5 hat5
             have hz5' := own_cast hz5 (Nat.zero_add _) (List.nil_append _)
             clear hz5
             obtain ⟨g5, rfl, hg51, hg52⟩ := hz5'.form (by omega)
             have bz5 : Below w10.heap.size w10 z5 := ((Below.refl _ _).alloc (Nat.le_refl _) _).grown hgrow5 (by simp) (fun k hk => by simp at hk; omega)
             clear hgrow5 hat5
             have q1 := hz5'.cell hjk
             have q2 := hz5'.frozen j
             have hz6 := hz5'.set_ j u
             have bz6 := bz5.setCell (p := ⟨g5, j, none⟩) hg51 (.int .i64 u)
             have r0 := (bz6.cell (p := ⟨q7, 0, none⟩) tg.lt).trans tgc0
             have r1 := (bz6.cell (p := ⟨q7, 1, none⟩) tg.lt).trans tgc1
             have HB := hide (isBelow_any E2 Bg r2 cg L2 (some ⟨g5, 0, none⟩) ky c5 _ _ (og.ints.below bz6 (Nat.le_refl _)) hz6.ints)
             rw [UP.out] at HB)
          go_wp2_with fail
          refine HB.out.mono ?_
          rintro e z7 ⟨rfl, bz7⟩
          have hz7 := hz6.below bz7 (Nat.le_refl _)
          have bz7' := bz6.trans (bz7.mono bz6.size)
          have q3 := hz7.cell hjk
          rw [gv_set (by rw [hyl.out]; exact hjk), if_pos rfl] at q3
          have q4 := hz7.frozen j
          have hz8 := hz7.set_ j (u + 1)
          rw [List.set_set] at hz8
          have bz8 := bz7'.setCell (p := ⟨g5, j, none⟩) hg51 (.int .i64 (u + 1))
          have s0 := (bz8.cell (p := ⟨q7, 0, none⟩) tg.lt).trans tgc0
          have s1 := (bz8.cell (p := ⟨q7, 1, none⟩) tg.lt).trans tgc1
          have HB2 := hide (isBelow_any E2 Bg r2 cg L2 (some ⟨g5, 0, none⟩) ky c5 _ _ (og.ints.below bz8 (Nat.le_refl _)) hz8.ints)
          rw [NO.out] at HB2
          clear q1 q2 r0 r1 t1
          go_wp2_with fail
          refine HB2.out.mono ?_
          rintro e z9 ⟨rfl, bz9⟩
          have bz9' := bz8.trans (bz9.mono bz8.size)
          go_wp2_with fail
          go_meet
          case rel => exact bz9'
      case rest =>
        obtain ⟨w11, rfl⟩ : ∃ W : World, W = wc := ⟨_, rfl⟩
        have b11 := hcut
        clear tgc0 tgc1
        replace B := B.trans (b11.mono B.size)
        replace hy := hy.below b11
        replace og := og.below b11 (Nat.le_refl _)
        replace oy := oy.below b11 (Nat.le_refl _)
        replace tg := tg.below b11 tg.lt
        have tgc0 := tg.cell0
        have tgc1 := tg.cell1
        clear oy
        clear og
        clear tg tgc0 tgc1
        go_wp2_with fail
        refine (drawExchangeCapacity_any A0 n0 c0 w11 hy).mono ?_
        rintro e w12 ⟨E3, r3, Bh, ch, L3, kz, Bz, cz, z, a3, b3, rfl, hr3, oh, hkz, oz, b12⟩
        replace B := B.trans (b12.mono B.size)
        replace hy := hy.below b12
        have th : Two (w12.alloc (.cells #[.int .i64 E3, .slice Bh r3 ch] 26)) w12.heap.size (.int .i64 E3) (.slice Bh r3 ch) := heap_alloc_new w12 _
        have b13 := (Below.refl w12.heap.size w12).alloc (Nat.le_refl _) (.cells #[.int .i64 E3, .slice Bh r3 ch] 26)
        obtain ⟨q13, hq13⟩ : ∃ q, q = w12.heap.size := ⟨_, rfl⟩
        obtain ⟨w13, hw13⟩ : ∃ W, W = w12.alloc (.cells #[.int .i64 E3, .slice Bh r3 ch] 26) := ⟨_, rfl⟩
        rw [← hw13] at th b13
        rw [← hq13] at th
        replace B := B.trans (b13.mono B.size)
        replace hy := hy.below b13
        replace oh := oh.below b13 (Nat.le_refl _)
        replace oz := oz.below b13 (Nat.le_refl _)
        have thc0 := th.cell0
        have thc1 := th.cell1
        have thE := hide (And.intro hw13 hq13)
        clear hw13 hq13
        go_wp2_with fail
        rw [← thE.out.1, ← thE.out.2]
        refine (exchangeCapacity_any E3 Bh r3 ch L3 Bz kz cz z a3 b3 w13 oh.ints oz.ints).mono ?_
        rintro e w14 ⟨rfl, b14⟩
        clear thc0 thc1
        replace B := B.trans (b14.mono B.size)
        replace hy := hy.below b14
        replace oh := oh.below b14 (Nat.le_refl _)
        replace oz := oz.below b14 (Nat.le_refl _)
        replace th := th.below b14 th.lt
        have thc0 := th.cell0
        have thc1 := th.cell1
        go_wp2_with fail
        refine (specExchangeCapacity_any E3 Bh r3 ch L3 Bz kz cz z a3 b3 w14 oh.ints oz.ints).mono ?_
        rintro e w15 ⟨rfl, b15⟩
        clear thc0 thc1
        replace B := B.trans (b15.mono B.size)
        replace hy := hy.below b15
        replace oh := oh.below b15 (Nat.le_refl _)
        replace oz := oz.below b15 (Nat.le_refl _)
        replace th := th.below b15 th.lt
        have thc0 := th.cell0
        have thc1 := th.cell1
        go_upto_region 26 with fail
        go_cut [22, 24, 224] from 191 to 224 (fun s22 s24 s224 wx => s224 = .bool (excOk E3 L3 z a3 b3 && (baseB E3 L3 z && decide (excV E3 L3 z a3 b3 < 2000))) ∧ Below w15.heap.size w15 wx)
        case first =>
          have bm := Below.refl w15.heap.size w15
          cases hc : excOk E3 L3 z a3 b3
          · go_wp2_with fail
            go_meet
            case rel => exact ⟨by rw [hc]; rfl, bm⟩
          · go_wp2_with fail
            refine (specIsBase_any E3 Bh r3 ch L3 Bz kz cz z w15 oh.ints oz.ints).mono ?_
            rintro e w16 ⟨rfl, b16⟩
            clear thc0 thc1
            replace B := B.trans (b16.mono B.size)
            replace hy := hy.below b16
            replace oh := oh.below b16 (Nat.le_refl _)
            replace oz := oz.below b16 (Nat.le_refl _)
            replace th := th.below b16 th.lt
            have thc0 := th.cell0
            have thc1 := th.cell1
            replace bm := bm.trans (b16.mono bm.size)
            cases hb : baseB E3 L3 z
            · go_wp2_with fail
              go_meet
              case rel => exact ⟨by rw [hc, hb]; rfl, bm⟩
            · go_wp2_with fail
              go_meet
              case rel => exact ⟨by rw [hc, hb]; rfl, bm⟩
        case rest =>
          obtain ⟨w17, rfl⟩ : ∃ W : World, W = wc := ⟨_, rfl⟩
          obtain ⟨rfl, b17⟩ := hcut
          clear thc0 thc1
          replace B := B.trans (b17.mono B.size)
          replace hy := hy.below b17
          replace oh := oh.below b17 (Nat.le_refl _)
          replace oz := oz.below b17 (Nat.le_refl _)
          replace th := th.below b17 th.lt
          have thc0 := th.cell0
          have thc1 := th.cell1
          go_upto_if 224 with fail
          go_cut [224] from 225 to 249 (fun s224 wx => Below w17.heap.size w17 wx)
          case first =>
            have bm := Below.refl w17.heap.size w17
            cases hG : (excOk E3 L3 z a3 b3 && (baseB E3 L3 z && decide (excV E3 L3 z a3 b3 < 2000)))
            · go_wp2_with fail
              go_meet
              case rel => exact bm
            · simp only [Bool.and_eq_true, decide_eq_true_eq] at hG
              obtain ⟨hG1, hG2, hG3⟩ := hG
              obtain ⟨i, j, rfl, rfl, ef⟩ := exc_facts hG1 hG2
              have HB0 := hide (ef.base hG3)
              generalize excV E3 L3 z (i : Int) (j : Int) = d at *
              have hpos := ef.pos
              obtain ⟨bd1, bd2⟩ := ef.bi
              obtain ⟨bd3, bd4⟩ := ef.bj
              have hik : i < kz := by have := oz.len; have := ef.lti; omega
              have hjk : j < kz := by have := oz.len; have := ef.ltj; omega
              have hne := hide ef.ne
              have hzl := hide oz.len
              clear ef hG1 hG2
              obtain ⟨u, hu⟩ : ∃ u, u = gv z i + d := ⟨_, rfl⟩
              obtain ⟨v, hv⟩ : ∃ v, v = gv z j - d := ⟨_, rfl⟩
              have t1 : IntKind.i64.wrap (gv z i + d) = u := by rw [hu]; exact IntWalk.i64_in _ (by omega)
              have t2 : IntKind.i64.wrap (gv z j - d) = v := by rw [hv]; exact IntWalk.i64_in _ (by omega)
              rw [← hu, ← hv] at HB0
              have i1 : (0 : Int) ≤ (i : Int) := by omega
              have i2 : (i : Int) < (kz : Int) := by omega
              have i3 : (0 : Int) ≤ (j : Int) := by omega
              have i4 : (j : Int) < (kz : Int) := by omega
              have hkz40 : kz ≤ 1000 := by omega
              clear hu hv
              go_wp2_with
                (refine wpl_apps (by rfl) (.tmp 225) (.tmp 226) (by rfl) w17.heap.size _ 0 0 [] Bz kz _ z (by rfl) (by rfl) (own_zero w17 (Nat.le_refl _)) (oz.ints.alloc _) (by omega) (by omega) (by simp) ?_
                 intro A5 c5 z5 hz5 hgrow5 hat5
                 have hz5' := own_cast hz5 (Nat.zero_add _) (List.nil_append _)
                 clear hz5
                 obtain ⟨g5, rfl, hg51, hg52⟩ := hz5'.form (by omega)
                 have bz5 : Below w17.heap.size w17 z5 := ((Below.refl _ _).alloc (Nat.le_refl _) _).grown hgrow5 (by simp) (fun k hk => by simp at hk; omega)
                 clear hgrow5 hat5
                 have q1 := hz5'.cell hik
                 have q2 := hz5'.frozen i
                 have hz6 := hz5'.set_ i u
                 have bz6 := bz5.setCell (p := ⟨g5, i, none⟩) hg51 (.int .i64 u)
                 have q3 := hz6.cell hjk
                 rw [gv_set (by rw [hzl.out]; exact hjk), if_neg hne.out] at q3
                 have q4 := hz6.frozen j
                 have hz7 := hz6.set_ j v
                 have bz7 := bz6.setCell (p := ⟨g5, j, none⟩) hg51 (.int .i64 v)
                 have r0 := (bz7.cell (p := ⟨q13, 0, none⟩) th.lt).trans thc0
                 have r1 := (bz7.cell (p := ⟨q13, 1, none⟩) th.lt).trans thc1
                 have HB := hide (isBase_any E3 Bh r3 ch L3 (some ⟨g5, 0, none⟩) kz c5 _ _ (oh.ints.below bz7 (Nat.le_refl _)) hz7.ints)
                 rw [HB0.out] at HB)
              go_wp2_with fail
              refine HB.out.mono ?_
              rintro e z8 ⟨rfl, bz8⟩
              have bz8' := bz7.trans (bz8.mono bz7.size)
              go_wp2_with fail
              go_meet
              case rel => exact bz8'
          case rest =>
            obtain ⟨w18, rfl⟩ : ∃ W : World, W = wc := ⟨_, rfl⟩
            have b18 := hcut
            clear thc0 thc1
            replace B := B.trans (b18.mono B.size)
            replace hy := hy.below b18
            replace oh := oh.below b18 (Nat.le_refl _)
            replace oz := oz.below b18 (Nat.le_refl _)
            replace th := th.below b18 th.lt
            have thc0 := th.cell0
            have thc1 := th.cell1
            clear oz
            clear oh
            clear th thc0 thc1
            go_wp2_with fail
            refine (drawCornerOf_any A0 n0 c0 w18 hy).mono ?_
            rintro e w19 ⟨E4, r4, Bi, ci, L4, ko, Bo, co, o, rfl, hr4, oi, hko, oo, b19, hFl4⟩
            replace B := B.trans (b19.mono B.size)
            replace hy := hy.below b19
            clear hFl4
            have ti : Two (w19.alloc (.cells #[.int .i64 E4, .slice Bi r4 ci] 26)) w19.heap.size (.int .i64 E4) (.slice Bi r4 ci) := heap_alloc_new w19 _
            have b20 := (Below.refl w19.heap.size w19).alloc (Nat.le_refl _) (.cells #[.int .i64 E4, .slice Bi r4 ci] 26)
            obtain ⟨q20, hq20⟩ : ∃ q, q = w19.heap.size := ⟨_, rfl⟩
            obtain ⟨w20, hw20⟩ : ∃ W, W = w19.alloc (.cells #[.int .i64 E4, .slice Bi r4 ci] 26) := ⟨_, rfl⟩
            rw [← hw20] at ti b20
            rw [← hq20] at ti
            replace B := B.trans (b20.mono B.size)
            replace hy := hy.below b20
            replace oi := oi.below b20 (Nat.le_refl _)
            replace oo := oo.below b20 (Nat.le_refl _)
            have tic0 := ti.cell0
            have tic1 := ti.cell1
            have tiE := hide (And.intro hw20 hq20)
            clear hw20 hq20
            go_wp2_with fail
            rw [← tiE.out.1, ← tiE.out.2]
            refine (cornerOf_any E4 Bi r4 ci L4 Bo ko co o w20 oi.ints oo.ints).mono ?_
            rintro e w21 ⟨Bq, rq, cq, rfl, oq, hrq, b21⟩
            clear tic0 tic1
            replace B := B.trans (b21.mono B.size)
            replace hy := hy.below b21
            replace oi := oi.below b21 (Nat.le_refl _)
            replace oo := oo.below b21 (Nat.le_refl _)
            replace ti := ti.below b21 ti.lt
            have tic0 := ti.cell0
            have tic1 := ti.cell1
            go_wp2_with fail
            refine (specCornerOf_any E4 Bi r4 ci L4 Bo ko co o w21 oi.ints oo.ints).mono ?_
            rintro e w22 ⟨Br, rr, cr4, rfl, or, hrr, b22⟩
            clear tic0 tic1
            replace B := B.trans (b22.mono B.size)
            replace hy := hy.below b22
            replace oi := oi.below b22 (Nat.le_refl _)
            replace oo := oo.below b22 (Nat.le_refl _)
            replace ti := ti.below b22 ti.lt
            have tic0 := ti.cell0
            have tic1 := ti.cell1
            replace oq := oq.below b22 (Nat.le_refl _)
            clear oo
            go_wp2_with fail
            refine (drawRaiseVector_any A0 n0 c0 w22 hy).mono ?_
            rintro e w23 ⟨E5, r5, Bj, cj, L5, ks, Bs, cs, s, kt, Bt5, ct5, t5, rfl, hr5, oj, hks, os, hkt, ot, b23⟩
            clear tic0 tic1
            replace B := B.trans (b23.mono B.size)
            replace hy := hy.below b23
            replace oi := oi.below b23 (Nat.le_refl _)
            replace ti := ti.below b23 ti.lt
            have tic0 := ti.cell0
            have tic1 := ti.cell1
            replace oq := oq.below b23 (Nat.le_refl _)
            replace or := or.below b23 (Nat.le_refl _)
            have tj : Two (w23.alloc (.cells #[.int .i64 E5, .slice Bj r5 cj] 26)) w23.heap.size (.int .i64 E5) (.slice Bj r5 cj) := heap_alloc_new w23 _
            have b24 := (Below.refl w23.heap.size w23).alloc (Nat.le_refl _) (.cells #[.int .i64 E5, .slice Bj r5 cj] 26)
            obtain ⟨q24, hq24⟩ : ∃ q, q = w23.heap.size := ⟨_, rfl⟩
            obtain ⟨w24, hw24⟩ : ∃ W, W = w23.alloc (.cells #[.int .i64 E5, .slice Bj r5 cj] 26) := ⟨_, rfl⟩
            rw [← hw24] at tj b24
            rw [← hq24] at tj
            clear tic0 tic1
            replace B := B.trans (b24.mono B.size)
            replace hy := hy.below b24
            replace oi := oi.below b24 (Nat.le_refl _)
            replace ti := ti.below b24 ti.lt
            have tic0 := ti.cell0
            have tic1 := ti.cell1
            replace oq := oq.below b24 (Nat.le_refl _)
            replace or := or.below b24 (Nat.le_refl _)
            replace oj := oj.below b24 (Nat.le_refl _)
            replace os := os.below b24 (Nat.le_refl _)
            replace ot := ot.below b24 (Nat.le_refl _)
            have tjc0 := tj.cell0
            have tjc1 := tj.cell1
            have tjE := hide (And.intro hw24 hq24)
            clear hw24 hq24
            go_wp2_with fail
            rw [← tjE.out.1, ← tjE.out.2]
            refine (raiseVector_any E5 Bj r5 cj L5 Bs ks cs s Bt5 kt ct5 t5 w24 oj.ints os.ints ot.ints).mono ?_
            rintro e w25 ⟨Bw, rw5, cw, rfl, ow, hrw, b25⟩
            clear tic0 tic1 tjc0 tjc1
            replace B := B.trans (b25.mono B.size)
            replace hy := hy.below b25
            replace oi := oi.below b25 (Nat.le_refl _)
            replace ti := ti.below b25 ti.lt
            have tic0 := ti.cell0
            have tic1 := ti.cell1
            replace oq := oq.below b25 (Nat.le_refl _)
            replace or := or.below b25 (Nat.le_refl _)
            replace oj := oj.below b25 (Nat.le_refl _)
            replace os := os.below b25 (Nat.le_refl _)
            replace ot := ot.below b25 (Nat.le_refl _)
            replace tj := tj.below b25 tj.lt
            have tjc0 := tj.cell0
            have tjc1 := tj.cell1
            go_wp2_with fail
            refine (specRaiseVector_any E5 Bj r5 cj L5 Bs ks cs s Bt5 kt ct5 t5 w25 oj.ints os.ints ot.ints).mono ?_
            rintro e w26 ⟨Bv, rv, cv, rfl, ov, hrv, b26⟩
            clear tic0 tic1 tjc0 tjc1
            replace B := B.trans (b26.mono B.size)
            replace hy := hy.below b26
            replace oi := oi.below b26 (Nat.le_refl _)
            replace ti := ti.below b26 ti.lt
            have tic0 := ti.cell0
            have tic1 := ti.cell1
            replace oq := oq.below b26 (Nat.le_refl _)
            replace or := or.below b26 (Nat.le_refl _)
            replace oj := oj.below b26 (Nat.le_refl _)
            replace os := os.below b26 (Nat.le_refl _)
            replace ot := ot.below b26 (Nat.le_refl _)
            replace tj := tj.below b26 tj.lt
            have tjc0 := tj.cell0
            have tjc1 := tj.cell1
            replace ow := ow.below b26 (Nat.le_refl _)
            clear os
            clear ot
            go_wp2_with fail
            refine (drawIsDualVector_any A0 n0 c0 w26 hy).mono ?_
            rintro e w27 ⟨E6, r6, Bk, ck, L6, kb, Bb, cb, bb, rfl, hr6, ok, ob, b27⟩
            clear tic0 tic1 tjc0 tjc1
            replace B := B.trans (b27.mono B.size)
            replace hy := hy.below b27
            replace oi := oi.below b27 (Nat.le_refl _)
            replace ti := ti.below b27 ti.lt
            have tic0 := ti.cell0
            have tic1 := ti.cell1
            replace oq := oq.below b27 (Nat.le_refl _)
            replace or := or.below b27 (Nat.le_refl _)
            replace oj := oj.below b27 (Nat.le_refl _)
            replace tj := tj.below b27 tj.lt
            have tjc0 := tj.cell0
            have tjc1 := tj.cell1
            replace ow := ow.below b27 (Nat.le_refl _)
            replace ov := ov.below b27 (Nat.le_refl _)
            have tk : Two (w27.alloc (.cells #[.int .i64 E6, .slice Bk r6 ck] 26)) w27.heap.size (.int .i64 E6) (.slice Bk r6 ck) := heap_alloc_new w27 _
            have b28 := (Below.refl w27.heap.size w27).alloc (Nat.le_refl _) (.cells #[.int .i64 E6, .slice Bk r6 ck] 26)
            obtain ⟨q28, hq28⟩ : ∃ q, q = w27.heap.size := ⟨_, rfl⟩
            obtain ⟨w28, hw28⟩ : ∃ W, W = w27.alloc (.cells #[.int .i64 E6, .slice Bk r6 ck] 26) := ⟨_, rfl⟩
            rw [← hw28] at tk b28
            rw [← hq28] at tk
            clear tic0 tic1 tjc0 tjc1
            replace B := B.trans (b28.mono B.size)
            replace hy := hy.below b28
            replace oi := oi.below b28 (Nat.le_refl _)
            replace ti := ti.below b28 ti.lt
            have tic0 := ti.cell0
            have tic1 := ti.cell1
            replace oq := oq.below b28 (Nat.le_refl _)
            replace or := or.below b28 (Nat.le_refl _)
            replace oj := oj.below b28 (Nat.le_refl _)
            replace tj := tj.below b28 tj.lt
            have tjc0 := tj.cell0
            have tjc1 := tj.cell1
            replace ow := ow.below b28 (Nat.le_refl _)
            replace ov := ov.below b28 (Nat.le_refl _)
            replace ok := ok.below b28 (Nat.le_refl _)
            replace ob := ob.below b28 (Nat.le_refl _)
            have tkc0 := tk.cell0
            have tkc1 := tk.cell1
            have tkE := hide (And.intro hw28 hq28)
            clear hw28 hq28
            go_wp2_with fail
            rw [← tkE.out.1, ← tkE.out.2]
            refine (drawRankOfVector_any A0 n0 c0 w28 hy).mono ?_
            rintro e w29 ⟨E7, r7, Bl, cl, L7, kd, Bd, cd, dd, rfl, hr7, ol, hkd, od, b29, hFl7⟩
            clear tic0 tic1 tjc0 tjc1 tkc0 tkc1
            replace B := B.trans (b29.mono B.size)
            replace hy := hy.below b29
            replace oi := oi.below b29 (Nat.le_refl _)
            replace ti := ti.below b29 ti.lt
            have tic0 := ti.cell0
            have tic1 := ti.cell1
            replace oq := oq.below b29 (Nat.le_refl _)
            replace or := or.below b29 (Nat.le_refl _)
            replace oj := oj.below b29 (Nat.le_refl _)
            replace tj := tj.below b29 tj.lt
            have tjc0 := tj.cell0
            have tjc1 := tj.cell1
            replace ow := ow.below b29 (Nat.le_refl _)
            replace ov := ov.below b29 (Nat.le_refl _)
            replace ok := ok.below b29 (Nat.le_refl _)
            replace ob := ob.below b29 (Nat.le_refl _)
            replace tk := tk.below b29 tk.lt
            have tkc0 := tk.cell0
            have tkc1 := tk.cell1
            clear hFl7
            have tl : Two (w29.alloc (.cells #[.int .i64 E7, .slice Bl r7 cl] 26)) w29.heap.size (.int .i64 E7) (.slice Bl r7 cl) := heap_alloc_new w29 _
            have b30 := (Below.refl w29.heap.size w29).alloc (Nat.le_refl _) (.cells #[.int .i64 E7, .slice Bl r7 cl] 26)
            obtain ⟨q30, hq30⟩ : ∃ q, q = w29.heap.size := ⟨_, rfl⟩
            obtain ⟨w30, hw30⟩ : ∃ W, W = w29.alloc (.cells #[.int .i64 E7, .slice Bl r7 cl] 26) := ⟨_, rfl⟩
            rw [← hw30] at tl b30
            rw [← hq30] at tl
            clear tic0 tic1 tjc0 tjc1 tkc0 tkc1
            replace B := B.trans (b30.mono B.size)
            replace hy := hy.below b30
            replace oi := oi.below b30 (Nat.le_refl _)
            replace ti := ti.below b30 ti.lt
            have tic0 := ti.cell0
            have tic1 := ti.cell1
            replace oq := oq.below b30 (Nat.le_refl _)
            replace or := or.below b30 (Nat.le_refl _)
            replace oj := oj.below b30 (Nat.le_refl _)
            replace tj := tj.below b30 tj.lt
            have tjc0 := tj.cell0
            have tjc1 := tj.cell1
            replace ow := ow.below b30 (Nat.le_refl _)
            replace ov := ov.below b30 (Nat.le_refl _)
            replace ok := ok.below b30 (Nat.le_refl _)
            replace ob := ob.below b30 (Nat.le_refl _)
            replace tk := tk.below b30 tk.lt
            have tkc0 := tk.cell0
            have tkc1 := tk.cell1
            replace ol := ol.below b30 (Nat.le_refl _)
            replace od := od.below b30 (Nat.le_refl _)
            have tlc0 := tl.cell0
            have tlc1 := tl.cell1
            have tlE := hide (And.intro hw30 hq30)
            clear hw30 hq30
            go_wp2_with fail
            rw [← tlE.out.1, ← tlE.out.2]
            refine (rankOfVector_any E7 Bl r7 cl L7 Bd kd cd dd w30 ol.ints od.ints).mono ?_
            rintro e w31 ⟨rfl, b31⟩
            clear tic0 tic1 tjc0 tjc1 tkc0 tkc1 tlc0 tlc1
            replace B := B.trans (b31.mono B.size)
            replace hy := hy.below b31
            replace oi := oi.below b31 (Nat.le_refl _)
            replace ti := ti.below b31 ti.lt
            have tic0 := ti.cell0
            have tic1 := ti.cell1
            replace oq := oq.below b31 (Nat.le_refl _)
            replace or := or.below b31 (Nat.le_refl _)
            replace oj := oj.below b31 (Nat.le_refl _)
            replace tj := tj.below b31 tj.lt
            have tjc0 := tj.cell0
            have tjc1 := tj.cell1
            replace ow := ow.below b31 (Nat.le_refl _)
            replace ov := ov.below b31 (Nat.le_refl _)
            replace ok := ok.below b31 (Nat.le_refl _)
            replace ob := ob.below b31 (Nat.le_refl _)
            replace tk := tk.below b31 tk.lt
            have tkc0 := tk.cell0
            have tkc1 := tk.cell1
            replace ol := ol.below b31 (Nat.le_refl _)
            replace od := od.below b31 (Nat.le_refl _)
            replace tl := tl.below b31 tl.lt
            have tlc0 := tl.cell0
            have tlc1 := tl.cell1
            go_wp2_with fail
            refine (specRankOfVector_any E7 Bl r7 cl L7 Bd kd cd dd w31 ol.ints od.ints).mono ?_
            rintro e w32 ⟨rfl, b32⟩
            clear tic0 tic1 tjc0 tjc1 tkc0 tkc1 tlc0 tlc1
            replace B := B.trans (b32.mono B.size)
            replace hy := hy.below b32
            replace oi := oi.below b32 (Nat.le_refl _)
            replace ti := ti.below b32 ti.lt
            have tic0 := ti.cell0
            have tic1 := ti.cell1
            replace oq := oq.below b32 (Nat.le_refl _)
            replace or := or.below b32 (Nat.le_refl _)
            replace oj := oj.below b32 (Nat.le_refl _)
            replace tj := tj.below b32 tj.lt
            have tjc0 := tj.cell0
            have tjc1 := tj.cell1
            replace ow := ow.below b32 (Nat.le_refl _)
            replace ov := ov.below b32 (Nat.le_refl _)
            replace ok := ok.below b32 (Nat.le_refl _)
            replace ob := ob.below b32 (Nat.le_refl _)
            replace tk := tk.below b32 tk.lt
            have tkc0 := tk.cell0
            have tkc1 := tk.cell1
            replace ol := ol.below b32 (Nat.le_refl _)
            replace od := od.below b32 (Nat.le_refl _)
            replace tl := tl.below b32 tl.lt
            have tlc0 := tl.cell0
            have tlc1 := tl.cell1
            clear ol
            clear od
            clear tl tlc0 tlc1
            go_wp2_with fail
            refine (drawNegativePart_any A0 n0 c0 w32 hy).mono ?_
            rintro e w33 ⟨kg, Bm, cm, gg, rfl, hkg, om, b33⟩
            clear tic0 tic1 tjc0 tjc1 tkc0 tkc1
            replace B := B.trans (b33.mono B.size)
            replace hy := hy.below b33
            replace oi := oi.below b33 (Nat.le_refl _)
            replace ti := ti.below b33 ti.lt
            have tic0 := ti.cell0
            have tic1 := ti.cell1
            replace oq := oq.below b33 (Nat.le_refl _)
            replace or := or.below b33 (Nat.le_refl _)
            replace oj := oj.below b33 (Nat.le_refl _)
            replace tj := tj.below b33 tj.lt
            have tjc0 := tj.cell0
            have tjc1 := tj.cell1
            replace ow := ow.below b33 (Nat.le_refl _)
            replace ov := ov.below b33 (Nat.le_refl _)
            replace ok := ok.below b33 (Nat.le_refl _)
            replace ob := ob.below b33 (Nat.le_refl _)
            replace tk := tk.below b33 tk.lt
            have tkc0 := tk.cell0
            have tkc1 := tk.cell1
            go_wp2_with fail
            refine (negativePart_any Bm kg cm gg w33 om.ints).mono ?_
            rintro e w' ⟨rfl, rfl⟩
            go_wp2_with fail
            refine (specNegativePart_any Bm kg cm gg w33 om.ints).mono ?_
            rintro e w' ⟨rfl, rfl⟩
            clear om
            have u0 := wc_cell tic0
            have u1 := wc_cell tic1
            have u2 := wc_cell tjc0
            have u3 := wc_cell tjc1
            have u4 := wc_cell tkc0
            have u5 := wc_cell tkc1
            have hI1 := oi.ints
            have hI2 := oq.ints
            have hI3 := or.ints
            have hI4 := oj.ints
            have hI5 := ow.ints
            have hI6 := ov.ints
            have hI7 := ok.ints
            have hI8 := ob.ints
            have HS1 := hide (fun W (h1 : Ints W Bq rq (cornL E4 L4 o)) (h2 : Ints W Br rr (cornL E4 L4 o)) => sameInts_eq Bq Br rq rr cq cr4 (cornL E4 L4 o) W h1 h2)
            have HS2 := hide (fun W (h1 : Ints W Bw rw5 (raiseL E5 L5 s t5)) (h2 : Ints W Bv rv (raiseL E5 L5 s t5)) => sameInts_eq Bw Bv rw5 rv cw cv (raiseL E5 L5 s t5) W h1 h2)
            have HBe := hide (fun W (h1 : Ints W Bj r5 L5) (h2 : Ints W Bv rv (raiseL E5 L5 s t5)) => isBelow_any E5 Bj r5 cj L5 Bv rv cv (raiseL E5 L5 s t5) W h1 h2)
            have HD1 := hide (fun W (h1 : Ints W Bk r6 L6) (h2 : Ints W Bb kb bb) => isDualVector_any E6 Bk r6 ck L6 Bb kb cb bb W h1 h2)
            have HD2 := hide (fun W (h1 : Ints W Bk r6 L6) (h2 : Ints W Bb kb bb) => specIsDualVector_any E6 Bk r6 ck L6 Bb kb cb bb W h1 h2)
            generalize dualB E6 L6 bb = bd at *
            have HRl := hide (fun (h : raiseOk E5 L5 s t5 = true) => raise_law h)
            cases hco : cornOk E4 L4 o
            · clear hco
              cases hro : raiseOk E5 L5 s t5
              · as_aux_lemma =>
                  clear hro HRl
                  go_wp2
                  dsimp only [List.append_eq, List.cons_append, List.nil_append]
                  refine region_below (by kernel_rfl) (by kernel_rfl) ?_
                  iterate 31 (go_big_quiet_step (first | (go_at_call 15; refine wc_call (HS1.out _ (wc_ints hI2 _) (wc_ints hI3 _))) | fail))
                  repeat (go_big_quiet_step (first | (go_at_call 15; refine wc_call (HS2.out _ (wc_ints hI5 _) (wc_ints hI6 _))) | (go_at_call 30; refine wc_call (HD1.out _ (wc_ints hI7 _) (wc_ints hI8 _))) | (go_at_call 58; refine wc_call (HD2.out _ (wc_ints hI7 _) (wc_ints hI8 _))) | fail))
                  refine wpQuiet_nil ?_
                  intro _ hw'
                  obtain ⟨p, rfl⟩ := hw'
                  go_wp2
                  go_ret
                  exact ⟨ret_bool (by simp), B.trans (p.below.mono B.size)⟩
              · as_aux_lemma =>
                  have hrb := HRl.out hro
                  rw [hrb] at HBe
                  clear hrb hro HRl
                  go_wp2
                  dsimp only [List.append_eq, List.cons_append, List.nil_append]
                  refine region_below (by kernel_rfl) (by kernel_rfl) ?_
                  iterate 31 (go_big_quiet_step (first | (go_at_call 15; refine wc_call (HS1.out _ (wc_ints hI2 _) (wc_ints hI3 _))) | fail))
                  repeat (go_big_quiet_step (first | (go_at_call 15; refine wc_call (HS2.out _ (wc_ints hI5 _) (wc_ints hI6 _))) | (go_at_call 37; refine wc_call (HBe.out _ (wc_ints hI4 _) (wc_ints hI6 _))) | (go_at_call 30; refine wc_call (HD1.out _ (wc_ints hI7 _) (wc_ints hI8 _))) | (go_at_call 58; refine wc_call (HD2.out _ (wc_ints hI7 _) (wc_ints hI8 _))) | fail))
                  refine wpQuiet_nil ?_
                  intro _ hw'
                  obtain ⟨p, rfl⟩ := hw'
                  go_wp2
                  go_ret
                  exact ⟨ret_bool (by simp), B.trans (p.below.mono B.size)⟩
            · obtain ⟨N, rfl, hN, hcl, hca, hct⟩ := corn_len hco
              have h32 : p2 N ≤ 32 := Nat.pow_le_pow_right (n := 2) (by omega) hN
              have hp0 := p2_pos N
              have hN40 : N ≤ 40 := by omega
              have hrrN : rr = N := by have := or.len; omega
              have HT := hide (fun W (h1 : Ints W Br rr (cornL N L4 o)) => total_any Br rr cr4 (cornL N L4 o) W h1 (by omega) hca)
              rw [show sumT (cornL N L4 o) rr = valR N L4 (((p2 N : Nat) : Int) - 1) by rw [hrrN]; exact hct] at HT
              have HV := hide (fun W (h1 : Ints W Bi r4 L4) => valueOf_any N Bi r4 ci L4 (((p2 N : Nat) : Int) - 1) W h1)
              generalize valR N L4 (((p2 N : Nat) : Int) - 1) = vv at *
              clear hcl hca hct hrrN hco
              cases hro : raiseOk E5 L5 s t5
              · as_aux_lemma =>
                  clear hro HRl
                  go_wp2
                  dsimp only [List.append_eq, List.cons_append, List.nil_append]
                  refine region_below (by kernel_rfl) (by kernel_rfl) ?_
                  iterate 31 (go_big_quiet_step (first | (go_at_call 15; refine wc_call (HS1.out _ (wc_ints hI2 _) (wc_ints hI3 _))) | (go_at_call 56; refine wc_same (HT.out _ (wc_ints hI3 _))) | (go_at_call 57; refine wc_call (HV.out _ (wc_ints hI1 _))) | fail))
                  repeat (go_big_quiet_step (first | (go_at_call 15; refine wc_call (HS2.out _ (wc_ints hI5 _) (wc_ints hI6 _))) | (go_at_call 30; refine wc_call (HD1.out _ (wc_ints hI7 _) (wc_ints hI8 _))) | (go_at_call 58; refine wc_call (HD2.out _ (wc_ints hI7 _) (wc_ints hI8 _))) | fail))
                  refine wpQuiet_nil ?_
                  intro _ hw'
                  obtain ⟨p, rfl⟩ := hw'
                  go_wp2
                  go_ret
                  exact ⟨ret_bool (by simp), B.trans (p.below.mono B.size)⟩
              · as_aux_lemma =>
                  have hrb := HRl.out hro
                  rw [hrb] at HBe
                  clear hrb hro HRl
                  go_wp2
                  dsimp only [List.append_eq, List.cons_append, List.nil_append]
                  refine region_below (by kernel_rfl) (by kernel_rfl) ?_
                  iterate 31 (go_big_quiet_step (first | (go_at_call 15; refine wc_call (HS1.out _ (wc_ints hI2 _) (wc_ints hI3 _))) | (go_at_call 56; refine wc_same (HT.out _ (wc_ints hI3 _))) | (go_at_call 57; refine wc_call (HV.out _ (wc_ints hI1 _))) | fail))
                  repeat (go_big_quiet_step (first | (go_at_call 15; refine wc_call (HS2.out _ (wc_ints hI5 _) (wc_ints hI6 _))) | (go_at_call 37; refine wc_call (HBe.out _ (wc_ints hI4 _) (wc_ints hI6 _))) | (go_at_call 30; refine wc_call (HD1.out _ (wc_ints hI7 _) (wc_ints hI8 _))) | (go_at_call 58; refine wc_call (HD2.out _ (wc_ints hI7 _) (wc_ints hI8 _))) | fail))
                  refine wpQuiet_nil ?_
                  intro _ hw'
                  obtain ⟨p, rfl⟩ := hw'
                  go_wp2
                  go_ret
                  exact ⟨ret_bool (by simp), B.trans (p.below.mono B.size)⟩

set_option maxRecDepth 100000 in
theorem lifted (os : Os) (started : os.Started) (H : Type) (enc : TypeId × Value → H) :
    ReturnsInHanded {} Try.checked os 4 .any (Rows.fnBasesSpec.pre6 enc Try.prog Try.f4 Rows.fnBasesRow.domain false) (Rows.fnBasesSpec.post enc Try.prog Try.f4 false true false false) := by
  refine returnsInHanded_of_change (C := Try.checked) own_knob started (by kernel_rfl) Try.func4
    (ChangeSpec.witness6 (enc := enc) (C := Try.checked) false ⟨#[], #[.slice none 0 0], []⟩ 8 (by kernel_rfl) (by kernel_rfl) (by kernel_rfl) (by kernel_rfl)) ?_
  intro W base args ds gs before hval0 hW _ _
  have hval : ∀ (j : Nat) t v, Try.f4.params[j]? = some t → args[j]? = some v → Value.okWide Try.prog W .any base t v := hval0
  have hW' := hW
  obtain ⟨p, q, hA0, hV, rfl, _, _⟩ := hW
  have hA : DataW.TrodAll enc Try.prog W 0 (fun _ => true) true Try.f4.params.toList args.toList ds p := hA0
  rw [Try.params4] at hA hval
  obtain ⟨v0, vs0, d0, ds0, p0, q0, hargs, rfl, rfl, k0, r0⟩ := trodAll_cons hA
  obtain ⟨rfl, rfl, rfl⟩ := trodAll_nil r0
  obtain rfl : args = #[v0] := by cases args; simp_all
  obtain ⟨rfl, rfl⟩ := trodVars_none hV
  obtain ⟨A0, n0, c0, rfl, h0⟩ := open_bytes (hval 0 22 v0 rfl rfl) k0
  have lt0 : ∀ x ∈ p0, x.block < W.heap.size := by obtain ⟨m, hm⟩ := k0; exact DataW.trod_lt m _ _ _ hm
  clear hA0 hval0
  refine (walk A0 n0 c0 W h0).mono fun e W' ⟨he, bel⟩ => ?_
  subst he
  exact ⟨_, rfl, _, _, _, [], _, [], hW', trodAll_mk1 (shut_bool Try.underlying4 _), (trodAll_cons_mk (Below.trod laid_out (by kernel_rfl) (of_decide_eq_true (by kernel_rfl)) k0 bel lt0) trodAll_mk0), rfl, bel.frame _, fun h => by cases h⟩

theorem over : Rows.fnBasesRow.holds Try.pinned (OpenSpec.ofChange Rows.fnBasesSpec) :=
  OpenClaim.holds_of_wide 4 Try.f4 rfl rfl rfl rfl rfl rfl rfl ⟨rfl, rfl, rfl, rfl, rfl⟩ rfl rfl rfl rfl rfl (by kernel_rfl) Try.func4 (by kernel_rfl)
    (of_decide_eq_true (by kernel_rfl)) (by unfold Func.isWrapper; first | (rw [if_pos (by decide +kernel)]; kernel_rfl) | (rw [if_neg (by decide +kernel)]; exact ⟨rfl, rfl⟩))
    (fun os started H enc _ => lifted os started H enc)

theorem proved : Rows.FnBasesSaid := over
#print axioms proved
end Go.Proofs.Ytokeejachclpeaa.fnBases
