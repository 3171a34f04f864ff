/- The law FnTop returns true for every input, and leaves its arguments as they were. No condition. -/
import Derived.Test.YtokeejachclpeaaFrame
import Derived.Test.YtokeejachclpeaaFrameB
import Derived.Test.YtokeejachclpeaaBrTop
import Derived.Test.YtokeejachclpeaaViol
import Derived.Test.YtokeejachclpeaaLawS
import Derived.Test.YtokeejachclpeaaLawW
import Derived.Test.YtokeejachclpeaaDrawE
import Derived.Test.YtokeejachclpeaaMinM
import Derived.Test.YtokeejachclpeaaCapM
import Derived.Test.YtokeejachclpeaaExtr
import Derived.Deep.RegionHeld3
import Derived.Deep.CutRange
import Derived.BigQuiet
namespace Go.Proofs.Ytokeejachclpeaa.fnTop
open Go.ChangeShapes Go.WideShapes Go.ChangeAt Go.RowKit Go.Joins
set_option maxRecDepth 20000 in
set_option maxHeartbeats 16000000 in
theorem walk (A0 : Option Addr) (n0 c0 : Nat) (w : World) (hB : Byts w A0 n0) :
    Calls Try.prog 3 #[.slice A0 n0 c0] w fun e w' => e = .returned (.bool true) ∧ Below w.heap.size w w' := by
  by_cases hbig : 1048576 < n0
  case pos =>
    have e1 : decide (1048576 < n0) = true := by simp [hbig]
    go_enter Try.func3, Try.ntmps3
    go_wp2_with fail
    refine (big_any A0 n0 c0 w hB).mono ?_
    rintro e w' ⟨rfl, rfl⟩
    rw [e1]
    go_wp2
    go_ret
    exact ⟨rfl, Below.refl _ _⟩
  have e1 : decide (1048576 < n0) = false := by simp [hbig]
  go_enter Try.func3, Try.ntmps3
  go_wp2_with fail
  refine (big_any A0 n0 c0 w hB).mono ?_
  rintro e w' ⟨rfl, rfl⟩
  rw [e1]
  clear e1 hbig
  have B := Below.refl w.heap.size w
  have hy := hB
  go_wp2_with fail
  refine (drawCornersOf_any A0 n0 c0 w hy).mono ?_
  rintro e w1 ⟨E, r, Bf, cr, L, rfl, hr, of, b1⟩
  replace B := B.trans (b1.mono B.size)
  replace hy := hy.below b1
  have tf : Two (w1.alloc (.cells #[.int .i64 E, .slice Bf r cr] 26)) w1.heap.size (.int .i64 E) (.slice Bf r cr) := heap_alloc_new w1 _
  have b2 := (Below.refl w1.heap.size w1).alloc (Nat.le_refl _) (.cells #[.int .i64 E, .slice Bf r cr] 26)
  obtain ⟨q2, hq2⟩ : ∃ q, q = w1.heap.size := ⟨_, rfl⟩
  obtain ⟨w2, hw2⟩ : ∃ W, W = w1.alloc (.cells #[.int .i64 E, .slice Bf r cr] 26) := ⟨_, rfl⟩
  rw [← hw2] at tf b2
  rw [← hq2] at tf
  replace B := B.trans (b2.mono B.size)
  replace hy := hy.below b2
  replace of := of.below b2 (Nat.le_refl _)
  have tfc0 := tf.cell0
  have tfc1 := tf.cell1
  have tfE := hide (And.intro hw2 hq2)
  clear hw2 hq2
  go_wp2_with fail
  rw [← tfE.out.1, ← tfE.out.2]
  refine (violation3_any E Bf r cr L w2 of.ints).mono ?_
  rintro e w3 ⟨Bl, rl, cl, rfl, ol, b3⟩
  clear tfc0 tfc1
  replace B := B.trans (b3.mono B.size)
  replace hy := hy.below b3
  replace of := of.below b3 (Nat.le_refl _)
  replace tf := tf.below b3 tf.lt
  have tfc0 := tf.cell0
  have tfc1 := tf.cell1
  go_wp2_with fail
  refine (specViolation3_any E Bf r cr L w3 of.ints).mono ?_
  rintro e w4 ⟨Bm, rm, cm, rfl, om, b4⟩
  clear tfc0 tfc1
  replace B := B.trans (b4.mono B.size)
  replace hy := hy.below b4
  replace of := of.below b4 (Nat.le_refl _)
  replace tf := tf.below b4 tf.lt
  have tfc0 := tf.cell0
  have tfc1 := tf.cell1
  replace ol := ol.below b4 (Nat.le_refl _)
  go_wp2_with fail
  refine (isSubmodular_any E Bf r cr L w4 of.ints).mono ?_
  rintro e w5 ⟨rfl, b5⟩
  clear tfc0 tfc1
  replace B := B.trans (b5.mono B.size)
  replace hy := hy.below b5
  replace of := of.below b5 (Nat.le_refl _)
  replace tf := tf.below b5 tf.lt
  have tfc0 := tf.cell0
  have tfc1 := tf.cell1
  replace ol := ol.below b5 (Nat.le_refl _)
  replace om := om.below b5 (Nat.le_refl _)
  go_upto_region 7 with fail
  go_cut [72] from 49 to 72 (fun s72 wx => s72 = .bool false ∧ Below w5.heap.size w5 wx)
  case first =>
    have bm := Below.refl w5.heap.size w5
    go_wp2_with fail
    refine (sameInts_any Bl Bm rl rm cl cm _ _ w5 ol om).mono ?_
    rintro e w6 ⟨rfl, b6⟩
    clear tfc0 tfc1
    replace B := B.trans (b6.mono B.size)
    replace hy := hy.below b6
    replace of := of.below b6 (Nat.le_refl _)
    replace tf := tf.below b6 tf.lt
    have tfc0 := tf.cell0
    have tfc1 := tf.cell1
    replace ol := ol.below b6 (Nat.le_refl _)
    replace om := om.below b6 (Nat.le_refl _)
    replace bm := bm.trans (b6.mono bm.size)
    go_wp2_with fail
    refine (specIsSubmodular_any E Bf r cr L w6 of.ints).mono ?_
    rintro e w7 ⟨rfl, b7⟩
    clear tfc0 tfc1
    replace B := B.trans (b7.mono B.size)
    replace hy := hy.below b7
    replace of := of.below b7 (Nat.le_refl _)
    replace tf := tf.below b7 tf.lt
    have tfc0 := tf.cell0
    have tfc1 := tf.cell1
    replace ol := ol.below b7 (Nat.le_refl _)
    replace om := om.below b7 (Nat.le_refl _)
    replace bm := bm.trans (b7.mono bm.size)
    go_wp2_with fail
    refine (specIsFunction_any E Bf r cr L w7 of.ints).mono ?_
    rintro e w8 ⟨rfl, b8⟩
    clear tfc0 tfc1
    replace B := B.trans (b8.mono B.size)
    replace hy := hy.below b8
    replace of := of.below b8 (Nat.le_refl _)
    replace tf := tf.below b8 tf.lt
    have tfc0 := tf.cell0
    have tfc1 := tf.cell1
    replace ol := ol.below b8 (Nat.le_refl _)
    replace om := om.below b8 (Nat.le_refl _)
    replace bm := bm.trans (b8.mono bm.size)
    cases hf : isFn E L
    · go_wp2_with fail
      go_meet
      case rel => exact ⟨rfl, bm⟩
    · have hvn := viol_not hf
      go_wp2_with fail
      go_meet
      case rel => exact ⟨rfl, bm⟩
  case rest =>
    obtain ⟨w9, rfl⟩ : ∃ W : World, W = wc := ⟨_, rfl⟩
    obtain ⟨rfl, b9⟩ := hcut
    clear tfc0 tfc1
    replace B := B.trans (b9.mono B.size)
    replace hy := hy.below b9
    replace of := of.below b9 (Nat.le_refl _)
    replace tf := tf.below b9 tf.lt
    have tfc0 := tf.cell0
    have tfc1 := tf.cell1
    replace ol := ol.below b9 (Nat.le_refl _)
    replace om := om.below b9 (Nat.le_refl _)
    clear ol
    clear om
    go_wp2_with fail
    refine (cornersM_any E Bf r cr L w9 of.ints).mono ?_
    rintro e w10 ⟨Bc, rc, cc, vc, rfl, oc, b10⟩
    clear tfc0 tfc1
    replace B := B.trans (b10.mono B.size)
    replace hy := hy.below b10
    replace of := of.below b10 (Nat.le_refl _)
    replace tf := tf.below b10 tf.lt
    have tfc0 := tf.cell0
    have tfc1 := tf.cell1
    go_wp2_with fail
    refine (specCornersM_any E Bf r cr L w10 of.ints).mono ?_
    rintro e w11 ⟨Bd, rd, cd, vd, rfl, od, b11⟩
    clear tfc0 tfc1
    replace B := B.trans (b11.mono B.size)
    replace hy := hy.below b11
    replace of := of.below b11 (Nat.le_refl _)
    replace tf := tf.below b11 tf.lt
    have tfc0 := tf.cell0
    have tfc1 := tf.cell1
    replace oc := oc.below b11 (Nat.le_refl _)
    go_wp2_with fail
    refine (sameLists_any Bc Bd rc rd cc cd _ _ vc vd _ _ w11 oc od).mono ?_
    rintro e w12 ⟨rfl, b12⟩
    clear tfc0 tfc1
    replace B := B.trans (b12.mono B.size)
    replace hy := hy.below b12
    replace of := of.below b12 (Nat.le_refl _)
    replace tf := tf.below b12 tf.lt
    have tfc0 := tf.cell0
    have tfc1 := tf.cell1
    replace oc := oc.below b12 (Nat.le_refl _)
    replace od := od.below b12 (Nat.le_refl _)
    clear oc
    go_upto_if 92 with fail
    go_cut [10, 12, 13, 14] from 73 to 110 (fun s10 s12 s13 s14 wx => Below w12.heap.size w12 wx)
    case first =>
      have bm := Below.refl w12.heap.size w12
      cases hk : cornersOk E L
      · go_wp2_with fail
        go_meet
        case rel => exact bm
      · have HLaw := hide (corners_law hk)
        have hdl := hide od.len
        have hdle := od.own.le
        have u0 := tfc0
        have u1 := tfc1
        have hI := of.ints
        clear hk
        go_wp2
        go_loopw [13, 14] (fun a t wr => ∃ k : Nat, k ≤ rd ∧ t = .int .i64 k ∧ a = .bool (((cornersL E L).take k).all (fun x => baseB E L x)) ∧ Below w12.heap.size w12 wr) (fun _ t _ => rd - (intOf t).toNat)
        case atStart => exact ⟨0, Nat.zero_le _, rfl, rfl, Below.refl _ _⟩
        case round =>
          obtain ⟨k, hkr, rfl, rfl, hbel⟩ := hrel
          have hbs := hbel.size
          by_cases hlt : k < rd
          · have od1 := od.below hbel (Nat.le_refl _)
            obtain ⟨gD, rfl, hg1, hg2⟩ := od1.own.form (by omega)
            obtain ⟨AK, nK, cK, hK1, hK2⟩ := od1.rows.get (k := k) (by rw [← hdl.out]; exact hlt)
            have hK3 := hK2.ints
            have r0 := od1.own.cell hK1
            have x0 := (hbel.cell (p := ⟨q2, 0, none⟩) tf.lt).trans u0
            have x1 := (hbel.cell (p := ⟨q2, 1, none⟩) tf.lt).trans u1
            have hI1 := hI.below hbel (Nat.le_refl _)
            have hst := hide (all_snoc (p := fun x => baseB E L x) (l := cornersL E L) (k := k) (by rw [← hdl.out]; exact hlt))
            have HB := hide (fun W (hv : Ints W Bf r L) (hx : Ints W AK nK ((cornersL E L).getD k [])) => isBase_any E Bf r cr L AK nK cK ((cornersL E L).getD k []) W hv hx)
            obtain ⟨v1, hv1⟩ : ∃ v1, v1 = ((cornersL E L).take k).all (fun x => baseB E L x) := ⟨_, rfl⟩
            obtain ⟨v2, hv2⟩ : ∃ v2, v2 = baseB E L ((cornersL E L).getD k []) := ⟨_, rfl⟩
            rw [← hv1, ← hv2] at hst
            rw [← hv2] at HB
            rw [← hv1]
            clear hv1 hv2 hK1 hK2 od1
            have i1 : (0 : Int) ≤ (k : Int) := by omega
            have i2 : (k : Int) < (rd : Int) := by omega
            have y0 := wc_cell x0
            have y1 := wc_cell x1
            have y2 := wc_cell r0
            go_wp2
            cases v1
            · refine region_below (by kernel_rfl) (by kernel_rfl) ?_
              repeat (go_big_quiet_step (fail))
              refine wpQuiet_nil ?_
              intro _ hw'
              obtain ⟨p, rfl⟩ := hw'
              go_wp2
              go_roundw
              case rel => exact ⟨k + 1, by omega, by go_num, by rw [hst.out]; rfl, hbel.trans (p.below.mono hbs)⟩
              case measure => simp [intOf]; omega
            · refine region_below (by kernel_rfl) (by kernel_rfl) ?_
              repeat (go_big_quiet_step ((go_at_call 21; refine wc_call (HB.out _ (wc_ints hI1 _) (wc_ints hK3 _)))))
              refine wpQuiet_nil ?_
              intro _ hw'
              obtain ⟨p, rfl⟩ := hw'
              go_wp2
              go_roundw
              case rel => exact ⟨k + 1, by omega, by go_num, by rw [hst.out]; rfl, hbel.trans (p.below.mono hbs)⟩
              case measure => simp [intOf]; omega
          · obtain rfl : k = rd := by omega
            rw [show ((cornersL E L).take k).all (fun x => baseB E L x) = subB E L by
              rw [List.take_of_length_le (by rw [← hdl.out]; exact Nat.le_refl _), HLaw.out]]
            go_wp2_with fail
            go_meet
            case rel => exact hbel
    case rest =>
      obtain ⟨w13, rfl⟩ : ∃ W : World, W = wc := ⟨_, rfl⟩
      have b13 := hcut
      clear tfc0 tfc1
      replace B := B.trans (b13.mono B.size)
      replace hy := hy.below b13
      replace of := of.below b13 (Nat.le_refl _)
      replace tf := tf.below b13 tf.lt
      have tfc0 := tf.cell0
      have tfc1 := tf.cell1
      replace od := od.below b13 (Nat.le_refl _)
      go_wp2_with fail
      refine (dualVector_any E Bf r cr L w13 of.ints).mono ?_
      rintro e w14 ⟨Bx, rx, cx, rfl, ox, hrx, b14⟩
      clear tfc0 tfc1
      replace B := B.trans (b14.mono B.size)
      replace hy := hy.below b14
      replace of := of.below b14 (Nat.le_refl _)
      replace tf := tf.below b14 tf.lt
      have tfc0 := tf.cell0
      have tfc1 := tf.cell1
      replace od := od.below b14 (Nat.le_refl _)
      go_wp2_with fail
      refine (specDualVector_any E Bf r cr L w14 of.ints).mono ?_
      rintro e w15 ⟨By, ry, cy, rfl, oy, hry, b15⟩
      clear tfc0 tfc1
      replace B := B.trans (b15.mono B.size)
      replace hy := hy.below b15
      replace of := of.below b15 (Nat.le_refl _)
      replace tf := tf.below b15 tf.lt
      have tfc0 := tf.cell0
      have tfc1 := tf.cell1
      replace od := od.below b15 (Nat.le_refl _)
      replace ox := ox.below b15 (Nat.le_refl _)
      go_upto_region 23 with fail
      go_cut [8, 16, 18, 48, 138] from 111 to 138 (fun s8 s16 s18 s48 s138 wx => s138 = .bool false ∧ s16 = .bool (dvOk E L) ∧ Below w15.heap.size w15 wx)
      case first =>
        have bm := Below.refl w15.heap.size w15
        go_wp2_with fail
        refine (sameInts_any Bx By rx ry cx cy _ _ w15 ox.ints oy.ints).mono ?_
        rintro e w16 ⟨rfl, b16⟩
        clear tfc0 tfc1
        replace B := B.trans (b16.mono B.size)
        replace hy := hy.below b16
        replace of := of.below b16 (Nat.le_refl _)
        replace tf := tf.below b16 tf.lt
        have tfc0 := tf.cell0
        have tfc1 := tf.cell1
        replace od := od.below b16 (Nat.le_refl _)
        replace ox := ox.below b16 (Nat.le_refl _)
        replace oy := oy.below b16 (Nat.le_refl _)
        replace bm := bm.trans (b16.mono bm.size)
        have HD := hide (dv_ok E L)
        cases hs : subB E L
        · have hd0 : dvOk E L = false := by rw [HD.out, hs]; rfl
          go_wp2_with fail
          go_meet
          case rel => exact ⟨rfl, by rw [hd0], bm⟩
        · have hd0 : dvOk E L = grdB E L := by rw [HD.out, hs]; rfl
          have HD0 := hide hd0
          clear hd0
          go_wp2_with fail
          refine (specIsGrounded_any E Bf r cr L w16 of.ints).mono ?_
          rintro e w17 ⟨rfl, b17⟩
          clear tfc0 tfc1
          replace B := B.trans (b17.mono B.size)
          replace hy := hy.below b17
          replace of := of.below b17 (Nat.le_refl _)
          replace tf := tf.below b17 tf.lt
          have tfc0 := tf.cell0
          have tfc1 := tf.cell1
          replace od := od.below b17 (Nat.le_refl _)
          replace ox := ox.below b17 (Nat.le_refl _)
          replace oy := oy.below b17 (Nat.le_refl _)
          replace bm := bm.trans (b17.mono bm.size)
          have hd1 : (dvOk E L == grdB E L) = true := by rw [HD0.out]; simp
          have hd2 : (dvOk E L != grdB E L) = false := by rw [HD0.out]; simp
          go_wp2_with fail
          go_meet
          case rel => exact ⟨rfl, rfl, bm⟩
      case rest =>
        obtain ⟨w18, rfl⟩ : ∃ W : World, W = wc := ⟨_, rfl⟩
        obtain ⟨rfl, rfl, b18⟩ := hcut
        clear tfc0 tfc1
        replace B := B.trans (b18.mono B.size)
        replace hy := hy.below b18
        replace of := of.below b18 (Nat.le_refl _)
        replace tf := tf.below b18 tf.lt
        have tfc0 := tf.cell0
        have tfc1 := tf.cell1
        replace od := od.below b18 (Nat.le_refl _)
        replace ox := ox.below b18 (Nat.le_refl _)
        replace oy := oy.below b18 (Nat.le_refl _)
        clear ox
        cases hd : dvOk E L
        · go_wp2
          go_ret
          exact ⟨rfl, B⟩
        · have hdf := dual_facts hd
          have hsg : subB E L = true ∧ grdB E L = true := by have := hd; rw [dv_ok, Bool.and_eq_true] at this; exact this
          have hmf := minz_facts hsg.1
          have d1 := hdf.dual
          have d2 := hdf.vec
          have d3 : (negR (dvL E L) != minR E L) = false := by rw [hdf.neg]; simp
          have l1 := hmf.latt
          have l2 := hmf.hasL
          have l3 := hmf.hasG
          have HLow := hide hmf.low
          have HUp := hide hmf.up
          have HSG := hide hsg
          clear hdf hmf hsg
          go_wp2_with fail
          refine (minimumOf_any E Bf r cr L w18 of.ints).mono ?_
          rintro e w19 ⟨rfl, b19⟩
          clear tfc0 tfc1
          replace B := B.trans (b19.mono B.size)
          replace hy := hy.below b19
          replace of := of.below b19 (Nat.le_refl _)
          replace tf := tf.below b19 tf.lt
          have tfc0 := tf.cell0
          have tfc1 := tf.cell1
          replace od := od.below b19 (Nat.le_refl _)
          replace oy := oy.below b19 (Nat.le_refl _)
          go_wp2_with fail
          refine (negativePart_any By ry cy _ w19 oy.ints).mono ?_
          rintro e w' ⟨rfl, rfl⟩
          go_wp2_with fail
          refine (minimizersOf_any E Bf r cr L w19 of.ints).mono ?_
          rintro e w20 ⟨Bs, rs, cs, rfl, os, hrs, b20⟩
          clear tfc0 tfc1
          replace B := B.trans (b20.mono B.size)
          replace hy := hy.below b20
          replace of := of.below b20 (Nat.le_refl _)
          replace tf := tf.below b20 tf.lt
          have tfc0 := tf.cell0
          have tfc1 := tf.cell1
          replace od := od.below b20 (Nat.le_refl _)
          replace oy := oy.below b20 (Nat.le_refl _)
          go_wp2_with fail
          refine (leastMinimizer_any E Bf r cr L w20 of.ints).mono ?_
          rintro e w21 ⟨rfl, b21⟩
          clear tfc0 tfc1
          replace B := B.trans (b21.mono B.size)
          replace hy := hy.below b21
          replace of := of.below b21 (Nat.le_refl _)
          replace tf := tf.below b21 tf.lt
          have tfc0 := tf.cell0
          have tfc1 := tf.cell1
          replace od := od.below b21 (Nat.le_refl _)
          replace oy := oy.below b21 (Nat.le_refl _)
          replace os := os.below b21 (Nat.le_refl _)
          go_wp2_with fail
          refine (greatestMinimizer_any E Bf r cr L w21 of.ints).mono ?_
          rintro e w22 ⟨rfl, b22⟩
          clear tfc0 tfc1
          replace B := B.trans (b22.mono B.size)
          replace hy := hy.below b22
          replace of := of.below b22 (Nat.le_refl _)
          replace tf := tf.below b22 tf.lt
          have tfc0 := tf.cell0
          have tfc1 := tf.cell1
          replace od := od.below b22 (Nat.le_refl _)
          replace oy := oy.below b22 (Nat.le_refl _)
          replace os := os.below b22 (Nat.le_refl _)
          go_wp2_with fail
          refine (isDualVector_any E Bf r cr L By ry cy _ w22 of.ints oy.ints).mono ?_
          rintro e w23 ⟨rfl, b23⟩
          clear tfc0 tfc1
          replace B := B.trans (b23.mono B.size)
          replace hy := hy.below b23
          replace of := of.below b23 (Nat.le_refl _)
          replace tf := tf.below b23 tf.lt
          have tfc0 := tf.cell0
          have tfc1 := tf.cell1
          replace od := od.below b23 (Nat.le_refl _)
          replace oy := oy.below b23 (Nat.le_refl _)
          replace os := os.below b23 (Nat.le_refl _)
          go_wp2_with fail
          refine (isLattice_any Bs rs cs _ w23 os.ints).mono ?_
          rintro e w' ⟨rfl, rfl⟩
          go_wp2_with fail
          refine (has_any Bs rs cs _ _ w23 os.ints).mono ?_
          rintro e w' ⟨rfl, rfl⟩
          go_wp2_with fail
          refine (has_any Bs rs cs _ _ w23 os.ints).mono ?_
          rintro e w' ⟨rfl, rfl⟩
          have hI := os.ints
          have hsl := hide hI.len
          have hsle := hI.le
          have HNB := hide (fun j (hj : j < (cornersL E L).length) => neg_corner (v := L) (E := E) HSG.out.1 HSG.out.2 hj)
          have hdl := hide od.len
          have hdle := od.own.le
          go_wp2
          go_loop [29] (fun t => ∃ k : Nat, k ≤ rs ∧ t = .int .i64 k) (fun t => rs - (intOf t).toNat)
          case atStart => exact ⟨0, Nat.zero_le _, rfl⟩
          case round =>
            obtain ⟨k, hk, rfl⟩ := hrel
            by_cases hlt : k < rs
            · obtain ⟨b0, off, rfl, hb0, hc0⟩ := hI.at_ hlt
              have e1 := HLow.out k (by rw [hsl.out]; exact hlt)
              have e2 := HUp.out k (by rw [hsl.out]; exact hlt)
              have i1 : (0 : Int) ≤ (k : Int) := by omega
              have i2 : (k : Int) < (rs : Int) := by omega
              go_wp2
              go_round
              case rel => exact ⟨k + 1, by omega, by go_num⟩
              case measure => simp [intOf]; omega
            · obtain rfl : k = rs := by omega
              have hge : ¬ (k : Int) < (k : Int) := by omega
              go_wp2
              go_loop [30, 31, 32] (fun t a b => ∃ (j : Nat) (x y : Value), j ≤ rd ∧ t = .int .i64 j ∧ a = x ∧ b = y) (fun t _ _ => rd - (intOf t).toNat)
              case atStart => exact ⟨0, _, _, Nat.zero_le _, rfl, rfl, rfl⟩
              case round =>
                obtain ⟨j, x, y, hj, rfl, rfl, rfl⟩ := hrel
                by_cases hltj : j < rd
                · obtain ⟨gD, rfl, hg1, hg2⟩ := od.own.form (by omega)
                  obtain ⟨AK, nK, cK, hK1, hK2⟩ := od.rows.get (k := j) (by rw [← hdl.out]; exact hltj)
                  have r0 := od.own.cell hK1
                  have i1 : (0 : Int) ≤ (j : Int) := by omega
                  have i2 : (j : Int) < (rd : Int) := by omega
                  have n1 := HNB.out j (by rw [← hdl.out]; exact hltj)
                  obtain ⟨z, hz⟩ : ∃ z, z = (cornersL E L).getD j [] := ⟨_, rfl⟩
                  rw [← hz] at hK2 n1
                  have HN := hide (specNegativePart_any AK nK cK _ w23 hK2.ints)
                  clear hK1 hz
                  go_wp2_with fail
                  refine HN.out.mono ?_
                  rintro e w' ⟨rfl, rfl⟩
                  go_wp2
                  go_round
                  case rel => exact ⟨j + 1, _, _, by omega, by go_num, rfl, rfl⟩
                  case measure => simp [intOf]; omega
                · obtain rfl : j = rd := by omega
                  go_wp2
                  go_ret
                  exact ⟨rfl, B⟩

set_option maxRecDepth 100000 in
theorem lifted (os : Os) (started : os.Started) (H : Type) (enc : TypeId × Value → H) :
    ReturnsInHanded {} Try.checked os 3 .any (Rows.fnTopSpec.pre6 enc Try.prog Try.f3 Rows.fnTopRow.domain false) (Rows.fnTopSpec.post enc Try.prog Try.f3 false true false false) := by
  refine returnsInHanded_of_change (C := Try.checked) own_knob started (by kernel_rfl) Try.func3
    (ChangeSpec.witness6 (enc := enc) (C := Try.checked) false ⟨#[], #[.slice none 0 0], []⟩ 8 (by kernel_rfl) (by kernel_rfl) (by kernel_rfl) (by kernel_rfl)) ?_
  intro W base args ds gs before hval0 hW _ _
  have hval : ∀ (j : Nat) t v, Try.f3.params[j]? = some t → args[j]? = some v → Value.okWide Try.prog W .any base t v := hval0
  have hW' := hW
  obtain ⟨p, q, hA0, hV, rfl, _, _⟩ := hW
  have hA : DataW.TrodAll enc Try.prog W 0 (fun _ => true) true Try.f3.params.toList args.toList ds p := hA0
  rw [Try.params3] at hA hval
  obtain ⟨v0, vs0, d0, ds0, p0, q0, hargs, rfl, rfl, k0, r0⟩ := trodAll_cons hA
  obtain ⟨rfl, rfl, rfl⟩ := trodAll_nil r0
  obtain rfl : args = #[v0] := by cases args; simp_all
  obtain ⟨rfl, rfl⟩ := trodVars_none hV
  obtain ⟨A0, n0, c0, rfl, h0⟩ := open_bytes (hval 0 22 v0 rfl rfl) k0
  have lt0 : ∀ x ∈ p0, x.block < W.heap.size := by obtain ⟨m, hm⟩ := k0; exact DataW.trod_lt m _ _ _ hm
  clear hA0 hval0
  refine (walk A0 n0 c0 W h0).mono fun e W' ⟨he, bel⟩ => ?_
  subst he
  exact ⟨_, rfl, _, _, _, [], _, [], hW', trodAll_mk1 (shut_bool Try.underlying4 _), (trodAll_cons_mk (Below.trod laid_out (by kernel_rfl) (of_decide_eq_true (by kernel_rfl)) k0 bel lt0) trodAll_mk0), rfl, bel.frame _, fun h => by cases h⟩

theorem over : Rows.fnTopRow.holds Try.pinned (OpenSpec.ofChange Rows.fnTopSpec) :=
  OpenClaim.holds_of_wide 3 Try.f3 rfl rfl rfl rfl rfl rfl rfl ⟨rfl, rfl, rfl, rfl, rfl⟩ rfl rfl rfl rfl rfl (by kernel_rfl) Try.func3 (by kernel_rfl)
    (of_decide_eq_true (by kernel_rfl)) (by unfold Func.isWrapper; first | (rw [if_pos (by decide +kernel)]; kernel_rfl) | (rw [if_neg (by decide +kernel)]; exact ⟨rfl, rfl⟩))
    (fun os started H enc _ => lifted os started H enc)

theorem proved : Rows.FnTopSaid := over
#print axioms proved
end Go.Proofs.Ytokeejachclpeaa.fnTop
