/-
  Walks: the elements by descending numbers: the program's stable sort.
-/
import Derived.Test.YtokeejachclpeaaSort
import Derived.Test.YtokeejachclpeaaClass
import Derived.Test.YtokeejachclpeaaVec
import Derived.Test.YtokeejachclpeaaLawKit
import Derived.OneCell
namespace Go.Proofs.Ytokeejachclpeaa
open Go.RowKit

theorem marks_cons (k0 : Int) (n : Nat) : marks k0 (n + 1) = k0 :: marks (k0 + 1) n := by
  simp only [marks, List.range_succ_eq_map, List.map_cons, List.map_map]
  congr 1
  · omega
  · apply List.map_congr_left
    intro a _
    simp only [Function.comp]
    omega
theorem grown_cell2 {w w' : World} {g b o : Nat} {x : Value} (h : w.grownBy w' (some g)) (hne : b ≠ g) (hb : b < w.heap.size) (hc : w.cell? ⟨b, o, none⟩ = some x) : w'.cell? ⟨b, o, none⟩ = some x := by
  rw [World.cell?_of_block (w := w) (h.block b hb (fun he => by injection he with he; exact hne he))]; exact hc
theorem ints_grown2 {w w' : World} {g n : Nat} {A : Option Addr} {v : List Int} (hv : Ints w A n v) (h : w.grownBy w' (some g)) (hne : 0 < n → ∀ b off, A = some ⟨b, off, none⟩ → b ≠ g) : Ints w' A n v :=
  ⟨hv.1, hv.2.1, fun hn => by
    obtain ⟨b, off, rfl, hb, hc⟩ := hv.all_ hn
    exact ⟨b, off, rfl, fun j hj => grown_cell2 h (hne hn b off rfl) hb (hc j hj)⟩⟩
theorem grown_below2 {w w' : World} (h : Below w.heap.size w w') (row : Option Nat) : w.grownBy w' row := ⟨h.os, h.tape, h.output, h.size, fun i hi _ => h.block i hi⟩
set_option maxHeartbeats 1000000 in
theorem descFn_any (A : Option Addr) (n c : Nat) (x : List Int) (a b bx : Nat) (w : World) (hx : Ints w A n x) (hok : vecOk 1000 x = true) (ha : a < n) (hb : b < n)
    (f0 : w.cell? ⟨bx, 0, none⟩ = some (.slice A n c)) :
    Calls Try.prog 215 #[.int .i64 (a : Int), .int .i64 (b : Int), .pointer (some ⟨bx, 0, none⟩)] w fun r w' => r = .returned (.int .i64 (gv x b - gv x a)) ∧ Below w.heap.size w w' := by
  have hl := hx.len
  have g1 := vecOk_gv hok (k := a) (by omega)
  have g2 := vecOk_gv hok (k := b) (by omega)
  have hle := hx.le
  clear hl
  obtain ⟨bb, off, rfl, hbb, hc⟩ := hx.all_ (by omega)
  have c1 := hc a ha
  have c2 := hc b hb
  clear hc
  have i1 : (0 : Int) ≤ (a : Int) := by omega
  have i2 : (a : Int) < (n : Int) := by omega
  have i3 : (0 : Int) ≤ (b : Int) := by omega
  have i4 : (b : Int) < (n : Int) := by omega
  have t1 : IntKind.i64.wrap (gv x b - gv x a) = gv x b - gv x a := IntWalk.i64_in _ (by omega)
  go_enter Try.func215, Try.ntmps215
  go_wp2
  go_quiet (fail)
  go_wp2
  go_ret
  exact ⟨rfl, below_drewN (Below.refl _ _) _⟩
set_option maxHeartbeats 4000000 in
theorem insSort_any (A : Option Addr) (n c : Nat) (x : List Int) (B0 g cr bx : Nat) (w : World) (hx : Ints w A n x) (hok : vecOk 1000 x = true) (f0 : w.cell? ⟨bx, 0, none⟩ = some (.slice A n c))
    (hown : Own w B0 (some ⟨g, 0, none⟩) n cr (marks 0 n)) (hg1 : bx ≠ g) (hg2 : 0 < n → ∀ b off, A = some ⟨b, off, none⟩ → b ≠ g) :
    Calls Try.prog 227 #[.slice (some ⟨g, 0, none⟩) n cr, .int .i64 0, .int .i64 (n : Int), .func (.func 215) #[] #[.pointer (some ⟨bx, 0, none⟩)]] w fun e w' => e = .returned (.tuple #[]) ∧ Own w' B0 (some ⟨g, 0, none⟩) n cr (ordD x n) ∧ w.grownBy w' (some g) := by
  have hxl := hide hx.len
  have hn5 : n ≤ 5 := by rw [← hxl.out]; exact (vecOk_true hok).1
  have hbx := World.block_lt_of_cell? _ _ f0
  have Hok := hide hok; clear hok
  go_enter Try.func227, Try.ntmps227
  go_wp2
  go_loopw [8] (fun t wr => ∃ i : Nat, 1 ≤ i ∧ i ≤ max 1 n ∧ t = .int .i64 i ∧ Own wr B0 (some ⟨g, 0, none⟩) n cr (ordD x (min i n) ++ marks i (n - i)) ∧ w.grownBy wr (some g)) (fun t _ => 6 - (intOf t).toNat)
  case atStart =>
    refine ⟨1, Nat.le_refl _, by omega, rfl, ?_, World.grownBy.refl _ _⟩
    by_cases h0 : n = 0
    · subst h0; exact hown
    · obtain ⟨m, rfl⟩ : ∃ m, n = m + 1 := ⟨n - 1, by omega⟩
      rw [marks_cons] at hown
      rw [show min 1 (m + 1) = 1 by omega, Nat.add_sub_cancel]
      exact hown
  clear hown
  case round =>
    obtain ⟨i, hi1, hi, rfl, hown, hgr⟩ := hrel
    by_cases hlt : i < n
    · have hLl := hide (ordD_len x i)
      have HE := hide (fun j (hj : j < i) => ordD_elem (x := x) hj)
      have hst := hide (show ordD x (i + 1) = putE (ordD x i) i (posN x (ordD x i) i (ordD x i).length) from rfl)
      have hD : ordD x (min i n) ++ marks i (n - i) = putE (ordD x i) i i ++ marks ((i : Int) + 1) (n - i - 1) := by
        obtain ⟨m, hm⟩ : ∃ m, n - i = m + 1 := ⟨n - i - 1, by omega⟩
        rw [show min i n = i by omega, hm, marks_cons, Nat.add_sub_cancel]
        unfold putE
        rw [List.take_of_length_le (by rw [hLl.out]; exact Nat.le_refl _), List.drop_of_length_le (by rw [hLl.out]; exact Nat.le_refl _)]
        simp
      rw [hD] at hown
      have hst2 := hide (show ordD x (min (i + 1) n) ++ marks ((i + 1 : Nat) : Int) (n - (i + 1)) = putE (ordD x i) i (posN x (ordD x i) i i) ++ marks ((i : Int) + 1) (n - i - 1) by
        rw [show min (i + 1) n = i + 1 by omega, hst.out, hLl.out, show n - (i + 1) = n - i - 1 by omega]; rfl)
      have hRl := hide (show (marks ((i : Int) + 1) (n - i - 1)).length = n - i - 1 from marks_len _ _)
      generalize ordD x i = L at *
      generalize marks ((i : Int) + 1) (n - i - 1) = R at *
      have hltI : (i : Int) < (n : Int) := by omega
      clear hD
      go_wp2
      clear hltI
      go_loopw [9] (fun t wi => ∃ j : Nat, j ≤ i ∧ t = .int .i64 j ∧ Own wi B0 (some ⟨g, 0, none⟩) n cr (putE L i j ++ R) ∧ Hid (posN x L i i = posN x L i j) ∧ w.grownBy wi (some g)) (fun t _ => (intOf t).toNat)
      case atStart => exact ⟨i, Nat.le_refl _, rfl, hown, hide rfl, hgr⟩
      case round =>
        obtain ⟨j, hj, rfl, howni, hpos, hgri⟩ := hrel
        by_cases hj0 : j = 0
        · subst hj0
          have hz := hide (show posN x L i i = 0 from hpos.out.trans rfl)
          go_wp2
          refine region_below (by kernel_rfl) (by kernel_rfl) ?_
          repeat (go_big_quiet_step (fail))
          refine wpQuiet_nil ?_
          intro _ hw'
          obtain ⟨p, rfl⟩ := hw'
          go_wp2
          go_roundw
          case rel => exact ⟨i + 1, by omega, by omega, by go_num, by rw [hst2.out, hz.out]; exact howni.below p.below (Nat.le_refl _), World.grownBy.trans hgri (grown_below2 p.below _)⟩
          case measure => simp [intOf]; omega
        · obtain ⟨J, rfl⟩ : ∃ J, j = J + 1 := ⟨j - 1, by omega⟩
          obtain ⟨q, hq, hqi⟩ := HE.out J (by omega)
          have hat := hide (put_at (L := L) (R := R) (e := i) (j := J + 1) (by rw [hLl.out]; omega))
          have hbe := hide (put_before (L := L) (R := R) (e := i) (j := J) (by rw [hLl.out]; omega))
          have hsw := hide (put_swap (L := L) (R := R) (e := i) (j := J) (by rw [hLl.out]; omega))
          have hsp := hide (show posN x L i (J + 1) = if gv x (gv L J).toNat < gv x i then posN x L i J else J + 1 from rfl)
          rw [hq, Int.toNat_natCast] at hsp
          rw [hq] at hsw hbe
          clear hq
          have m1 := howni.cell (k := J + 1) (by omega)
          have m2 := howni.cell (k := J) (by omega)
          rw [hat.out] at m1
          rw [hbe.out] at m2
          have m3 := howni.frozen (J + 1)
          have m4 := howni.frozen J
          have hxr := ints_grown2 hx hgri hg2
          have fr := grown_cell2 hgri hg1 hbx f0
          have q1 := wc_cell m1
          have q2 := wc_cell m2
          have HG := hide (fun W (h : Ints W A n x) (h0 : W.cell? ⟨bx, 0, none⟩ = some (.slice A n c)) => descFn_any A n c x i q bx W h Hok.out hlt (by omega) h0)
          have g1 := vecOk_gv Hok.out (k := i) (by rw [hxl.out]; omega)
          have g2 := vecOk_gv Hok.out (k := q) (by rw [hxl.out]; omega)
          have i1 : (0 : Int) ≤ (J : Int) := by omega
          have i2 : (J : Int) < (n : Int) := by omega
          have i3 : (0 : Int) ≤ (J : Int) + 1 := by omega
          have i4 : (J : Int) + 1 < (n : Int) := by omega
          have i5 : (0 : Int) < (J : Int) + 1 := by omega
          have t0 : IntKind.i64.wrap ((J : Int) + 1 - 1) = (J : Int) := by rw [IntWalk.i64_in _ (by omega)]; omega
          by_cases hlt3 : gv x q < gv x i
          · have hp := hide (show posN x L i i = posN x L i J by rw [hpos.out, hsp.out, if_pos hlt3])
            have hd : decide (gv x q - gv x i < 0) = true := by simp; omega
            clear hlt3
            go_wp2
            refine region_below (by kernel_rfl) (by kernel_rfl) ?_
            repeat (go_big_quiet_step ((go_at_call 215; refine wc_call (HG.out _ (wc_ints hxr _) (wc_cell fr _)))))
            refine wpQuiet_nil ?_
            intro _ hw'
            obtain ⟨p, rfl⟩ := hw'
            have ho2 := howni.below p.below (Nat.le_refl _)
            have e1 := ho2.cell (k := J + 1) (by omega)
            have e2 := ho2.cell (k := J) (by omega)
            rw [hat.out] at e1
            rw [hbe.out] at e2
            have e3 := ho2.frozen (J + 1)
            have e4 := ho2.frozen J
            have hgp := World.grownBy.trans hgri (grown_below2 p.below (some g))
            clear q1 q2 m1 m2 m3 m4
            go_wp2
            go_region
            all_goals
              go_wp2
              go_roundw
              case rel => exact ⟨J, by omega, by go_num, by rw [← hsw.out]; exact (ho2.set_ (J + 1) _).set_ J _, hide hp.out, grown_trans (grown_set (k := J) (grown_set (k := J + 1) hgp _) _) (grown_below2 (Below.refl _ _).drew _)⟩
              case measure => simp [intOf]
          · have hp := hide (show posN x L i i = J + 1 by rw [hpos.out, hsp.out, if_neg hlt3])
            have hd : decide (gv x q - gv x i < 0) = false := by simp; omega
            clear hlt3
            go_wp2
            refine region_below (by kernel_rfl) (by kernel_rfl) ?_
            repeat (go_big_quiet_step ((go_at_call 215; refine wc_call (HG.out _ (wc_ints hxr _) (wc_cell fr _)))))
            refine wpQuiet_nil ?_
            intro _ hw'
            obtain ⟨p, rfl⟩ := hw'
            go_wp2
            go_roundw
            case rel => exact ⟨i + 1, by omega, by omega, by go_num, by rw [hst2.out, hp.out]; exact howni.below p.below (Nat.le_refl _), World.grownBy.trans hgri (grown_below2 p.below _)⟩
            case measure => simp [intOf]; omega
    · have hz := hide (show ordD x (min i n) ++ marks i (n - i) = ordD x n by rw [show min i n = n by omega, show n - i = 0 by omega]; simp [marks])
      rw [hz.out] at hown
      go_wp2
      go_end0
      exact ⟨rfl, hown, hgr⟩
end Go.Proofs.Ytokeejachclpeaa
