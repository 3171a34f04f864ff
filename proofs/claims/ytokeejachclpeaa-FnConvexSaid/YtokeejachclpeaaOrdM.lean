/-
  Plain: the elements by descending numbers, equal ones in order: each put in behind the last one that is not less.
  Walks: the elements by descending numbers: the program's stable sort.
  Walks: the elements by descending numbers, by the program.
  Walks: the elements by descending numbers, by the reference.
  Walks: the order of a vector, by the program.
-/
import Derived.Test.YtokeejachclpeaaCorner
import Derived.Test.YtokeejachclpeaaClass
import Derived.Test.YtokeejachclpeaaCore
import Derived.Test.YtokeejachclpeaaLawKit
import Derived.OneCell
import Derived.Deep.RegionLaw
namespace Go.Proofs.Ytokeejachclpeaa

def posN (x L : List Int) (e : Nat) : Nat → Nat
  | 0 => 0
  | k + 1 => if gv x (gv L k).toNat < gv x e then posN x L e k else k + 1
theorem posN_le (x L : List Int) (e : Nat) : ∀ k, posN x L e k ≤ k
  | 0 => Nat.le_refl _
  | k + 1 => by
    unfold posN; split
    · exact Nat.le_succ_of_le (posN_le x L e k)
    · exact Nat.le_refl _
/-- L with e put in at place p. -/
def putE (L : List Int) (e p : Nat) : List Int := L.take p ++ (e : Int) :: L.drop p
def insE (x L : List Int) (e : Nat) : List Int := putE L e (posN x L e L.length)
/-- The first k elements in order. -/
def ordD (x : List Int) : Nat → List Int
  | 0 => []
  | k + 1 => insE x (ordD x k) k
theorem putE_len {L : List Int} {e p : Nat} (hp : p ≤ L.length) : (putE L e p).length = L.length + 1 := by
  unfold putE; simp; omega
theorem ordD_len (x : List Int) : ∀ k, (ordD x k).length = k
  | 0 => rfl
  | k + 1 => by
    have ih := ordD_len x k
    unfold ordD insE
    rw [putE_len (posN_le _ _ _ _), ih]
theorem ordD_perm (x : List Int) : ∀ k, (ordD x k).Perm ((List.range k).map fun j : Nat => (j : Int))
  | 0 => List.Perm.refl _
  | k + 1 => by
    have ih := ordD_perm x k
    rw [List.range_succ, List.map_append]
    unfold ordD insE putE
    refine List.perm_middle.trans ?_
    rw [List.take_append_drop]
    refine (List.Perm.cons _ ih).trans ?_
    simpa using (List.perm_append_singleton (k : Int) ((List.range k).map fun j : Nat => (j : Int))).symm
theorem ordD_elem {x : List Int} {k j : Nat} (hj : j < k) : ∃ e : Nat, gv (ordD x k) j = (e : Int) ∧ e < k := by
  have h := gv_mem (v := ordD x k) (k := j) (by rw [ordD_len]; exact hj)
  have h2 := (ordD_perm x k).mem_iff.1 h
  simp only [List.mem_map, List.mem_range] at h2
  obtain ⟨e, he, h3⟩ := h2
  exact ⟨e, h3.symm, he⟩
theorem seenN_has {x : List Int} (hx : ∀ j, j < x.length → 0 ≤ gv x j) : ∀ k, k ≤ x.length → ∀ e : Nat, hasB (seenN x k) e = true → ∃ j, j < k ∧ gv x j = (e : Int)
  | 0, _, e, h => by simp [seenN, hasB] at h
  | k + 1, hk, e, h => by
    simp only [seenN, hasB, insN, Nat.testBit_or, Bool.or_eq_true] at h
    rcases h with h | h
    · obtain ⟨j, hj, h2⟩ := seenN_has hx k (by omega) e h
      exact ⟨j, by omega, h2⟩
    · rw [Nat.testBit_two_pow] at h
      have h3 : (gv x k).toNat = e := by simpa using h
      have := hx k (by omega)
      exact ⟨k, by omega, by omega⟩
theorem ordB_of {L : List Int} {N : Nat} (hl : L.length = N) (hr : ∀ j, j < N → 0 ≤ gv L j ∧ gv L j < N) (hd : L.Nodup) : ordB N L = true := by
  have key : ∀ k, k ≤ N → ordT N L k = true := by
    intro k
    induction k with
    | zero => intro _; rfl
    | succ k ih =>
      intro hk
      have h1 := hr k (by omega)
      simp only [ordT, ih (by omega), Bool.true_and, Bool.and_eq_true, Bool.not_eq_true']
      refine ⟨by simp [inR]; omega, ?_⟩
      cases hb : hasB (seenN L k) (gv L k).toNat
      · rfl
      · obtain ⟨j, hj, h2⟩ := seenN_has (fun j hj => (hr j (by omega)).1) k (by omega) _ hb
        exfalso
        have h3 : gv L j = gv L k := by omega
        rw [gv_get (by omega), gv_get (by omega)] at h3
        exact List.pairwise_iff_getElem.1 hd j k (by omega) (by omega) hj h3
  simp only [ordB, hl, decide_true, Bool.true_and]
  exact key N (Nat.le_refl _)
theorem ordD_ok (x : List Int) (k : Nat) : ordB k (ordD x k) = true := by
  refine ordB_of (ordD_len x k) (fun j hj => ?_) ?_
  · obtain ⟨e, h1, h2⟩ := ordD_elem (x := x) hj
    omega
  · refine (ordD_perm x k).nodup_iff.2 ?_
    exact List.Pairwise.map _ (fun a b h h2 => h (by have h3 : (a : Int) = (b : Int) := h2; omega)) List.nodup_range
theorem gv_append {A B : List Int} {j : Nat} (h : j < A.length) : gv (A ++ B) j = gv A j := by
  rw [gv_get h, gv_get (by simp; omega), List.getElem_append_left h]
theorem gv_append2 {A B : List Int} {j : Nat} (hj : j = A.length) {y : Int} : gv (A ++ y :: B) j = y := by
  subst hj; rw [gv_get (by simp), List.getElem_append_right (Nat.le_refl _)]; simp
theorem take_drop_gv {L : List Int} {j : Nat} (hj : j < L.length) : L.drop j = gv L j :: L.drop (j + 1) := by
  rw [gv_get hj]; exact List.drop_eq_getElem_cons hj
/-- The swap of the element with the one before it. -/
theorem put_swap {L R : List Int} {e j : Nat} (hj : j < L.length) :
    ((putE L e (j + 1) ++ R).set (j + 1) (gv L j)).set j (e : Int) = putE L e j ++ R := by
  have h1 : L.take (j + 1) = L.take j ++ [gv L j] := take_gv hj
  have hl : (L.take j).length = j := by simp; omega
  unfold putE
  rw [h1, take_drop_gv hj]
  simp only [List.append_assoc, List.cons_append, List.nil_append]
  rw [List.set_append_right _ _ (by omega), hl, show j + 1 - j = 1 by omega]
  rw [List.set_append_right _ _ (by simp [hl]), hl, Nat.sub_self]
  rfl
theorem put_at {L R : List Int} {e j : Nat} (hj : j ≤ L.length) : gv (putE L e j ++ R) j = (e : Int) := by
  unfold putE
  rw [List.append_assoc]
  exact gv_append2 (by simp; omega)
theorem put_before {L R : List Int} {e j : Nat} (hj : j < L.length) : gv (putE L e (j + 1) ++ R) j = gv L j := by
  unfold putE
  rw [List.append_assoc, gv_append (by simp; omega), take_gv hj]
  exact gv_append2 (by simp; omega)
end Go.Proofs.Ytokeejachclpeaa
namespace Go.Proofs.Ytokeejachclpeaa
open Go.RowKit

theorem marks_cons (k0 : Int) (n : Nat) : marks k0 (n + 1) = k0 :: marks (k0 + 1) n := by
  simp only [marks, List.range_succ_eq_map, List.map_cons, List.map_map]
  congr 1
  · omega
  · apply List.map_congr_left
    intro a _
    simp only [Function.comp]
    omega
theorem grown_cell2 {w w' : World} {g b o : Nat} {x : Value} (h : w.grownBy w' (some g)) (hne : b ≠ g) (hb : b < w.heap.size) (hc : w.cell? ⟨b, o, none⟩ = some x) : w'.cell? ⟨b, o, none⟩ = some x := by
  rw [World.cell?_of_block (w := w) (h.block b hb (fun he => by injection he with he; exact hne he))]; exact hc
theorem ints_grown2 {w w' : World} {g n : Nat} {A : Option Addr} {v : List Int} (hv : Ints w A n v) (h : w.grownBy w' (some g)) (hne : 0 < n → ∀ b off, A = some ⟨b, off, none⟩ → b ≠ g) : Ints w' A n v :=
  ⟨hv.1, hv.2.1, fun hn => by
    obtain ⟨b, off, rfl, hb, hc⟩ := hv.all_ hn
    exact ⟨b, off, rfl, fun j hj => grown_cell2 h (hne hn b off rfl) hb (hc j hj)⟩⟩
theorem grown_below2 {w w' : World} (h : Below w.heap.size w w') (row : Option Nat) : w.grownBy w' row := ⟨h.os, h.tape, h.output, h.size, fun i hi _ => h.block i hi⟩
set_option maxHeartbeats 1000000 in
theorem descFn_any (A : Option Addr) (n c : Nat) (x : List Int) (a b bx : Nat) (w : World) (hx : Ints w A n x) (hok : vecOk 1000 x = true) (ha : a < n) (hb : b < n)
    (f0 : w.cell? ⟨bx, 0, none⟩ = some (.slice A n c)) :
    Calls Try.prog 215 #[.int .i64 (a : Int), .int .i64 (b : Int), .pointer (some ⟨bx, 0, none⟩)] w fun r w' => r = .returned (.int .i64 (gv x b - gv x a)) ∧ Below w.heap.size w w' := by
  have hl := hx.len
  have g1 := vecOk_gv hok (k := a) (by omega)
  have g2 := vecOk_gv hok (k := b) (by omega)
  have hle := hx.le
  clear hl
  obtain ⟨bb, off, rfl, hbb, hc⟩ := hx.all_ (by omega)
  have c1 := hc a ha
  have c2 := hc b hb
  clear hc
  have i1 : (0 : Int) ≤ (a : Int) := by omega
  have i2 : (a : Int) < (n : Int) := by omega
  have i3 : (0 : Int) ≤ (b : Int) := by omega
  have i4 : (b : Int) < (n : Int) := by omega
  have t1 : IntKind.i64.wrap (gv x b - gv x a) = gv x b - gv x a := IntWalk.i64_in _ (by omega)
  go_enter Try.func215, Try.ntmps215
  go_wp2
  go_quiet (fail)
  go_wp2
  go_ret
  exact ⟨rfl, below_drewN (Below.refl _ _) _⟩
set_option maxHeartbeats 4000000 in
theorem insSort_any (A : Option Addr) (n c : Nat) (x : List Int) (B0 g cr bx : Nat) (w : World) (hx : Ints w A n x) (hok : vecOk 1000 x = true) (f0 : w.cell? ⟨bx, 0, none⟩ = some (.slice A n c))
    (hown : Own w B0 (some ⟨g, 0, none⟩) n cr (marks 0 n)) (hg1 : bx ≠ g) (hg2 : 0 < n → ∀ b off, A = some ⟨b, off, none⟩ → b ≠ g) :
    Calls Try.prog 227 #[.slice (some ⟨g, 0, none⟩) n cr, .int .i64 0, .int .i64 (n : Int), .func (.func 215) #[] #[.pointer (some ⟨bx, 0, none⟩)]] w fun e w' => e = .returned (.tuple #[]) ∧ Own w' B0 (some ⟨g, 0, none⟩) n cr (ordD x n) ∧ w.grownBy w' (some g) := by
  have hxl := hide hx.len
  have hn5 : n ≤ 5 := by rw [← hxl.out]; exact (vecOk_true hok).1
  have hbx := World.block_lt_of_cell? _ _ f0
  have Hok := hide hok; clear hok
  go_enter Try.func227, Try.ntmps227
  go_wp2
  go_loopw [8] (fun t wr => ∃ i : Nat, 1 ≤ i ∧ i ≤ max 1 n ∧ t = .int .i64 i ∧ Own wr B0 (some ⟨g, 0, none⟩) n cr (ordD x (min i n) ++ marks i (n - i)) ∧ w.grownBy wr (some g)) (fun t _ => 6 - (intOf t).toNat)
  case atStart =>
    refine ⟨1, Nat.le_refl _, by omega, rfl, ?_, World.grownBy.refl _ _⟩
    by_cases h0 : n = 0
    · subst h0; exact hown
    · obtain ⟨m, rfl⟩ : ∃ m, n = m + 1 := ⟨n - 1, by omega⟩
      rw [marks_cons] at hown
      rw [show min 1 (m + 1) = 1 by omega, Nat.add_sub_cancel]
      exact hown
  clear hown
  case round =>
    obtain ⟨i, hi1, hi, rfl, hown, hgr⟩ := hrel
    by_cases hlt : i < n
    · have hLl := hide (ordD_len x i)
      have HE := hide (fun j (hj : j < i) => ordD_elem (x := x) hj)
      have hst := hide (show ordD x (i + 1) = putE (ordD x i) i (posN x (ordD x i) i (ordD x i).length) from rfl)
      have hD : ordD x (min i n) ++ marks i (n - i) = putE (ordD x i) i i ++ marks ((i : Int) + 1) (n - i - 1) := by
        obtain ⟨m, hm⟩ : ∃ m, n - i = m + 1 := ⟨n - i - 1, by omega⟩
        rw [show min i n = i by omega, hm, marks_cons, Nat.add_sub_cancel]
        unfold putE
        rw [List.take_of_length_le (by rw [hLl.out]; exact Nat.le_refl _), List.drop_of_length_le (by rw [hLl.out]; exact Nat.le_refl _)]
        simp
      rw [hD] at hown
      have hst2 := hide (show ordD x (min (i + 1) n) ++ marks ((i + 1 : Nat) : Int) (n - (i + 1)) = putE (ordD x i) i (posN x (ordD x i) i i) ++ marks ((i : Int) + 1) (n - i - 1) by
        rw [show min (i + 1) n = i + 1 by omega, hst.out, hLl.out, show n - (i + 1) = n - i - 1 by omega]; rfl)
      have hRl := hide (show (marks ((i : Int) + 1) (n - i - 1)).length = n - i - 1 from marks_len _ _)
      generalize ordD x i = L at *
      generalize marks ((i : Int) + 1) (n - i - 1) = R at *
      have hltI : (i : Int) < (n : Int) := by omega
      clear hD
      go_wp2
      clear hltI
      go_loopw [9] (fun t wi => ∃ j : Nat, j ≤ i ∧ t = .int .i64 j ∧ Own wi B0 (some ⟨g, 0, none⟩) n cr (putE L i j ++ R) ∧ Hid (posN x L i i = posN x L i j) ∧ w.grownBy wi (some g)) (fun t _ => (intOf t).toNat)
      case atStart => exact ⟨i, Nat.le_refl _, rfl, hown, hide rfl, hgr⟩
      case round =>
        obtain ⟨j, hj, rfl, howni, hpos, hgri⟩ := hrel
        by_cases hj0 : j = 0
        · subst hj0
          have hz := hide (show posN x L i i = 0 from hpos.out.trans rfl)
          go_wp2
          refine region_below (by kernel_rfl) (by kernel_rfl) ?_
          repeat (go_big_quiet_step (fail))
          refine wpQuiet_nil ?_
          intro _ hw'
          obtain ⟨p, rfl⟩ := hw'
          go_wp2
          go_roundw
          case rel => exact ⟨i + 1, by omega, by omega, by go_num, by rw [hst2.out, hz.out]; exact howni.below p.below (Nat.le_refl _), World.grownBy.trans hgri (grown_below2 p.below _)⟩
          case measure => simp [intOf]; omega
        · obtain ⟨J, rfl⟩ : ∃ J, j = J + 1 := ⟨j - 1, by omega⟩
          obtain ⟨q, hq, hqi⟩ := HE.out J (by omega)
          have hat := hide (put_at (L := L) (R := R) (e := i) (j := J + 1) (by rw [hLl.out]; omega))
          have hbe := hide (put_before (L := L) (R := R) (e := i) (j := J) (by rw [hLl.out]; omega))
          have hsw := hide (put_swap (L := L) (R := R) (e := i) (j := J) (by rw [hLl.out]; omega))
          have hsp := hide (show posN x L i (J + 1) = if gv x (gv L J).toNat < gv x i then posN x L i J else J + 1 from rfl)
          rw [hq, Int.toNat_natCast] at hsp
          rw [hq] at hsw hbe
          clear hq
          have m1 := howni.cell (k := J + 1) (by omega)
          have m2 := howni.cell (k := J) (by omega)
          rw [hat.out] at m1
          rw [hbe.out] at m2
          have m3 := howni.frozen (J + 1)
          have m4 := howni.frozen J
          have hxr := ints_grown2 hx hgri hg2
          have fr := grown_cell2 hgri hg1 hbx f0
          have q1 := wc_cell m1
          have q2 := wc_cell m2
          have HG := hide (fun W (h : Ints W A n x) (h0 : W.cell? ⟨bx, 0, none⟩ = some (.slice A n c)) => descFn_any A n c x i q bx W h Hok.out hlt (by omega) h0)
          have g1 := vecOk_gv Hok.out (k := i) (by rw [hxl.out]; omega)
          have g2 := vecOk_gv Hok.out (k := q) (by rw [hxl.out]; omega)
          have i1 : (0 : Int) ≤ (J : Int) := by omega
          have i2 : (J : Int) < (n : Int) := by omega
          have i3 : (0 : Int) ≤ (J : Int) + 1 := by omega
          have i4 : (J : Int) + 1 < (n : Int) := by omega
          have i5 : (0 : Int) < (J : Int) + 1 := by omega
          have t0 : IntKind.i64.wrap ((J : Int) + 1 - 1) = (J : Int) := by rw [IntWalk.i64_in _ (by omega)]; omega
          by_cases hlt3 : gv x q < gv x i
          · have hp := hide (show posN x L i i = posN x L i J by rw [hpos.out, hsp.out, if_pos hlt3])
            have hd : decide (gv x q - gv x i < 0) = true := by simp; omega
            clear hlt3
            go_wp2
            refine region_below (by kernel_rfl) (by kernel_rfl) ?_
            repeat (go_big_quiet_step ((go_at_call 215; refine wc_call (HG.out _ (wc_ints hxr _) (wc_cell fr _)))))
            refine wpQuiet_nil ?_
            intro _ hw'
            obtain ⟨p, rfl⟩ := hw'
            have ho2 := howni.below p.below (Nat.le_refl _)
            have e1 := ho2.cell (k := J + 1) (by omega)
            have e2 := ho2.cell (k := J) (by omega)
            rw [hat.out] at e1
            rw [hbe.out] at e2
            have e3 := ho2.frozen (J + 1)
            have e4 := ho2.frozen J
            have hgp := World.grownBy.trans hgri (grown_below2 p.below (some g))
            clear q1 q2 m1 m2 m3 m4
            go_wp2
            go_region
            all_goals
              go_wp2
              go_roundw
              case rel => exact ⟨J, by omega, by go_num, by rw [← hsw.out]; exact (ho2.set_ (J + 1) _).set_ J _, hide hp.out, grown_trans (grown_set (k := J) (grown_set (k := J + 1) hgp _) _) (grown_below2 (Below.refl _ _).drew _)⟩
              case measure => simp [intOf]
          · have hp := hide (show posN x L i i = J + 1 by rw [hpos.out, hsp.out, if_neg hlt3])
            have hd : decide (gv x q - gv x i < 0) = false := by simp; omega
            clear hlt3
            go_wp2
            refine region_below (by kernel_rfl) (by kernel_rfl) ?_
            repeat (go_big_quiet_step ((go_at_call 215; refine wc_call (HG.out _ (wc_ints hxr _) (wc_cell fr _)))))
            refine wpQuiet_nil ?_
            intro _ hw'
            obtain ⟨p, rfl⟩ := hw'
            go_wp2
            go_roundw
            case rel => exact ⟨i + 1, by omega, by omega, by go_num, by rw [hst2.out, hp.out]; exact howni.below p.below (Nat.le_refl _), World.grownBy.trans hgri (grown_below2 p.below _)⟩
            case measure => simp [intOf]; omega
    · have hz := hide (show ordD x (min i n) ++ marks i (n - i) = ordD x n by rw [show min i n = n by omega, show n - i = 0 by omega]; simp [marks])
      rw [hz.out] at hown
      go_wp2
      go_end0
      exact ⟨rfl, hown, hgr⟩
end Go.Proofs.Ytokeejachclpeaa
namespace Go.Proofs.Ytokeejachclpeaa
open Go.RowKit

set_option maxHeartbeats 1000000 in
theorem stableCmp_any (A : Option Addr) (n c : Nat) (x : List Int) (B0 g cr bx : Nat) (w : World) (hx : Ints w A n x) (hok : vecOk 1000 x = true) (f0 : w.cell? ⟨bx, 0, none⟩ = some (.slice A n c))
    (hown : Own w B0 (some ⟨g, 0, none⟩) n cr (marks 0 n)) (hg1 : bx ≠ g) (hg2 : 0 < n → ∀ b off, A = some ⟨b, off, none⟩ → b ≠ g) :
    Calls Try.prog 222 #[.slice (some ⟨g, 0, none⟩) n cr, .int .i64 (n : Int), .func (.func 215) #[] #[.pointer (some ⟨bx, 0, none⟩)]] w fun e w' => e = .returned (.tuple #[]) ∧ Own w' B0 (some ⟨g, 0, none⟩) n cr (ordD x n) ∧ w.grownBy w' (some g) := by
  have hn5 : n ≤ 5 := by rw [← hx.len]; exact (vecOk_true hok).1
  have HS := hide (insSort_any A n c x B0 g cr bx w hx hok f0 hown hg1 hg2)
  clear hx hok f0 hown hg1 hg2
  have h20 : ¬ (20 : Int) ≤ (n : Int) := by omega
  have h21 : ¬ (20 : Int) < (n : Int) := by omega
  go_enter Try.func222, Try.ntmps222
  go_wp2
  go_loopw [7, 8] (fun s t wr => s = .int .i64 0 ∧ t = .int .i64 20 ∧ wr = w) (fun _ _ _ => 0)
  case atStart => exact ⟨rfl, rfl, rfl⟩
  case round =>
    obtain ⟨rfl, rfl, rfl⟩ := hrel
    go_wp2_with fail
    refine HS.out.mono ?_
    rintro e w1 ⟨rfl, hown, hgr⟩
    go_wp2
    go_loopw [6] (fun t wq => t = .int .i64 20 ∧ wq = w1) (fun _ _ => 0)
    case atStart => exact ⟨rfl, rfl⟩
    case round =>
      obtain ⟨rfl, rfl⟩ := hrel
      go_wp2
      go_end0
      exact ⟨rfl, hown, hgr⟩
theorem sortStable_any (A : Option Addr) (n c : Nat) (x : List Int) (B0 g cr bx : Nat) (w : World) (hx : Ints w A n x) (hok : vecOk 1000 x = true) (f0 : w.cell? ⟨bx, 0, none⟩ = some (.slice A n c))
    (hown : Own w B0 (some ⟨g, 0, none⟩) n cr (marks 0 n)) (hg1 : bx ≠ g) (hg2 : 0 < n → ∀ b off, A = some ⟨b, off, none⟩ → b ≠ g) :
    Calls Try.prog 214 #[.slice (some ⟨g, 0, none⟩) n cr, .func (.func 215) #[] #[.pointer (some ⟨bx, 0, none⟩)]] w fun e w' => e = .returned (.tuple #[]) ∧ Own w' B0 (some ⟨g, 0, none⟩) n cr (ordD x n) ∧ w.grownBy w' (some g) := by
  have hle := hx.le
  have HS := hide (stableCmp_any A n c x B0 g cr bx w hx hok f0 hown hg1 hg2)
  clear hx hok f0 hown hg1 hg2
  go_enter Try.func214, Try.ntmps214
  go_wp2_with fail
  refine HS.out.mono ?_
  rintro e w1 ⟨rfl, hown, hgr⟩
  go_wp2
  go_end0
  exact ⟨rfl, hown, hgr⟩
set_option maxHeartbeats 1000000 in
theorem descending_any (A : Option Addr) (n c : Nat) (x : List Int) (w : World) (hx : Ints w A n x) (hok : vecOk 1000 x = true) :
    Calls Try.prog 180 #[.slice A n c] w fun e w' => ∃ B cr, e = .returned (.slice B n cr) ∧ Own w' w.heap.size B n cr (ordD x n) ∧ Below w.heap.size w w' := by
  have hn5 : n ≤ 5 := by rw [← hx.len]; exact (vecOk_true hok).1
  have Hok := hide hok; clear hok
  have hmk := fun W => make_ints n (by omega) W
  have hmf : ∀ (fn : Fn) (first cap : Array Value) (w : World), (Instr.makeFunc fn first cap).run Try.prog w = .ok (.func fn first cap) w := fun _ _ _ _ => rfl
  have z0 : (w.alloc (.cells #[.slice A n c] 24)).heap.size = w.heap.size + 1 := by simp
  have hO := own_made n (by omega) (w.alloc (.cells #[.slice A n c] 24)) (B := w.heap.size + 1) (by simp)
  rw [z0] at hO
  have hB0 : Below w.heap.size w (w.alloc (.cells #[.slice A n c] 24)) := (Below.refl _ _).alloc (Nat.le_refl _) _
  have hc0 : (w.alloc (.cells #[.slice A n c] 24)).cell? ⟨w.heap.size, 0, none⟩ = some (.slice A n c) := by rw [World.cell?_alloc_at _ _ _ _ rfl]; rfl
  have hB1 : Below w.heap.size w ((w.alloc (.cells #[.slice A n c] 24)).alloc (.cells (madeCells #[.int .i64 0] n) 3)) := hB0.alloc (by simp) _
  have hc1 : ((w.alloc (.cells #[.slice A n c] 24)).alloc (.cells (madeCells #[.int .i64 0] n) 3)).cell? ⟨w.heap.size, 0, none⟩ = some (.slice A n c) := by
    rw [World.cell?_alloc_lt _ _ _ (by simp)]; exact hc0
  clear z0 hB0 hc0
  go_enter Try.func180, Try.ntmps180
  go_wp2
  go_loopw [10] (fun t wr => ∃ (k : Nat) (zs : List Int), k ≤ n ∧ t = .int .i64 k ∧ Own wr (w.heap.size + 1) (some ⟨w.heap.size + 1, 0, none⟩) n n zs ∧ zs.take k = marks 0 k ∧ wr.cell? ⟨w.heap.size, 0, none⟩ = some (.slice A n c) ∧ Below w.heap.size w wr) (fun t _ => n - (intOf t).toNat)
  case atStart => exact ⟨0, _, Nat.zero_le _, rfl, hO, rfl, hc1, hB1⟩
  clear hO hB1 hc1
  case round =>
    obtain ⟨k, zs, hk, rfl, hown, htake, hcx, hbel⟩ := hrel
    have Ht := hide htake; clear htake
    have hzl := hide hown.len
    by_cases hlt : k < n
    · have h2 := hown.cell hlt
      have h3 := hown.frozen k
      have ht2 := hide (take_set_marks (k0 := 0) (zs := zs) (k := k) (by rw [hzl.out]; exact hlt) Ht.out)
      rw [Int.zero_add] at ht2
      have hbx := World.block_lt_of_cell? _ _ hcx
      go_wp2
      go_roundw
      case rel => exact ⟨k + 1, zs.set k (k : Int), by omega, by go_num, hown.set_ k _, ht2.out, (World.cell?_of_block (a := ⟨w.heap.size, 0, none⟩) (Below.heap_setCell wr ⟨w.heap.size + 1, k, none⟩ (.int .i64 (k : Int)) w.heap.size (by simp))).trans hcx, hbel.setCell (by simp) _⟩
      case measure => simp [intOf]; omega
    · obtain rfl : k = n := by omega
      have ez : zs = marks 0 k := by rw [← Ht.out, List.take_of_length_le (by rw [hzl.out]; exact Nat.le_refl _)]
      rw [ez] at hown
      clear ez hmk
      have HS := hide (sortStable_any A k c x (w.heap.size + 1) (w.heap.size + 1) k w.heap.size wr (hx.below hbel (Nat.le_refl _)) Hok.out hcx hown (by omega) (fun h0 b off hA => by
        obtain ⟨b', off', e, hb', _⟩ := hx.all_ h0
        rw [hA] at e; injection e with e; injection e with e _ _; omega))
      go_wp2_with fail
      refine HS.out.mono ?_
      rintro e w1 ⟨rfl, hown2, hgr⟩
      go_wp2
      go_ret
      exact ⟨_, k, rfl, hown2.less (Nat.le_succ _), hbel.grown hgr (by have := hbel.size; omega) (fun k hk => by injection hk with hk; omega)⟩
end Go.Proofs.Ytokeejachclpeaa
namespace Go.Proofs.Ytokeejachclpeaa
open Go.RowKit

def ordOk (x : List Int) : Bool := vecOk 1000 x
def ordF (x : List Int) : List Int := if vecOk 1000 x then ordD x x.length else []
theorem ints_take {w : World} {A : Option Addr} {n k : Nat} {L : List Int} (h : Ints w A n L) (hk : k ≤ n) : Ints w A k (L.take k) :=
  ⟨by rw [List.length_take, h.len]; omega, by have := h.le; omega, fun h0 => by
    obtain ⟨b, off, rfl, hb, hc⟩ := h.all_ (by omega)
    refine ⟨b, off, rfl, fun j hj => ?_⟩
    rw [hc j (by omega)]
    congr 2
    rw [gv_get (by rw [h.len]; omega), gv_get (by rw [List.length_take, h.len]; omega)]
    simp⟩
theorem ints_drop {w : World} {b off n k : Nat} {L : List Int} (h : Ints w (some ⟨b, off, none⟩) n L) : Ints w (some ⟨b, off + k, none⟩) (n - k) (L.drop k) :=
  ⟨by rw [List.length_drop, h.len], by have := h.le; omega, fun h0 => by
    obtain ⟨b', off', e, hb, hc⟩ := h.all_ (by omega)
    injection e with e; injection e with e1 e2 _; subst e1; subst e2
    refine ⟨b, off + k, rfl, fun j hj => ?_⟩
    have := hc (k + j) (by omega)
    rw [show off + (k + j) = off + k + j by omega] at this
    rw [this]
    congr 2
    rw [gv_get (by rw [h.len]; omega), gv_get (by rw [List.length_drop, h.len]; omega)]
    simp⟩
theorem own_zeroC (W : World) (o : Obj) {B : Nat} (hB : B ≤ W.heap.size) : Own ((W.alloc o).alloc (.cells #[] 3)) B (some ⟨W.heap.size + 1, 0, none⟩) 0 0 [] := by
  have h := own_zero (W.alloc o) (B := B) (by simp; omega)
  rwa [show (W.alloc o).heap.size = W.heap.size + 1 by simp] at h
theorem cell_growB {W w1 : World} {o : Obj} {y : Int} {S : Nat} (h : ((W.alloc o).alloc (.cells #[.int .i64 y] 3)).grownBy w1 (some S)) (hS : S = W.heap.size := by rfl) : w1.cell? ⟨W.heap.size + 1, 0, none⟩ = some (.int .i64 y) := by
  have h1 := cell_new (W.alloc o) y
  rw [show (W.alloc o).heap.size = W.heap.size + 1 by simp] at h1
  exact grown_cell2 h (by omega) (by simp) h1
theorem cell_growC {W w1 : World} {o : Obj} {y : Int} {S : Nat} (h : ((W.alloc (.cells #[.int .i64 y] 3)).alloc o).grownBy w1 (some S)) (hS : S = W.heap.size + 1 := by rfl) : w1.cell? ⟨W.heap.size, 0, none⟩ = some (.int .i64 y) := by
  have h1 : ((W.alloc (.cells #[.int .i64 y] 3)).alloc o).cell? ⟨W.heap.size, 0, none⟩ = some (.int .i64 y) := (World.cell?_alloc_lt _ o _ (by simp)).trans (cell_new W y)
  exact grown_cell2 h (by omega) (by simp; omega) h1
theorem own_range {w : World} {B n c : Nat} {A : Option Addr} {xs : List Int} (h : Own w B A n c xs) : ∀ g, A = some ⟨g, 0, none⟩ → B ≤ g ∧ g < w.heap.size := by
  intro g hA
  rcases h.where_ with h0 | ⟨g', h1, h2, h3⟩
  · rw [h0] at hA; cases hA
  · rw [h1] at hA
    simp at hA
    subst hA
    exact ⟨h2, h3⟩
theorem ints_dropif {w : World} {g i cr p : Nat} {L : List Int} (h : Ints w (some ⟨g, 0, none⟩) i L) (_hp : p ≤ i) (hc : i ≤ cr) : Ints w (if cr = p then some ⟨g, 0, none⟩ else some ⟨g, p, none⟩) (i - p) (L.drop p) := by
  split
  · refine ⟨by rw [List.length_drop, h.len], by omega, fun h0 => by omega⟩
  · have := ints_drop (k := p) h
    rwa [Nat.zero_add] at this
theorem own_cast {w : World} {B n c n' : Nat} {A : Option Addr} {xs ys : List Int} (h : Own w B A n c xs) (hn : n = n') (hx : xs = ys) : Own w B A n' c ys := by subst hn; subst hx; exact h
set_option maxHeartbeats 4000000 in
theorem specOrderFor_any (A : Option Addr) (n c : Nat) (x : List Int) (w : World) (hx : Ints w A n x) :
    Calls Try.prog 81 #[.slice A n c] w fun e w' => ∃ B r cr, e = .returned (.tuple #[.slice B r cr, .bool (vecOk 1000 x)]) ∧ Own w' w.heap.size B r cr (ordF x) ∧ r ≤ 1048576 ∧ Below w.heap.size w w' := by
  have hxl := hide hx.len
  have hle := hx.le
  have hB0 := (Below.refl w.heap.size w).alloc (Nat.le_refl _) (.cells #[] 3)
  have hO0 := own_zero w (Nat.le_refl w.heap.size)
  have HV := hide (l7Vector_any A n c x _ (hx.alloc (.cells #[] 3)))
  cases hok : vecOk 1000 x
  · have e0 : ordF x = [] := by simp [ordF, hok]
    rw [e0]; clear e0
    rw [hok] at HV
    go_enter Try.func81, Try.ntmps81
    go_wp2_with fail
    refine HV.out.mono ?_
    rintro e w1 ⟨rfl, rfl⟩
    go_wp2
    go_ret2
    exact ⟨_, 0, 0, rfl, hO0, by omega, hB0⟩
  rw [hok] at HV
  have e0 : ordF x = ordD x n := by simp [ordF, hok, hxl.out]
  rw [e0]; clear e0
  have hn5 : n ≤ 5 := by rw [← hxl.out]; exact (vecOk_true hok).1
  have Hok := hide hok; clear hok
  go_enter Try.func81, Try.ntmps81
  go_wp2_with fail
  refine HV.out.mono ?_
  rintro e w1 ⟨rfl, rfl⟩
  go_wp2
  go_loopw [4, 5] (fun l t wr => ∃ (i g cr : Nat), i ≤ n ∧ t = .int .i64 i ∧ l = .slice (some ⟨g, 0, none⟩) i cr ∧ Own wr w.heap.size (some ⟨g, 0, none⟩) i cr (ordD x i) ∧ Below w.heap.size w wr) (fun _ t _ => n - (intOf t).toNat)
  case atStart => exact ⟨0, _, 0, Nat.zero_le _, rfl, rfl, hO0, hB0⟩
  clear hO0 hB0
  case round =>
    obtain ⟨i, g, cr, hi, rfl, rfl, hown, hbel⟩ := hrel
    by_cases hlt : i < n
    · obtain ⟨b, off, rfl, hb, hc⟩ := hx.all_ (by omega)
      have HC := hide hc; clear hc
      have hLl := hide (ordD_len x i)
      have HE := hide (fun j (hj : j < i) => ordD_elem (x := x) hj)
      have hst := hide (show ordD x (i + 1) = (ordD x i).take (posN x (ordD x i) i i) ++ (i : Int) :: (ordD x i).drop (posN x (ordD x i) i i) by
        have h : ordD x (i + 1) = putE (ordD x i) i (posN x (ordD x i) i (ordD x i).length) := rfl
        rw [hLl.out] at h; exact h)
      generalize ordD x i = L at *
      go_wp2
      go_loopw [6] (fun t wi => ∃ k : Nat, k ≤ i ∧ t = .int .i64 k ∧ Hid (posN x L i i = posN x L i k) ∧ Own wi w.heap.size (some ⟨g, 0, none⟩) i cr L ∧ Below w.heap.size w wi) (fun t _ => (intOf t).toNat)
      case atStart => exact ⟨i, Nat.le_refl _, rfl, hide rfl, hown, hbel⟩
      clear hown hbel
      case round =>
        obtain ⟨k, hk, rfl, hpos, hown, hbel⟩ := hrel
        obtain ⟨hgB, hgl⟩ := own_range hown g rfl
        have hbsz := hbel.size
        have i7 : (0 : Int) ≤ (i : Int) := by omega
        have i8 : (i : Int) < (n : Int) := by omega
        have hpc := own_cap hown
        have i9 : (i : Int) ≤ (cr : Int) := by omega
        by_cases hk0 : k = 0
        · subst hk0
          have hp := hide (show posN x L i i = 0 from hpos.out.trans rfl)
          go_wp2
          go_quiet (fail)
          go_wp2
          have HI : Ints (wr.drewN (nq + 1)) (some ⟨g, 0, none⟩) i L := hown.ints.below (below_drewN (Below.refl _ _) _) (Nat.le_refl _)
          have HW : Below wr.heap.size wr (wr.drewN (nq + 1)) := below_drewN (Below.refl _ _) _
          go_region_law (first
            | (refine step_apps (by rfl) (.tmp 39) (.tmp 42) (by rfl) w.heap.size _ 0 0 [] (some ⟨g, 0, none⟩) (0) cr (L.take (0)) (by rfl) (by rfl) (by first | exact own_zero _ (by simp; omega) | exact (own_zero _ (by simp; omega)).alloc _ | exact own_zeroC _ _ (by simp; omega) | fail) (by first | exact (ints_take HI (by omega)).alloc _ | exact ((ints_take HI (by omega)).alloc _).alloc _ | fail) (by omega) (by omega) (by simp; omega) ?_
               intro A43 c43 w43 hown43 hgrow43 hat43
               rw [Nat.zero_add] at hown43
               have HB43 : Below wr.heap.size wr w43 := by first | exact (HW.alloc (Nat.le_refl _) _).grown hgrow43 (by simp) (fun k hk => by simp at hk; omega) | exact ((HW.alloc (Nat.le_refl _) _).alloc (by simp) _).grown hgrow43 (by simp; omega) (fun k hk => by simp at hk; omega)
               have HA43 : ∀ k, A43.map (·.block) = some k → wr.heap.size ≤ k := by
                 intro k hk
                 rcases hat43 with h | h <;> (rw [h] at hk; simp at hk; omega)
               have hs43 : w.heap.size ≤ w43.heap.size := Nat.le_trans hbsz HB43.size)
            | (refine step_app (by rfl) (.tmp 43) (.tmp 45) (by rfl) w.heap.size A43 (0) c43 _ (L.take (0)) (i : Int) (by rfl) (by rfl) (by first | exact hown43 | exact hown43.alloc _ | fail) (by first | exact cell_new _ _ | (have h8 := cell_growB hgrow43; exact h8) | (have h8 := cell_growC hgrow43; exact h8) | fail) (by omega) (by first | exact hs43 | (simp; omega)) ?_
               intro g46 cap46 w46 hown46 hgrow46 hat46 hlt46
               have HB46 : Below wr.heap.size wr w46 := by first | exact HB43.grown hgrow46 HB43.size HA43 | exact (HB43.alloc HB43.size _).grown hgrow46 (by have := HB43.size; simp; omega) HA43)
            | (refine step_apps (by rfl) (.tmp 46) (.tmp 49) (by rfl) w.heap.size (some ⟨g46, 0, none⟩) (0 + 1) cap46 (L.take (0) ++ [(i : Int)]) _ (i - (0)) _ (L.drop (0)) (by rfl) (by rfl) hown46 (by first | exact hown.ints.below HB46 (Nat.le_refl _) | exact ints_dropif (hown.ints.below HB46 (Nat.le_refl _)) (by omega) hpc | fail) (by omega) (by omega) (Nat.le_trans hbsz HB46.size) ?_
               intro A50 c50 w50 hown50 hgrow50 hat50)
            | fail)
          all_goals
            have HE50 := ((hbel.trans (HB46.mono hbsz)).grown hgrow50 (Nat.le_trans hbsz HB46.size) (fun k hk => by simp at hk; have := own_range hown46 g46 rfl; omega))
            have HO50 := own_cast (hown50) (show (0) + 1 + (i - (0)) = i + 1 by omega) (show L.take (0) ++ [(i : Int)] ++ L.drop (0) = ordD x (i + 1) by rw [hst.out, hp.out, List.append_assoc]; rfl)
            have hA50 : ∃ g', A50 = some ⟨g', 0, none⟩ := by rcases hat50 with h | h <;> exact ⟨_, h⟩
            obtain ⟨g', rfl⟩ := hA50
            have HO := hide HO50
            have HE' := hide HE50
            clear HO50 HE50 hat50 hgrow50 hown50
            go_wp2
            go_roundw
            case rel => exact ⟨i + 1, g', c50, by omega, by go_num, by congr 1; omega, HO.out, HE'.out⟩
            case measure => simp [intOf]; omega
        · obtain ⟨K, rfl⟩ : ∃ K, k = K + 1 := ⟨k - 1, by omega⟩
          obtain ⟨q, hq, hqi⟩ := HE.out K (by omega)
          have hsp := hide (show posN x L i (K + 1) = if gv x (gv L K).toNat < gv x i then posN x L i K else K + 1 from rfl)
          rw [hq, Int.toNat_natCast] at hsp
          have m2 := hown.cell (k := K) (by omega)
          rw [hq] at m2
          clear hq
          have c1 : wr.cell? ⟨b, off + i, none⟩ = some (.int .i64 (gv x i)) := (hbel.cell (p := ⟨b, off + i, none⟩) hb).trans (HC.out _ hlt)
          have c2 : wr.cell? ⟨b, off + q, none⟩ = some (.int .i64 (gv x q)) := (hbel.cell (p := ⟨b, off + q, none⟩) hb).trans (HC.out _ (by omega))
          have i1 : (0 : Int) ≤ (K : Int) := by omega
          have i2 : (K : Int) < (i : Int) := by omega
          have i3 : (0 : Int) ≤ (q : Int) := by omega
          have i4 : (q : Int) < (n : Int) := by omega
          have i5 : (0 : Int) < (K : Int) + 1 := by omega
          have i10 : (0 : Int) ≤ (K : Int) + 1 := by omega
          have i11 : (K : Int) + 1 ≤ (cr : Int) := by omega
          have i12 : (K : Int) + 1 ≤ (i : Int) := by omega
          have i13 : ((K : Int) + 1).toNat = K + 1 := by omega
          have i14 : ((i : Int) - ((K : Int) + 1)).toNat = i - (K + 1) := by omega
          have t0 : IntKind.i64.wrap ((K : Int) + 1 - 1) = (K : Int) := by rw [IntWalk.i64_in _ (by omega)]; omega
          by_cases hlt3 : gv x q < gv x i
          · have hp := hide (show posN x L i i = posN x L i K by rw [hpos.out, hsp.out, if_pos hlt3])
            have hd : decide (gv x q < gv x i) = true := by simp [hlt3]
            clear hlt3
            go_wp2
            go_quiet (fail)
            go_wp2
            go_roundw
            case rel => exact ⟨K, by omega, by go_num, hide hp.out, hown.below (below_drewN (Below.refl _ _) _) (Nat.le_refl _), below_drewN hbel _⟩
            case measure => simp [intOf]
          · have hp := hide (show posN x L i i = K + 1 by rw [hpos.out, hsp.out, if_neg hlt3])
            have hd : decide (gv x q < gv x i) = false := by simp [hlt3]
            clear hlt3
            go_wp2
            go_quiet (fail)
            go_wp2
            have HI : Ints (wr.drewN (nq + 1)) (some ⟨g, 0, none⟩) i L := hown.ints.below (below_drewN (Below.refl _ _) _) (Nat.le_refl _)
            have HW : Below wr.heap.size wr (wr.drewN (nq + 1)) := below_drewN (Below.refl _ _) _
            go_region_law (first
              | (refine step_apps (by rfl) (.tmp 39) (.tmp 42) (by rfl) w.heap.size _ 0 0 [] (some ⟨g, 0, none⟩) (K + 1) cr (L.take (K + 1)) (by rfl) (by rfl) (by first | exact own_zero _ (by simp; omega) | exact (own_zero _ (by simp; omega)).alloc _ | exact own_zeroC _ _ (by simp; omega) | fail) (by first | exact (ints_take HI (by omega)).alloc _ | exact ((ints_take HI (by omega)).alloc _).alloc _ | fail) (by omega) (by omega) (by simp; omega) ?_
                 intro A43 c43 w43 hown43 hgrow43 hat43
                 rw [Nat.zero_add] at hown43
                 have HB43 : Below wr.heap.size wr w43 := by first | exact (HW.alloc (Nat.le_refl _) _).grown hgrow43 (by simp) (fun k hk => by simp at hk; omega) | exact ((HW.alloc (Nat.le_refl _) _).alloc (by simp) _).grown hgrow43 (by simp; omega) (fun k hk => by simp at hk; omega)
                 have HA43 : ∀ k, A43.map (·.block) = some k → wr.heap.size ≤ k := by
                   intro k hk
                   rcases hat43 with h | h <;> (rw [h] at hk; simp at hk; omega)
                 have hs43 : w.heap.size ≤ w43.heap.size := Nat.le_trans hbsz HB43.size)
              | (refine step_app (by rfl) (.tmp 43) (.tmp 45) (by rfl) w.heap.size A43 (K + 1) c43 _ (L.take (K + 1)) (i : Int) (by rfl) (by rfl) (by first | exact hown43 | exact hown43.alloc _ | fail) (by first | exact cell_new _ _ | (have h8 := cell_growB hgrow43; exact h8) | (have h8 := cell_growC hgrow43; exact h8) | fail) (by omega) (by first | exact hs43 | (simp; omega)) ?_
                 intro g46 cap46 w46 hown46 hgrow46 hat46 hlt46
                 have HB46 : Below wr.heap.size wr w46 := by first | exact HB43.grown hgrow46 HB43.size HA43 | exact (HB43.alloc HB43.size _).grown hgrow46 (by have := HB43.size; simp; omega) HA43)
              | (refine step_apps (by rfl) (.tmp 46) (.tmp 49) (by rfl) w.heap.size (some ⟨g46, 0, none⟩) (K + 1 + 1) cap46 (L.take (K + 1) ++ [(i : Int)]) _ (i - (K + 1)) _ (L.drop (K + 1)) (by rfl) (by rfl) hown46 (by first | exact hown.ints.below HB46 (Nat.le_refl _) | exact ints_dropif (hown.ints.below HB46 (Nat.le_refl _)) (by omega) hpc | fail) (by omega) (by omega) (Nat.le_trans hbsz HB46.size) ?_
                 intro A50 c50 w50 hown50 hgrow50 hat50)
              | fail)
            all_goals
              have HE50 := ((hbel.trans (HB46.mono hbsz)).grown hgrow50 (Nat.le_trans hbsz HB46.size) (fun k hk => by simp at hk; have := own_range hown46 g46 rfl; omega))
              have HO50 := own_cast (hown50) (show (K + 1) + 1 + (i - (K + 1)) = i + 1 by omega) (show L.take (K + 1) ++ [(i : Int)] ++ L.drop (K + 1) = ordD x (i + 1) by rw [hst.out, hp.out, List.append_assoc]; rfl)
              have hA50 : ∃ g', A50 = some ⟨g', 0, none⟩ := by rcases hat50 with h | h <;> exact ⟨_, h⟩
              obtain ⟨g', rfl⟩ := hA50
              have HO := hide HO50
              have HE' := hide HE50
              clear HO50 HE50 hat50 hgrow50 hown50
              go_wp2
              go_roundw
              case rel => exact ⟨i + 1, g', c50, by omega, by go_num, by congr 1; omega, HO.out, HE'.out⟩
              case measure => simp [intOf]; omega
    · obtain rfl : i = n := by omega
      go_wp2
      go_ret2
      exact ⟨_, i, cr, rfl, hown, by omega, hbel⟩
end Go.Proofs.Ytokeejachclpeaa
namespace Go.Proofs.Ytokeejachclpeaa
open Go.RowKit

set_option maxHeartbeats 1000000 in
theorem implOrderFor_any (A : Option Addr) (n c : Nat) (x : List Int) (w : World) (hx : Ints w A n x) :
    Calls Try.prog 80 #[.slice A n c] w fun e w' => ∃ B r cr, e = .returned (.tuple #[.slice B r cr, .bool (vecOk 1000 x)]) ∧ Own w' w.heap.size B r cr (ordF x) ∧ r ≤ 1048576 ∧ Below w.heap.size w w' := by
  have HV := hide (isVector_any A n c x w hx)
  have hxl := hx.len
  have hle := hx.le
  cases hok : vecOk 1000 x
  · have e0 : ordF x = [] := by simp [ordF, hok]
    rw [e0]; clear e0
    rw [hok] at HV
    go_enter Try.func80, Try.ntmps80
    go_wp2_with fail
    refine HV.out.mono ?_
    rintro e w1 ⟨rfl, rfl⟩
    go_wp2
    go_ret2
    exact ⟨none, 0, 0, rfl, own_nil _ _, by omega, Below.refl _ _⟩
  · have e0 : ordF x = ordD x n := by simp [ordF, hok, hxl]
    rw [e0]; clear e0
    rw [hok] at HV
    have HD := hide (descending_any A n c x w hx hok)
    have hn5 : n ≤ 5 := by rw [← hxl]; exact (vecOk_true hok).1
    clear hok hxl
    go_enter Try.func80, Try.ntmps80
    go_wp2_with fail
    refine HV.out.mono ?_
    rintro e w1 ⟨rfl, rfl⟩
    go_wp2_with fail
    refine HD.out.mono ?_
    rintro e w2 ⟨B, cr, rfl, hown, hb2⟩
    go_wp2
    go_ret2
    exact ⟨B, n, cr, rfl, hown, by omega, hb2⟩
end Go.Proofs.Ytokeejachclpeaa
