/-
  Walks: a set as a vector; pairings.
-/
import Derived.Test.YtokeejachclpeaaMerge
import Derived.Test.YtokeejachclpeaaLinM
import Derived.Test.YtokeejachclpeaaLeaM
import Derived.Test.YtokeejachclpeaaBrExt
import Derived.Test.YtokeejachclpeaaLawW
namespace Go.Proofs.Ytokeejachclpeaa
open Go.RowKit

/-- A row of zeros, with ones at the first k numbers of a list. -/
def fillT (N : Nat) (L : List Int) : Nat → List Int
  | 0 => List.replicate N 0
  | k + 1 => (fillT N L k).set (gv L k).toNat 1
theorem fillT_len (N : Nat) (L : List Int) : ∀ k, (fillT N L k).length = N
  | 0 => by simp [fillT]
  | k + 1 => by unfold fillT; rw [List.length_set]; exact fillT_len N L k
theorem fill_ind : ∀ N : Fin 6, ∀ s : Fin 32, s.val < 2 ^ N.val → fillT N.val (eltL s.val) (eltL s.val).length = indL N.val s.val := by decide +kernel
theorem elt_lt : ∀ N : Fin 6, ∀ s : Fin 32, s.val < 2 ^ N.val → ∀ k : Fin 5, k.val < (eltL s.val).length → 0 ≤ gv (eltL s.val) k.val ∧ gv (eltL s.val) k.val < (N.val : Int) := by decide +kernel
set_option maxHeartbeats 2000000 in
theorem indicatorOf_any (N s : Nat) (w : World) (hN : N ≤ 5) (hs : s < 2 ^ N) :
    Calls Try.prog 63 #[.int .i64 (N : Int), .int .i64 (s : Int)] w fun e w' => ∃ B r cr, e = .returned (.tuple #[.slice B r cr, .bool true]) ∧ Own w' w.heap.size B r cr (indL N s) ∧ r ≤ 1048576 ∧ Below w.heap.size w w' := by
  have hin : inR (N : Int) 0 5 = true := by simp [inR]; omega
  have h32 : 2 ^ N ≤ 32 := Nat.pow_le_pow_right (n := 2) (by omega) hN
  have hset : inR (s : Int) 0 (((p2 N : Nat) : Int) - 1) = true := by simp only [inR, decide_eq_true_eq]; unfold p2; omega
  have hs32 : s < 32 := by omega
  have hfill := hide (fill_ind ⟨N, by omega⟩ ⟨s, hs32⟩ hs)
  have helt := hide (fun k (hk : k < (eltL s).length) (h5 : k < 5) => elt_lt ⟨N, by omega⟩ ⟨s, hs32⟩ hs ⟨k, h5⟩ hk)
  have hmk := fun W => make_ints N (by omega) W
  have hOwn0 : Own (w.alloc (.cells (madeCells #[.int .i64 0] N) 3)) w.heap.size (some ⟨w.heap.size, 0, none⟩) N N (List.replicate N 0) := by
    simpa using own_made N (by omega) w (Nat.le_refl _)
  have hb0 := (Below.refl w.heap.size w).alloc (Nat.le_refl _) (.cells (madeCells #[.int .i64 0] N) 3)
  obtain ⟨w1, hw1⟩ : ∃ W, W = w.alloc (.cells (madeCells #[.int .i64 0] N) 3) := ⟨_, rfl⟩
  rw [← hw1] at hOwn0 hb0
  have hsz1 : w.heap.size < w1.heap.size := by rw [hw1]; simp
  have HW := hide hw1
  have HE := hide (elementsOf_any s w1 hs32)
  clear hw1 h32
  have Hset := hide hset
  have Hs := hide hs
  clear hset hs
  go_enter Try.func63, Try.ntmps63
  go_wp2_with fail
  refine (within_any _ _ _ _).mono ?_
  rintro e w' ⟨rfl, rfl⟩
  rw [hin]
  go_wp2_with fail
  refine (isSetOf_any N (s : Int) _ hN).mono ?_
  rintro e w2 ⟨rfl, rfl⟩
  rw [Hset.out]
  go_wp2_with fail
  rw [← HW.out]
  refine HE.out.mono ?_
  rintro e w3 ⟨B, r, cr, rfl, hE, hr5, hb3⟩
  have hO3 := hOwn0.below hb3 (Nat.le_refl _)
  have hB3 := hb0.trans (hb3.mono hb0.size)
  have hel := hide hE.len
  have hsz3 := hb3.size
  clear hOwn0 hb0 hb3 HE hmk
  go_wp2
  go_loopw [8, 23] (fun x t wr => ∃ (k : Nat) (y : Value), k ≤ r ∧ t = .int .i64 (k : Int) ∧ x = y ∧ Own wr w.heap.size (some ⟨w.heap.size, 0, none⟩) N N (fillT N (eltL s) k) ∧ Own wr w1.heap.size B r cr (eltL s) ∧ Below w.heap.size w wr) (fun _ t _ => r - (intOf t).toNat)
  case atStart => exact ⟨0, _, Nat.zero_le _, rfl, rfl, hO3, hE, hB3⟩
  clear hO3 hE hB3
  case round =>
    obtain ⟨k, y, hk, rfl, rfl, hO, hE, hbel⟩ := hrel
    by_cases hlt : k < r
    · obtain ⟨e1, e2⟩ := helt.out k (by rw [hel.out]; exact hlt) (by omega)
      obtain ⟨q, hq⟩ := Int.eq_ofNat_of_zero_le e1
      obtain ⟨gB, rfl, hgB1, hgB2⟩ := hE.form (by omega)
      have c1 := hE.cell hlt
      have hst := hide (show fillT N (eltL s) (k + 1) = (fillT N (eltL s) k).set (gv (eltL s) k).toNat 1 from rfl)
      rw [hq] at c1 e2 hst
      rw [Int.toNat_natCast] at hst
      have hqN : q < N := by omega
      have c2 := hO.cell hqN
      have f2 := hO.frozen q
      have i1 : (0 : Int) ≤ (q : Int) := by omega
      have i2 : (q : Int) < (N : Int) := by omega
      have i3 : (0 : Int) ≤ (k : Int) := by omega
      have i4 : (k : Int) < (r : Int) := by omega
      clear e1 e2 hq
      go_wp2
      go_roundw
      case rel => exact ⟨k + 1, _, by omega, by go_num, rfl, by rw [hst.out]; exact hO.set_ q _, hE.far (by intro g hA; injection hA with hA; injection hA with hA _; simp; omega) _, hbel.setCell (Nat.le_refl _) _⟩
      case measure => simp [intOf]; omega
    · obtain rfl : k = r := by omega
      go_wp2
      go_ret2
      exact ⟨_, N, _, rfl, by rw [← hfill.out, hel.out]; exact hO, by omega, hbel⟩
theorem pairingOf_any (A A' : Option Addr) (n c m c' : Nat) (x y : List Int) (w : World) (hx : Ints w A n x) (hy : Ints w A' m y) :
    Calls Try.prog 72 #[.slice A n c, .slice A' m c'] w fun e w' => e = .returned (.tuple #[.int .i64 (pairV x y), .bool (pairOk x y)]) ∧ Below w.heap.size w w' := by
  have hnl := hide hx.len
  have hml := hide hy.len
  have hn0 := hx.le
  have hm0 := hy.le
  cases h1 : vecOk 1000 x
  · have e1 : pairOk x y = false := by simp [pairOk, h1]
    have e2 : pairV x y = 0 := by simp [pairV, e1]
    rw [e1, e2]; clear e1 e2
    go_enter Try.func72, Try.ntmps72
    go_wp2_with fail
    refine (isVector_any _ _ _ x _ hx).mono ?_
    rintro e w' ⟨rfl, rfl⟩
    rw [h1]
    go_wp2
    go_ret2
    exact ⟨rfl, Below.refl _ _⟩
  cases h2 : vecOk 1000 y
  · have e1 : pairOk x y = false := by simp [pairOk, h2]
    have e2 : pairV x y = 0 := by simp [pairV, e1]
    rw [e1, e2]; clear e1 e2
    go_enter Try.func72, Try.ntmps72
    go_wp2_with fail
    refine (isVector_any _ _ _ x _ hx).mono ?_
    rintro e w' ⟨rfl, rfl⟩
    rw [h1]
    go_wp2_with fail
    refine (isVector_any _ _ _ y _ hy).mono ?_
    rintro e w' ⟨rfl, rfl⟩
    rw [h2]
    go_wp2
    go_ret2
    exact ⟨rfl, Below.refl _ _⟩
  by_cases hnm : n = m
  · subst hnm
    have e1 : pairOk x y = true := by simp [pairOk, h1, h2, hnl.out, hml.out]
    have e2 : pairV x y = prodT x y n := by simp [pairV, e1, hnl.out]
    rw [e1, e2]; clear e1 e2
    have hn5 : n ≤ 5 := by have := (vecOk_true h1).1; have := hnl.out; omega
    have HP := hide (product_any A A' n c c' x y w hx hy hn5 (fun j hj => vecOk_gv h1 (by rw [hnl.out]; exact hj)) (fun j hj => by have := vecOk_gv h2 (k := j) (by rw [hml.out]; exact hj); omega))
    have hne : ((n : Int) != (n : Int)) = false := by simp
    go_enter Try.func72, Try.ntmps72
    go_wp2_with fail
    refine (isVector_any _ _ _ x _ hx).mono ?_
    rintro e w' ⟨rfl, rfl⟩
    rw [h1]
    go_wp2_with fail
    refine (isVector_any _ _ _ y _ hy).mono ?_
    rintro e w' ⟨rfl, rfl⟩
    rw [h2]
    go_wp2_with fail
    refine HP.out.mono ?_
    rintro e w1 ⟨rfl, hb1⟩
    go_wp2
    go_ret2
    exact ⟨rfl, hb1⟩
  · have e1 : pairOk x y = false := by simp [pairOk, hnl.out, hml.out]; omega
    have e2 : pairV x y = 0 := by simp [pairV, e1]
    rw [e1, e2]; clear e1 e2
    have hne : ((n : Int) != (m : Int)) = true := by simp; omega
    clear hnm
    go_enter Try.func72, Try.ntmps72
    go_wp2_with fail
    refine (isVector_any _ _ _ x _ hx).mono ?_
    rintro e w' ⟨rfl, rfl⟩
    rw [h1]
    go_wp2_with fail
    refine (isVector_any _ _ _ y _ hy).mono ?_
    rintro e w' ⟨rfl, rfl⟩
    rw [h2]
    go_wp2
    go_ret2
    exact ⟨rfl, Below.refl _ _⟩
set_option maxHeartbeats 2000000 in
theorem specPairingOf_any (A A' : Option Addr) (n c m c' : Nat) (x y : List Int) (w : World) (hx : Ints w A n x) (hy : Ints w A' m y) :
    Calls Try.prog 83 #[.slice A n c, .slice A' m c'] w fun e w' => e = .returned (.tuple #[.int .i64 (pairV x y), .bool (pairOk x y)]) ∧ Below w.heap.size w w' := by
  have hnl := hide hx.len
  have hml := hide hy.len
  have HF := hide (fun W (h : Below w.heap.size w W) => l7Fit_any A A' n c m c' x y W (hx.below h (Nat.le_refl _)) (hy.below h (Nat.le_refl _)))
  have hle := hx.le
  cases hp : pairOk x y
  · have e2 : pairV x y = 0 := by simp [pairV, hp]
    rw [e2]; clear e2
    rw [hp] at HF
    clear hp
    go_enter Try.func83, Try.ntmps83
    go_wp2
    go_loopw [6, 7] (fun s t wr => s = .int .i64 0 ∧ t = .int .i64 0 ∧ wr = w) (fun _ _ _ => 0)
    case atStart => exact ⟨rfl, rfl, rfl⟩
    case round =>
      obtain ⟨rfl, rfl, rfl⟩ := hrel
      by_cases h0 : 0 < n
      · have i1 : (0 : Int) < (n : Int) := by omega
        go_wp2_with fail
        refine (HF.out _ (Below.refl _ _)).mono ?_
        rintro e w' ⟨rfl, rfl⟩
        go_wp2_with fail
        refine (HF.out _ (Below.refl _ _)).mono ?_
        rintro e w' ⟨rfl, rfl⟩
        go_wp2
        go_ret2
        exact ⟨rfl, Below.refl _ _⟩
      · have i1 : ¬ (0 : Int) < (n : Int) := by omega
        go_wp2_with fail
        refine (HF.out _ (Below.refl _ _)).mono ?_
        rintro e w' ⟨rfl, rfl⟩
        go_wp2
        go_ret2
        exact ⟨rfl, Below.refl _ _⟩
  · have hpp := hp
    simp only [pairOk, Bool.and_eq_true, decide_eq_true_eq] at hpp
    obtain ⟨h1, h2, h3⟩ := hpp
    have e2 : pairV x y = prodT x y n := by simp [pairV, hp, hnl.out]
    rw [e2]; clear e2
    have hn5 : n ≤ 5 := by have := (vecOk_true h1).1; have := hnl.out; omega
    have hmn : m = n := by have := hnl.out; have := hml.out; omega
    subst hmn
    rw [hp] at HF
    have bx : ∀ j, j < m → -1000 ≤ gv x j ∧ gv x j ≤ 1000 := fun j hj => vecOk_gv h1 (by rw [hnl.out]; exact hj)
    have by_ : ∀ j, j < m → -2000 ≤ gv y j ∧ gv y j ≤ 2000 := fun j hj => by have := vecOk_gv h2 (k := j) (by rw [hml.out]; exact hj); omega
    have HX := hide bx
    have HY := hide by_
    have HP := hide (fun k (hk : k ≤ m) => prodT_bd bx by_ k hk)
    clear bx by_ hp h1 h2 h3
    go_enter Try.func83, Try.ntmps83
    go_wp2
    go_loopw [6, 7] (fun s t wr => ∃ k : Nat, k ≤ m ∧ t = .int .i64 k ∧ s = .int .i64 (prodT x y k) ∧ Below w.heap.size w wr) (fun _ t _ => m - (intOf t).toNat)
    case atStart => exact ⟨0, Nat.zero_le _, rfl, rfl, Below.refl _ _⟩
    case round =>
      obtain ⟨k, hk, rfl, rfl, hbel⟩ := hrel
      have HFk := hide (HF.out wr hbel)
      by_cases hlt : k < m
      · obtain ⟨b, off, rfl, hb, hc⟩ := hx.at_ hlt
        obtain ⟨b', off', rfl, hb', hc'⟩ := hy.at_ hlt
        have c1 : wr.cell? ⟨b, off + k, none⟩ = some (.int .i64 (gv x k)) := (hbel.cell (p := ⟨b, off + k, none⟩) hb).trans hc
        have c2 : wr.cell? ⟨b', off' + k, none⟩ = some (.int .i64 (gv y k)) := (hbel.cell (p := ⟨b', off' + k, none⟩) hb').trans hc'
        clear hc hc'
        have q1 := HX.out k hlt
        have q2 := HY.out k hlt
        have q3 := mul_bd q1.1 q1.2 q2.1 q2.2
        have q4 := HP.out (k + 1) (by omega)
        have i1 : (0 : Int) ≤ (k : Int) := by omega
        have i2 : (k : Int) < (m : Int) := by omega
        have hs := hide (show prodT x y (k + 1) = prodT x y k + gv x k * gv y k from rfl)
        rw [hs.out] at q4
        have t1 : IntKind.i64.wrap (gv x k * gv y k) = gv x k * gv y k := IntWalk.i64_in _ (by omega)
        have t2 : IntKind.i64.wrap (prodT x y k + gv x k * gv y k) = prodT x y (k + 1) := by rw [hs.out]; exact IntWalk.i64_in _ (by omega)
        clear q3 q4
        go_wp2_with fail
        refine HFk.out.mono ?_
        rintro e w' ⟨rfl, rfl⟩
        go_wp2
        go_quiet (fail)
        clear t1 t2
        go_wp2
        go_roundw
        case rel => exact ⟨k + 1, by omega, by go_num, rfl, below_drewN hbel _⟩
        case measure => simp [intOf]; omega
      · obtain rfl : k = m := by omega
        have i2 : ¬ (k : Int) < (k : Int) := by omega
        go_wp2_with fail
        refine HFk.out.mono ?_
        rintro e w' ⟨rfl, rfl⟩
        go_wp2
        go_ret2
        exact ⟨rfl, hbel⟩
end Go.Proofs.Ytokeejachclpeaa
