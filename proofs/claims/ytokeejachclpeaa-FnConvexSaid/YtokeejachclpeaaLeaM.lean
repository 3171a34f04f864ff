/-
  Walks: the least of two vectors.
  Walks: the greatest of two vectors.
-/
import Derived.Test.YtokeejachclpeaaCore
namespace Go.Proofs.Ytokeejachclpeaa
open Go.RowKit

def pairOk (x y : List Int) : Bool := vecOk 1000 x && (vecOk 1000 y && decide ((x.length : Int) = (y.length : Int)))
def leastL (x y : List Int) : List Int := if pairOk x y then List.zipWith mn x y else []
theorem zip_gv {x y : List Int} {k : Nat} (hx : k < x.length) (hy : k < y.length) : (List.zipWith mn x y).take (k + 1) = (List.zipWith mn x y).take k ++ [mn (gv x k) (gv y k)] := by
  have hl : k < (List.zipWith mn x y).length := by simp; omega
  rw [take_gv hl, gv_get hl, gv_get hx, gv_get hy]; simp

theorem l7Fit_any (A A' : Option Addr) (n c m c' : Nat) (x y : List Int) (w : World) (hx : Ints w A n x) (hy : Ints w A' m y) :
    Calls Try.prog 183 #[.slice A n c, .slice A' m c'] w fun e w' => e = .returned (.bool (pairOk x y)) ∧ w = w' := by
  have hnl := hide hx.len
  have hml := hide hy.len
  unfold pairOk
  cases h1 : vecOk 1000 x
  · go_enter Try.func183, Try.ntmps183
    go_wp2_with (go_at_call 175; refine (l7Vector_any _ _ _ x _ hx).mono ?_; rintro e w' ⟨rfl, rfl⟩)
    go_ret
    exact ⟨rfl, rfl⟩
  cases h2 : vecOk 1000 y
  · go_enter Try.func183, Try.ntmps183
    go_wp2_with fail
    refine (l7Vector_any _ _ _ x _ hx).mono ?_
    rintro e w' ⟨rfl, rfl⟩
    go_wp2_with fail
    refine (l7Vector_any _ _ _ y _ hy).mono ?_
    rintro e w' ⟨rfl, rfl⟩
    go_wp2
    go_ret
    exact ⟨rfl, rfl⟩
  · go_enter Try.func183, Try.ntmps183
    go_wp2_with fail
    refine (l7Vector_any _ _ _ x _ hx).mono ?_
    rintro e w' ⟨rfl, rfl⟩
    go_wp2_with fail
    refine (l7Vector_any _ _ _ y _ hy).mono ?_
    rintro e w' ⟨rfl, rfl⟩
    go_wp2
    go_ret
    exact ⟨ret_bool (by rw [hnl.out, hml.out, Bool.eq_iff_iff]; simp), rfl⟩
set_option maxHeartbeats 1000000 in
theorem specLeastVector_any (A : Option Addr) (n c : Nat) (x : List Int) (A' : Option Addr) (m c' : Nat) (y : List Int) (w : World) (hx : Ints w A n x) (hy : Ints w A' m y) :
    Calls Try.prog 76 #[.slice A n c, .slice A' m c'] w fun e w' => ∃ B r cr, e = .returned (.tuple #[.slice B r cr, .bool (pairOk x y)]) ∧ Own w' w.heap.size B r cr (leastL x y) ∧ r ≤ 1048576 ∧ Below w.heap.size w w' := by
  have hnl := hide hx.len
  have hml := hide hy.len
  have hle := hx.le
  cases hok : pairOk x y
  · have e0 : leastL x y = [] := by simp [leastL, hok]
    rw [e0]; clear e0
    have ho := own_none w
    go_enter Try.func76, Try.ntmps76
    go_wp2
    go_loop [6, 7] (fun v i => v = .slice (some ⟨w.heap.size, 0, none⟩) 0 0 ∧ i = .int .i64 0) (fun _ _ => 0)
    case atStart => exact ⟨rfl, rfl⟩
    case round =>
      obtain ⟨rfl, rfl⟩ := hrel
      by_cases h0 : 0 < n
      · go_wp2_with fail
        refine (l7Fit_any _ _ _ _ _ _ x y _ (hx.alloc _) (hy.alloc _)).mono ?_
        rintro e w' ⟨rfl, rfl⟩
        rw [hok]
        go_wp2_with fail
        refine (l7Fit_any _ _ _ _ _ _ x y _ (hx.alloc _) (hy.alloc _)).mono ?_
        rintro e w' ⟨rfl, rfl⟩
        rw [hok]
        go_wp2
        go_ret2
        exact ⟨_, 0, 0, rfl, ho, by omega, (Below.refl _ _).alloc (Nat.le_refl _) _⟩
      · obtain rfl : n = 0 := by omega
        go_wp2_with fail
        refine (l7Fit_any _ _ _ _ _ _ x y _ (hx.alloc _) (hy.alloc _)).mono ?_
        rintro e w' ⟨rfl, rfl⟩
        rw [hok]
        go_wp2
        go_ret2
        exact ⟨_, 0, 0, rfl, ho, by omega, (Below.refl _ _).alloc (Nat.le_refl _) _⟩
  · have Hok := hide hok
    have e0 : leastL x y = List.zipWith mn x y := by simp [leastL, hok]
    rw [e0]; clear e0
    have hn5 : n ≤ 5 := by
      have := hok
      simp [pairOk] at this
      have := (vecOk_true this.1).1
      rw [hnl.out] at this; exact this
    have hnm : n = m := by
      have := hok
      simp [pairOk] at this
      rw [← hnl.out, ← hml.out]; omega
    subst hnm
    have hzl := hide (show (List.zipWith mn x y).length = n by simp [hnl.out, hml.out])
    clear hok
    go_enter Try.func76, Try.ntmps76
    go_wp2
    go_loopw [6, 7] (fun v i wr => ∃ (k : Nat) (B : Option Addr) (cr : Nat), k ≤ n ∧ i = .int .i64 k ∧ v = .slice B k cr ∧ Own wr w.heap.size B k cr ((List.zipWith mn x y).take k) ∧ Below w.heap.size w wr) (fun _ i _ => n - (intOf i).toNat)
    case atStart => exact ⟨0, _, 0, Nat.zero_le _, rfl, rfl, own_none w, (Below.refl _ _).alloc (Nat.le_refl _) _⟩
    case round =>
      obtain ⟨k, B, cr, hk, rfl, rfl, hown, hbel⟩ := hrel
      have hF := hide (l7Fit_any A A' n c n c' x y wr (hx.below hbel (Nat.le_refl _)) (hy.below hbel (Nat.le_refl _)))
      by_cases hlt : k < n
      · obtain ⟨b, off, rfl, hb, hc⟩ := hx.at_ hlt
        obtain ⟨b', off', rfl, hb', hc'⟩ := hy.at_ hlt
        have c1 : wr.cell? ⟨b, off + k, none⟩ = some (.int .i64 (gv x k)) := (hbel.cell (p := ⟨b, off + k, none⟩) hb).trans hc
        have c2 : wr.cell? ⟨b', off' + k, none⟩ = some (.int .i64 (gv y k)) := (hbel.cell (p := ⟨b', off' + k, none⟩) hb').trans hc'
        have i1 : (0 : Int) ≤ (k : Int) := by omega
        have i2 : (k : Int) < (n : Int) := by omega
        have hbr : b < wr.heap.size := Nat.lt_of_lt_of_le hb hbel.size
        have hbr' : b' < wr.heap.size := Nat.lt_of_lt_of_le hb' hbel.size
        have hst := hide (zip_gv (x := x) (y := y) (k := k) (by rw [hnl.out]; exact hlt) (by rw [hml.out]; exact hlt))
        have HB := hide hbel; clear hbel
        clear hc hc'
        have hsz := HB.out.size
        go_wp2_with fail
        refine hF.out.mono ?_
        rintro e w' ⟨rfl, rfl⟩
        rw [Hok.out]
        have hm : (if gv y k < gv x k then gv y k else gv x k) = mn (gv x k) (gv y k) := rfl
        go_wp2
        go_region_held3 (fun w' => w'.cell? ⟨b, off + k, none⟩ = some (.int .i64 (gv x k)) ∧ w'.cell? ⟨b', off' + k, none⟩ = some (.int .i64 (gv y k)))
          (first
            | go_keep
            | exact ⟨app_keep hown hgrow rfl hb hbr c1, app_keep hown hgrow rfl hb' hbr' c2⟩)
          (first
            | (refine step_app (by rfl) _ _ (by rfl) w.heap.size B k cr wr.heap.size ((List.zipWith mn x y).take k) (mn (gv x k) (gv y k)) (by rfl) (by rfl) (hown.alloc _) (cell_new wr _) (by omega) (by simp; omega) ?_; intro g cap w1 hown1 hgrow hat hlt1))
        go_wp2
        go_roundw
        case rel => exact ⟨k + 1, _, cap, by omega, by go_num, rfl, by rw [hst.out]; exact hown1, app_below HB.out HB.out.size hown hgrow (Below.refl _ _).drew⟩
        case measure => simp [intOf]; omega
      · obtain rfl : k = n := by omega
        have ez := hide (show (List.zipWith mn x y).take k = List.zipWith mn x y by rw [List.take_of_length_le (by rw [hzl.out]; omega)])
        rw [ez.out] at hown
        go_wp2_with fail
        refine hF.out.mono ?_
        rintro e w' ⟨rfl, rfl⟩
        rw [Hok.out]
        go_wp2
        go_ret2
        exact ⟨B, k, cr, rfl, hown, by omega, hbel⟩
theorem leastFn_any (a b : Int) (w : World) : Calls Try.prog 190 #[.int .i64 a, .int .i64 b] w fun e w' => e = .returned (.int .i64 (mn a b)) ∧ w = w' := by
  have hm : (if b < a then b else a) = mn a b := rfl
  go_enter Try.func190, Try.ntmps190
  go_wp2
  all_goals go_ret
  all_goals exact ⟨rfl, rfl⟩
set_option maxHeartbeats 1000000 in
theorem combinedLeast_any (A A' : Option Addr) (n c m c' : Nat) (x y : List Int) (w : World) (hx : Ints w A n x) (hy : Ints w A' m y) :
    Calls Try.prog 189 #[.slice A n c, .slice A' m c', .func (.func 190) #[] #[]] w fun e w' => ∃ B r cr, e = .returned (.tuple #[.slice B r cr, .bool (pairOk x y)]) ∧ Own w' w.heap.size B r cr (leastL x y) ∧ r ≤ 1048576 ∧ Below w.heap.size w w' := by
  have hnl := hide hx.len
  have hml := hide hy.len
  have hle := hx.le
  cases hok : pairOk x y
  · have e0 : leastL x y = [] := by simp [leastL, hok]
    rw [e0]; clear e0
    cases h1 : vecOk 1000 x
    · go_enter Try.func189, Try.ntmps189
      go_wp2_with fail
      refine (isVector_any _ _ _ x _ hx).mono ?_
      rintro e w' ⟨rfl, rfl⟩
      rw [h1]
      go_wp2
      go_ret2
      exact ⟨none, 0, 0, rfl, own_nil _ _, by omega, Below.refl _ _⟩
    cases h2 : vecOk 1000 y
    · go_enter Try.func189, Try.ntmps189
      go_wp2_with fail
      refine (isVector_any _ _ _ x _ hx).mono ?_
      rintro e w' ⟨rfl, rfl⟩
      rw [h1]
      go_wp2_with fail
      refine (isVector_any _ _ _ y _ hy).mono ?_
      rintro e w' ⟨rfl, rfl⟩
      rw [h2]
      go_wp2
      go_ret2
      exact ⟨none, 0, 0, rfl, own_nil _ _, by omega, Below.refl _ _⟩
    · have h3 : ((n : Int) != (m : Int)) = true := by
        simp [pairOk, h1, h2, hnl.out, hml.out] at hok
        simp; omega
      go_enter Try.func189, Try.ntmps189
      go_wp2_with fail
      refine (isVector_any _ _ _ x _ hx).mono ?_
      rintro e w' ⟨rfl, rfl⟩
      rw [h1]
      go_wp2_with fail
      refine (isVector_any _ _ _ y _ hy).mono ?_
      rintro e w' ⟨rfl, rfl⟩
      rw [h2]
      go_wp2
      go_ret2
      exact ⟨none, 0, 0, rfl, own_nil _ _, by omega, Below.refl _ _⟩
  · have Hok := hide hok
    have e0 : leastL x y = List.zipWith mn x y := by simp [leastL, hok]
    rw [e0]; clear e0
    simp [pairOk] at hok
    obtain ⟨h1, h2, h3⟩ := hok
    have hn5 : n ≤ 5 := by
      have := (vecOk_true h1).1
      rw [hnl.out] at this; exact this
    have hnm : n = m := by rw [← hnl.out, ← hml.out]; omega
    subst hnm
    have hzl := hide (show (List.zipWith mn x y).length = n by simp [hnl.out, hml.out])
    have H1 := hide h1
    have H2 := hide h2
    clear h1 h2 h3
    have hmk := fun W => make_ints n (by omega) W
    go_enter Try.func189, Try.ntmps189
    go_wp2_with fail
    refine (isVector_any _ _ _ x _ hx).mono ?_
    rintro e w' ⟨rfl, rfl⟩
    rw [H1.out]
    go_wp2_with fail
    refine (isVector_any _ _ _ y _ hy).mono ?_
    rintro e w' ⟨rfl, rfl⟩
    rw [H2.out]
    go_wp2
    go_loopw [30] (fun i wr => ∃ (k : Nat) (zs : List Int), k ≤ n ∧ i = .int .i64 k ∧ Own wr w.heap.size (some ⟨w.heap.size, 0, none⟩) n n zs ∧ zs.take k = (List.zipWith mn x y).take k ∧ Below w.heap.size w wr) (fun i _ => n - (intOf i).toNat)
    case atStart => exact ⟨0, _, Nat.zero_le _, rfl, own_made n (by omega) w (Nat.le_refl _), rfl, (Below.refl _ _).alloc (Nat.le_refl _) _⟩
    case round =>
      obtain ⟨k, zs, hk, rfl, hown, htake, hbel⟩ := hrel
      have Ht := hide htake; clear htake
      have hzsl := hide hown.len
      by_cases hlt : k < n
      · obtain ⟨b, off, rfl, hb, hc⟩ := hx.at_ hlt
        obtain ⟨b', off', rfl, hb', hc'⟩ := hy.at_ hlt
        have c1 : wr.cell? ⟨b, off + k, none⟩ = some (.int .i64 (gv x k)) := (hbel.cell (p := ⟨b, off + k, none⟩) hb).trans hc
        have c2 : wr.cell? ⟨b', off' + k, none⟩ = some (.int .i64 (gv y k)) := (hbel.cell (p := ⟨b', off' + k, none⟩) hb').trans hc'
        have c3 := hown.cell hlt
        have c4 := hown.frozen k
        have i1 : (0 : Int) ≤ (k : Int) := by omega
        have i2 : (k : Int) < (n : Int) := by omega
        have hnb : w.heap.size ≠ b := by omega
        have hnb' : w.heap.size ≠ b' := by omega
        have hst := hide (zip_gv (x := x) (y := y) (k := k) (by rw [hnl.out]; exact hlt) (by rw [hml.out]; exact hlt))
        have HB := hide hbel; clear hbel
        clear hc hc'
        go_wp2
        go_region_held3 (fun w' => w'.cell? ⟨b, off + k, none⟩ = some (.int .i64 (gv x k)) ∧ w'.cell? ⟨b', off' + k, none⟩ = some (.int .i64 (gv y k)))
          (first
            | go_keep)
          (first
            | (go_at_call 190; refine (leastFn_any _ _ _).mono ?_; rintro e w' ⟨rfl, rfl⟩))
        go_wp2
        go_roundw
        case rel => exact ⟨k + 1, zs.set k (mn (gv x k) (gv y k)), by omega, by go_num, hown.set_ k _, by rw [hst.out]; exact take_set_snoc (by rw [hzsl.out]; exact hlt) Ht.out, (HB.out.setCell (p := ⟨w.heap.size, k, none⟩) (Nat.le_refl _) _).drew⟩
        case measure => simp [intOf]; omega
      · obtain rfl : k = n := by omega
        have ez := hide (show zs = List.zipWith mn x y by have := Ht.out; rwa [List.take_of_length_le (by rw [hzsl.out]; omega), List.take_of_length_le (by rw [hzl.out]; omega)] at this)
        rw [ez.out] at hown
        go_wp2
        go_ret2
        exact ⟨_, k, k, rfl, hown, by omega, hbel⟩
theorem leastVector_any (A : Option Addr) (n c : Nat) (x : List Int) (A' : Option Addr) (m c' : Nat) (y : List Int) (w : World) (hx : Ints w A n x) (hy : Ints w A' m y) :
    Calls Try.prog 75 #[.slice A n c, .slice A' m c'] w fun e w' => ∃ B r cr, e = .returned (.tuple #[.slice B r cr, .bool (pairOk x y)]) ∧ Own w' w.heap.size B r cr (leastL x y) ∧ r ≤ 1048576 ∧ Below w.heap.size w w' := by
  go_enter Try.func75, Try.ntmps75
  go_wp2_with fail
  refine (combinedLeast_any _ _ _ _ _ _ x y _ hx hy).mono ?_
  rintro e w1 ⟨B, r, cr, rfl, hown, hr, hbel⟩
  go_wp2
  go_ret2
  exact ⟨B, r, cr, rfl, hown, hr, hbel⟩
end Go.Proofs.Ytokeejachclpeaa
namespace Go.Proofs.Ytokeejachclpeaa
open Go.RowKit

def greatL (x y : List Int) : List Int := if pairOk x y then List.zipWith mx x y else []
theorem zipx_gv {x y : List Int} {k : Nat} (hx : k < x.length) (hy : k < y.length) : (List.zipWith mx x y).take (k + 1) = (List.zipWith mx x y).take k ++ [mx (gv x k) (gv y k)] := by
  have hl : k < (List.zipWith mx x y).length := by simp; omega
  rw [take_gv hl, gv_get hl, gv_get hx, gv_get hy]; simp

set_option maxHeartbeats 1000000 in
theorem specGreatestVector_any (A : Option Addr) (n c : Nat) (x : List Int) (A' : Option Addr) (m c' : Nat) (y : List Int) (w : World) (hx : Ints w A n x) (hy : Ints w A' m y) :
    Calls Try.prog 78 #[.slice A n c, .slice A' m c'] w fun e w' => ∃ B r cr, e = .returned (.tuple #[.slice B r cr, .bool (pairOk x y)]) ∧ Own w' w.heap.size B r cr (greatL x y) ∧ r ≤ 1048576 ∧ Below w.heap.size w w' := by
  have hnl := hide hx.len
  have hml := hide hy.len
  have hle := hx.le
  cases hok : pairOk x y
  · have e0 : greatL x y = [] := by simp [greatL, hok]
    rw [e0]; clear e0
    have ho := own_none w
    go_enter Try.func78, Try.ntmps78
    go_wp2
    go_loop [6, 7] (fun v i => v = .slice (some ⟨w.heap.size, 0, none⟩) 0 0 ∧ i = .int .i64 0) (fun _ _ => 0)
    case atStart => exact ⟨rfl, rfl⟩
    case round =>
      obtain ⟨rfl, rfl⟩ := hrel
      by_cases h0 : 0 < n
      · go_wp2_with fail
        refine (l7Fit_any _ _ _ _ _ _ x y _ (hx.alloc _) (hy.alloc _)).mono ?_
        rintro e w' ⟨rfl, rfl⟩
        rw [hok]
        go_wp2_with fail
        refine (l7Fit_any _ _ _ _ _ _ x y _ (hx.alloc _) (hy.alloc _)).mono ?_
        rintro e w' ⟨rfl, rfl⟩
        rw [hok]
        go_wp2
        go_ret2
        exact ⟨_, 0, 0, rfl, ho, by omega, (Below.refl _ _).alloc (Nat.le_refl _) _⟩
      · obtain rfl : n = 0 := by omega
        go_wp2_with fail
        refine (l7Fit_any _ _ _ _ _ _ x y _ (hx.alloc _) (hy.alloc _)).mono ?_
        rintro e w' ⟨rfl, rfl⟩
        rw [hok]
        go_wp2
        go_ret2
        exact ⟨_, 0, 0, rfl, ho, by omega, (Below.refl _ _).alloc (Nat.le_refl _) _⟩
  · have Hok := hide hok
    have e0 : greatL x y = List.zipWith mx x y := by simp [greatL, hok]
    rw [e0]; clear e0
    have hn5 : n ≤ 5 := by
      have := hok
      simp [pairOk] at this
      have := (vecOk_true this.1).1
      rw [hnl.out] at this; exact this
    have hnm : n = m := by
      have := hok
      simp [pairOk] at this
      rw [← hnl.out, ← hml.out]; omega
    subst hnm
    have hzl := hide (show (List.zipWith mx x y).length = n by simp [hnl.out, hml.out])
    clear hok
    go_enter Try.func78, Try.ntmps78
    go_wp2
    go_loopw [6, 7] (fun v i wr => ∃ (k : Nat) (B : Option Addr) (cr : Nat), k ≤ n ∧ i = .int .i64 k ∧ v = .slice B k cr ∧ Own wr w.heap.size B k cr ((List.zipWith mx x y).take k) ∧ Below w.heap.size w wr) (fun _ i _ => n - (intOf i).toNat)
    case atStart => exact ⟨0, _, 0, Nat.zero_le _, rfl, rfl, own_none w, (Below.refl _ _).alloc (Nat.le_refl _) _⟩
    case round =>
      obtain ⟨k, B, cr, hk, rfl, rfl, hown, hbel⟩ := hrel
      have hF := hide (l7Fit_any A A' n c n c' x y wr (hx.below hbel (Nat.le_refl _)) (hy.below hbel (Nat.le_refl _)))
      by_cases hlt : k < n
      · obtain ⟨b, off, rfl, hb, hc⟩ := hx.at_ hlt
        obtain ⟨b', off', rfl, hb', hc'⟩ := hy.at_ hlt
        have c1 : wr.cell? ⟨b, off + k, none⟩ = some (.int .i64 (gv x k)) := (hbel.cell (p := ⟨b, off + k, none⟩) hb).trans hc
        have c2 : wr.cell? ⟨b', off' + k, none⟩ = some (.int .i64 (gv y k)) := (hbel.cell (p := ⟨b', off' + k, none⟩) hb').trans hc'
        have i1 : (0 : Int) ≤ (k : Int) := by omega
        have i2 : (k : Int) < (n : Int) := by omega
        have hbr : b < wr.heap.size := Nat.lt_of_lt_of_le hb hbel.size
        have hbr' : b' < wr.heap.size := Nat.lt_of_lt_of_le hb' hbel.size
        have hst := hide (zipx_gv (x := x) (y := y) (k := k) (by rw [hnl.out]; exact hlt) (by rw [hml.out]; exact hlt))
        have HB := hide hbel; clear hbel
        clear hc hc'
        have hsz := HB.out.size
        go_wp2_with fail
        refine hF.out.mono ?_
        rintro e w' ⟨rfl, rfl⟩
        rw [Hok.out]
        have hm : (if gv x k < gv y k then gv y k else gv x k) = mx (gv x k) (gv y k) := rfl
        go_wp2
        go_region_held3 (fun w' => w'.cell? ⟨b, off + k, none⟩ = some (.int .i64 (gv x k)) ∧ w'.cell? ⟨b', off' + k, none⟩ = some (.int .i64 (gv y k)))
          (first
            | go_keep
            | exact ⟨app_keep hown hgrow rfl hb hbr c1, app_keep hown hgrow rfl hb' hbr' c2⟩)
          (first
            | (refine step_app (by rfl) _ _ (by rfl) w.heap.size B k cr wr.heap.size ((List.zipWith mx x y).take k) (mx (gv x k) (gv y k)) (by rfl) (by rfl) (hown.alloc _) (cell_new wr _) (by omega) (by simp; omega) ?_; intro g cap w1 hown1 hgrow hat hlt1))
        go_wp2
        go_roundw
        case rel => exact ⟨k + 1, _, cap, by omega, by go_num, rfl, by rw [hst.out]; exact hown1, app_below HB.out HB.out.size hown hgrow (Below.refl _ _).drew⟩
        case measure => simp [intOf]; omega
      · obtain rfl : k = n := by omega
        have ez := hide (show (List.zipWith mx x y).take k = List.zipWith mx x y by rw [List.take_of_length_le (by rw [hzl.out]; omega)])
        rw [ez.out] at hown
        go_wp2_with fail
        refine hF.out.mono ?_
        rintro e w' ⟨rfl, rfl⟩
        rw [Hok.out]
        go_wp2
        go_ret2
        exact ⟨B, k, cr, rfl, hown, by omega, hbel⟩
theorem greatFn_any (a b : Int) (w : World) : Calls Try.prog 191 #[.int .i64 a, .int .i64 b] w fun e w' => e = .returned (.int .i64 (mx a b)) ∧ w = w' := by
  have hm : (if a < b then b else a) = mx a b := rfl
  go_enter Try.func191, Try.ntmps191
  go_wp2
  all_goals go_ret
  all_goals exact ⟨rfl, rfl⟩
set_option maxHeartbeats 1000000 in
theorem combinedGreat_any (A A' : Option Addr) (n c m c' : Nat) (x y : List Int) (w : World) (hx : Ints w A n x) (hy : Ints w A' m y) :
    Calls Try.prog 189 #[.slice A n c, .slice A' m c', .func (.func 191) #[] #[]] w fun e w' => ∃ B r cr, e = .returned (.tuple #[.slice B r cr, .bool (pairOk x y)]) ∧ Own w' w.heap.size B r cr (greatL x y) ∧ r ≤ 1048576 ∧ Below w.heap.size w w' := by
  have hnl := hide hx.len
  have hml := hide hy.len
  have hle := hx.le
  cases hok : pairOk x y
  · have e0 : greatL x y = [] := by simp [greatL, hok]
    rw [e0]; clear e0
    cases h1 : vecOk 1000 x
    · go_enter Try.func189, Try.ntmps189
      go_wp2_with fail
      refine (isVector_any _ _ _ x _ hx).mono ?_
      rintro e w' ⟨rfl, rfl⟩
      rw [h1]
      go_wp2
      go_ret2
      exact ⟨none, 0, 0, rfl, own_nil _ _, by omega, Below.refl _ _⟩
    cases h2 : vecOk 1000 y
    · go_enter Try.func189, Try.ntmps189
      go_wp2_with fail
      refine (isVector_any _ _ _ x _ hx).mono ?_
      rintro e w' ⟨rfl, rfl⟩
      rw [h1]
      go_wp2_with fail
      refine (isVector_any _ _ _ y _ hy).mono ?_
      rintro e w' ⟨rfl, rfl⟩
      rw [h2]
      go_wp2
      go_ret2
      exact ⟨none, 0, 0, rfl, own_nil _ _, by omega, Below.refl _ _⟩
    · have h3 : ((n : Int) != (m : Int)) = true := by
        simp [pairOk, h1, h2, hnl.out, hml.out] at hok
        simp; omega
      go_enter Try.func189, Try.ntmps189
      go_wp2_with fail
      refine (isVector_any _ _ _ x _ hx).mono ?_
      rintro e w' ⟨rfl, rfl⟩
      rw [h1]
      go_wp2_with fail
      refine (isVector_any _ _ _ y _ hy).mono ?_
      rintro e w' ⟨rfl, rfl⟩
      rw [h2]
      go_wp2
      go_ret2
      exact ⟨none, 0, 0, rfl, own_nil _ _, by omega, Below.refl _ _⟩
  · have Hok := hide hok
    have e0 : greatL x y = List.zipWith mx x y := by simp [greatL, hok]
    rw [e0]; clear e0
    simp [pairOk] at hok
    obtain ⟨h1, h2, h3⟩ := hok
    have hn5 : n ≤ 5 := by
      have := (vecOk_true h1).1
      rw [hnl.out] at this; exact this
    have hnm : n = m := by rw [← hnl.out, ← hml.out]; omega
    subst hnm
    have hzl := hide (show (List.zipWith mx x y).length = n by simp [hnl.out, hml.out])
    have H1 := hide h1
    have H2 := hide h2
    clear h1 h2 h3
    have hmk := fun W => make_ints n (by omega) W
    go_enter Try.func189, Try.ntmps189
    go_wp2_with fail
    refine (isVector_any _ _ _ x _ hx).mono ?_
    rintro e w' ⟨rfl, rfl⟩
    rw [H1.out]
    go_wp2_with fail
    refine (isVector_any _ _ _ y _ hy).mono ?_
    rintro e w' ⟨rfl, rfl⟩
    rw [H2.out]
    go_wp2
    go_loopw [30] (fun i wr => ∃ (k : Nat) (zs : List Int), k ≤ n ∧ i = .int .i64 k ∧ Own wr w.heap.size (some ⟨w.heap.size, 0, none⟩) n n zs ∧ zs.take k = (List.zipWith mx x y).take k ∧ Below w.heap.size w wr) (fun i _ => n - (intOf i).toNat)
    case atStart => exact ⟨0, _, Nat.zero_le _, rfl, own_made n (by omega) w (Nat.le_refl _), rfl, (Below.refl _ _).alloc (Nat.le_refl _) _⟩
    case round =>
      obtain ⟨k, zs, hk, rfl, hown, htake, hbel⟩ := hrel
      have Ht := hide htake; clear htake
      have hzsl := hide hown.len
      by_cases hlt : k < n
      · obtain ⟨b, off, rfl, hb, hc⟩ := hx.at_ hlt
        obtain ⟨b', off', rfl, hb', hc'⟩ := hy.at_ hlt
        have c1 : wr.cell? ⟨b, off + k, none⟩ = some (.int .i64 (gv x k)) := (hbel.cell (p := ⟨b, off + k, none⟩) hb).trans hc
        have c2 : wr.cell? ⟨b', off' + k, none⟩ = some (.int .i64 (gv y k)) := (hbel.cell (p := ⟨b', off' + k, none⟩) hb').trans hc'
        have c3 := hown.cell hlt
        have c4 := hown.frozen k
        have i1 : (0 : Int) ≤ (k : Int) := by omega
        have i2 : (k : Int) < (n : Int) := by omega
        have hnb : w.heap.size ≠ b := by omega
        have hnb' : w.heap.size ≠ b' := by omega
        have hst := hide (zipx_gv (x := x) (y := y) (k := k) (by rw [hnl.out]; exact hlt) (by rw [hml.out]; exact hlt))
        have HB := hide hbel; clear hbel
        clear hc hc'
        go_wp2
        go_region_held3 (fun w' => w'.cell? ⟨b, off + k, none⟩ = some (.int .i64 (gv x k)) ∧ w'.cell? ⟨b', off' + k, none⟩ = some (.int .i64 (gv y k)))
          (first
            | go_keep)
          (first
            | (go_at_call 191; refine (greatFn_any _ _ _).mono ?_; rintro e w' ⟨rfl, rfl⟩))
        go_wp2
        go_roundw
        case rel => exact ⟨k + 1, zs.set k (mx (gv x k) (gv y k)), by omega, by go_num, hown.set_ k _, by rw [hst.out]; exact take_set_snoc (by rw [hzsl.out]; exact hlt) Ht.out, (HB.out.setCell (p := ⟨w.heap.size, k, none⟩) (Nat.le_refl _) _).drew⟩
        case measure => simp [intOf]; omega
      · obtain rfl : k = n := by omega
        have ez := hide (show zs = List.zipWith mx x y by have := Ht.out; rwa [List.take_of_length_le (by rw [hzsl.out]; omega), List.take_of_length_le (by rw [hzl.out]; omega)] at this)
        rw [ez.out] at hown
        go_wp2
        go_ret2
        exact ⟨_, k, k, rfl, hown, by omega, hbel⟩
theorem greatestVector_any (A : Option Addr) (n c : Nat) (x : List Int) (A' : Option Addr) (m c' : Nat) (y : List Int) (w : World) (hx : Ints w A n x) (hy : Ints w A' m y) :
    Calls Try.prog 77 #[.slice A n c, .slice A' m c'] w fun e w' => ∃ B r cr, e = .returned (.tuple #[.slice B r cr, .bool (pairOk x y)]) ∧ Own w' w.heap.size B r cr (greatL x y) ∧ r ≤ 1048576 ∧ Below w.heap.size w w' := by
  go_enter Try.func77, Try.ntmps77
  go_wp2_with fail
  refine (combinedGreat_any _ _ _ _ _ _ x y _ hx hy).mono ?_
  rintro e w1 ⟨B, r, cr, rfl, hown, hr, hbel⟩
  go_wp2
  go_ret2
  exact ⟨B, r, cr, rfl, hown, hr, hbel⟩
end Go.Proofs.Ytokeejachclpeaa
