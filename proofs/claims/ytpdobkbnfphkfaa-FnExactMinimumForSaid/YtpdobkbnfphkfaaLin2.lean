/-
  Walks: least pairings with bases.
-/
import Derived.Test.YtpdobkbnfphkfaaLin
namespace Go.Proofs.Ytpdobkbnfphkfaa
open Go.RowKit

def negL (x : List Int) : List Int := x.map fun a => -a
theorem negL_len (x : List Int) : (negL x).length = x.length := by simp [negL]
theorem negL_gv {x : List Int} {k : Nat} (h : k < x.length) : gv (negL x) k = - gv x k := by
  rw [gv_get (by rw [negL_len]; exact h), gv_get h]; simp [negL]
theorem neg_snoc {x : List Int} {k : Nat} (h : k < x.length) : (negL x).take (k + 1) = (negL x).take k ++ [- gv x k] := by
  rw [take_gv (by rw [negL_len]; exact h), negL_gv h]
theorem vec_neg {x : List Int} (h : vecOk 1000 x = true) : vecOk 1000 (negL x) = true := by
  simp only [vecOk, allIn, Bool.and_eq_true, decide_eq_true_eq, List.all_eq_true, negL_len] at *
  refine ⟨h.1, fun a ha => ?_⟩
  simp only [negL, List.mem_map] at ha
  obtain ⟨b, hb, rfl⟩ := ha
  have := inR_true (h.2 b hb)
  simp only [inR, decide_eq_true_eq]
  omega
theorem opt_neg {E : Int} {v x : List Int} (h : optB E v x = true) : optB E v (negL x) = true := by
  simp only [optB, Bool.and_eq_true, decide_eq_true_eq] at *
  exact ⟨h.1, h.2.1, vec_neg h.2.2.1, by rw [negL_len]; exact h.2.2.2⟩
theorem maxP_bd (E : Int) (v x : List Int) : -10000000 ≤ maxP E v x ∧ maxP E v x ≤ 10000000 := by
  unfold maxP
  split
  · rename_i ho
    obtain ⟨hf, hk, hl⟩ := opt_ok ho
    obtain ⟨N, rfl, hN, hl2, ha⟩ := isFn_true hf
    have fo : FnOk N v.length v := ⟨hN, hl2, rfl, ha⟩
    have hx : x.length = N := by omega
    have h := prodT_bd (x := x) (y := cornT N v (ordD x x.length) x.length) (n := x.length) (fun j hj => vecOk_gv hk hj) (fun j hj => by
      have h1 := cornT_bd fo (x := ordD x x.length) (by have := ordD_ok x x.length; rwa [hx] at this ⊢) x.length (by rw [ordD_len]; exact Nat.le_refl _) j (by omega)
      exact h1) x.length (Nat.le_refl _)
    rw [Int.toNat_natCast]
    omega
  · omega
def minP' (E : Int) (v x : List Int) : Int := if optB E v x then -(maxP E v (negL x)) else 0
def minL' (E : Int) (v x : List Int) : List Int := if optB E v x then maxL E v (negL x) else []
theorem make_05 (w : World) : (Instr.makeSlice 22 (.int .i64 0) (.int .i64 5)).run Try.prog w = .ok (.slice (some ⟨w.heap.size, 0, none⟩) 0 5) (w.alloc (.cells (madeCells #[.int .i64 0] 5) 3)) := by
  obtain ⟨i0, hi0, hz0, hz1, hz2⟩ := info_parts int_info
  have hr := run_make (P := Try.prog) w 22 3 i0 _ Try.underlying22 hi0 hz0 .i64 .i64 0 5 (by omega) (by omega) (by rw [hz2]; omega) (by omega)
  simp only [hz1, Nat.mul_one] at hr
  exact hr
theorem own_05 (w : World) {B : Nat} (hB : B ≤ w.heap.size) : Own (w.alloc (.cells (madeCells #[.int .i64 0] 5) 3)) B (some ⟨w.heap.size, 0, none⟩) 0 5 [] :=
  World.ownsRow_made (base := B) (e := 3) (size := 1) w (madeCells #[.int .i64 0] 5) 5 hB (by simp [maxLen]) (by simp [size_madeCells])
set_option maxHeartbeats 1000000 in
theorem minimumFor_any (E : Int) (A : Option Addr) (n c : Nat) (v : List Int) (A' : Option Addr) (m c' : Nat) (x : List Int) (w : World) (hv : Ints w A n v) (hx : Ints w A' m x) :
    Calls Try.prog 35 #[.agg #[.int .i64 E, .slice A n c], .slice A' m c'] w fun e w' => ∃ B r cr, e = .returned (.tuple #[.int .i64 (minP' E v x), .slice B r cr, .bool (optB E v x)]) ∧ Own w' w.heap.size B r cr (minL' E v x) ∧ r ≤ 1048576 ∧ Below w.heap.size w w' := by
  have hFs := FB.start w E A n c
  have hF0 := hFs.step ((Below.refl _ _).alloc (Nat.le_refl _) (.cells (madeCells #[.int .i64 0] 5) 3))
  obtain ⟨hbel0, hz0, r0, r1⟩ := hF0.parts
  have hO0 := own_05 (w := w.alloc (.cells #[.int .i64 E, .slice A n c] 28)) (B := w.heap.size + 1) (by simp)
  have z1 : (w.alloc (.cells #[.int .i64 E, .slice A n c] 28)).heap.size = w.heap.size + 1 := by simp
  rw [z1] at hO0
  clear hFs z1
  have hmk := fun W => make_05 W
  have hcall := canOptimize_any E A n c v A' m c' x _ (hv.below hbel0 (Nat.le_refl _)) (hx.below hbel0 (Nat.le_refl _))
  cases ho : optB E v x
  · have e1 : minL' E v x = [] := by simp [minL', ho]
    have e2 : minP' E v x = 0 := by simp [minP', ho]
    rw [e1, e2]; clear e1 e2
    rw [ho] at hcall
    have HC := hide hcall; clear hcall hO0
    go_enter Try.func35, Try.ntmps35
    go_wp2_with fail
    refine HC.out.mono ?_
    rintro e w1 ⟨rfl, hb1⟩
    have hF1 := hF0.step hb1
    go_wp2
    go_ret3
    exact ⟨none, 0, 0, rfl, own_nil _ _, by omega, hF1.1⟩
  · have hxl := hide hx.len
    have hon := hide (opt_neg ho)
    obtain ⟨hf, hk, hl⟩ := opt_ok ho
    have e1 : minL' E v x = maxL E v (negL x) := by simp [minL', ho]
    have e2 : minP' E v x = -(maxP E v (negL x)) := by simp [minP', ho]
    rw [e1, e2]; clear e1 e2
    rw [ho] at hcall
    have HC := hide hcall; clear hcall
    have hm5 : m ≤ 5 := by rw [← hxl.out]; exact (vecOk_true hk).1
    have HX := hide (fun j (hj : j < m) => vecOk_gv hk (k := j) (by rw [hxl.out]; exact hj))
    have hbd := maxP_bd E v (negL x)
    have HM := hide (fun W (h : Below w.heap.size w W) (B : Option Addr) (cr : Nat) (hB : Ints W B m (negL x)) => maximumFor_any E A n c v B m cr (negL x) W (hv.below h (Nat.le_refl _)) hB)
    have hnl := hide (show (negL x).length = m by rw [negL_len, hxl.out])
    have HS := hide (fun k (hk : k < m) => neg_snoc (x := x) (k := k) (by rw [hxl.out]; exact hk))
    have HON := hide hon.out
    rw [hon.out] at HM
    clear hf hk hl ho hon
    generalize maxP E v (negL x) = R at *
    generalize maxL E v (negL x) = M at *
    go_enter Try.func35, Try.ntmps35
    go_wp2_with fail
    refine HC.out.mono ?_
    rintro e w1 ⟨rfl, hb1⟩
    have hF1 := hF0.step hb1
    have hO1 := hO0.below hb1 (Nat.le_refl _)
    clear r0 r1 hO0
    go_wp2
    go_loopw [7, 20] (fun l t wr => ∃ (k : Nat) (B : Option Addr) (cr : Nat), k ≤ m ∧ t = .int .i64 k ∧ l = .slice B k cr ∧ Own wr (w.heap.size + 1) B k cr ((negL x).take k) ∧ FB w wr E A n c) (fun _ t _ => m - (intOf t).toNat)
    case atStart => exact ⟨0, _, 5, Nat.zero_le _, rfl, rfl, hO1, hF1⟩
    clear hO1
    case round =>
      obtain ⟨k, B, cr, hk, rfl, rfl, hown, hFBr⟩ := hrel
      obtain ⟨hbelr, hzr, r0, r1⟩ := hFBr.parts
      by_cases hlt : k < m
      · obtain ⟨b, off, rfl, hb, hc⟩ := (hx.below hbelr (Nat.le_refl _)).at_ hlt
        have q1 := HX.out k hlt
        have hs := hide (HS.out k hlt)
        have t1 : IntKind.i64.wrap (- gv x k) = - gv x k := IntWalk.i64_in _ (by omega)
        go_wp2_with (refine wpl_app (by rfl) _ _ (by rfl) (w.heap.size + 1) B k cr wr.heap.size ((negL x).take k) (- gv x k) (by rfl) (by rfl) (hown.alloc _) (cell_new wr _) (by omega) (by simp; omega) ?_; intro g cap w3 hown3 hgrow hat hlt3)
        go_roundw
        case rel => exact ⟨k + 1, _, cap, by omega, by go_num, rfl, by rw [hs.out]; exact hown3, app_FB hFBr hown hgrow (Below.refl _ _) rfl⟩
        case measure => simp [intOf]; omega
      · obtain rfl : k = m := by omega
        have ho2 := hown.ints
        rw [List.take_of_length_le (by rw [hnl.out]; exact Nat.le_refl _)] at ho2
        have HM1 := hide (HM.out _ hbelr B cr ho2)
        go_wp2_with fail
        refine HM1.out.mono ?_
        rintro e w4 ⟨B2, r2, cr2, rfl, hown2, hr2, hb4⟩
        have t1 : IntKind.i64.wrap (-R) = -R := IntWalk.i64_in _ (by omega)
        go_wp2
        go_ret3
        exact ⟨B2, r2, cr2, rfl, hown2.less hbelr.size, hr2, (hFBr.step hb4).1⟩
set_option maxHeartbeats 1000000 in
theorem specMinimumFor_any (E : Int) (A : Option Addr) (n c : Nat) (v : List Int) (A' : Option Addr) (m c' : Nat) (x : List Int) (w : World) (hv : Ints w A n v) (hx : Ints w A' m x) :
    Calls Try.prog 34 #[.agg #[.int .i64 E, .slice A n c], .slice A' m c'] w fun e w' => ∃ B r cr, e = .returned (.tuple #[.int .i64 (minP' E v x), .slice B r cr, .bool (optB E v x)]) ∧ Own w' w.heap.size B r cr (minL' E v x) ∧ r ≤ 1048576 ∧ Below w.heap.size w w' := by
  have hFs := FB.start w E A n c
  have hF0 := hFs.step ((Below.refl _ _).alloc (Nat.le_refl _) (.cells #[] 3))
  obtain ⟨hbel0, hz0, r0, r1⟩ := hF0.parts
  have hO0 := own_zero (w := w.alloc (.cells #[.int .i64 E, .slice A n c] 28)) (B := w.heap.size + 1) (by simp)
  have z1 : (w.alloc (.cells #[.int .i64 E, .slice A n c] 28)).heap.size = w.heap.size + 1 := by simp
  rw [z1] at hO0
  clear hFs z1
  
  have hcall := l9Fit_any E A n c v A' m c' x _ (hv.below hbel0 (Nat.le_refl _)) (hx.below hbel0 (Nat.le_refl _))
  cases ho : optB E v x
  · have e1 : minL' E v x = [] := by simp [minL', ho]
    have e2 : minP' E v x = 0 := by simp [minP', ho]
    rw [e1, e2]; clear e1 e2
    rw [ho] at hcall
    have HC := hide hcall; clear hcall hO0
    go_enter Try.func34, Try.ntmps34
    go_wp2_with fail
    refine HC.out.mono ?_
    rintro e w1 ⟨rfl, hb1⟩
    have hF1 := hF0.step hb1
    go_wp2
    go_ret3
    exact ⟨_, 0, 0, rfl, (own_none _).less (Nat.le_of_lt hF1.2.1), by omega, (hF1.step ((Below.refl _ _).alloc (Nat.le_refl _) _)).1⟩
  · have hxl := hide hx.len
    have hon := hide (opt_neg ho)
    obtain ⟨hf, hk, hl⟩ := opt_ok ho
    have e1 : minL' E v x = maxL E v (negL x) := by simp [minL', ho]
    have e2 : minP' E v x = -(maxP E v (negL x)) := by simp [minP', ho]
    rw [e1, e2]; clear e1 e2
    rw [ho] at hcall
    have HC := hide hcall; clear hcall
    have hm5 : m ≤ 5 := by rw [← hxl.out]; exact (vecOk_true hk).1
    have HX := hide (fun j (hj : j < m) => vecOk_gv hk (k := j) (by rw [hxl.out]; exact hj))
    have hbd := maxP_bd E v (negL x)
    have HM := hide (fun W (h : Below w.heap.size w W) (B : Option Addr) (cr : Nat) (hB : Ints W B m (negL x)) => specMaximumFor_any E A n c v B m cr (negL x) W (hv.below h (Nat.le_refl _)) hB)
    have hnl := hide (show (negL x).length = m by rw [negL_len, hxl.out])
    have HS := hide (fun k (hk : k < m) => neg_snoc (x := x) (k := k) (by rw [hxl.out]; exact hk))
    have HON := hide hon.out
    rw [hon.out] at HM
    clear hf hk hl ho hon
    generalize maxP E v (negL x) = R at *
    generalize maxL E v (negL x) = M at *
    go_enter Try.func34, Try.ntmps34
    go_wp2_with fail
    refine HC.out.mono ?_
    rintro e w1 ⟨rfl, hb1⟩
    have hF1 := hF0.step hb1
    have hO1 := hO0.below hb1 (Nat.le_refl _)
    clear r0 r1 hO0
    go_wp2
    go_loopw [7, 8] (fun l t wr => ∃ (k : Nat) (B : Option Addr) (cr : Nat), k ≤ m ∧ t = .int .i64 k ∧ l = .slice B k cr ∧ Own wr (w.heap.size + 1) B k cr ((negL x).take k) ∧ FB w wr E A n c) (fun _ t _ => m - (intOf t).toNat)
    case atStart => exact ⟨0, _, 0, Nat.zero_le _, rfl, rfl, hO1, hF1⟩
    clear hO1
    case round =>
      obtain ⟨k, B, cr, hk, rfl, rfl, hown, hFBr⟩ := hrel
      obtain ⟨hbelr, hzr, r0, r1⟩ := hFBr.parts
      by_cases hlt : k < m
      · obtain ⟨b, off, rfl, hb, hc⟩ := (hx.below hbelr (Nat.le_refl _)).at_ hlt
        have q1 := HX.out k hlt
        have hs := hide (HS.out k hlt)
        have t1 : IntKind.i64.wrap (- gv x k) = - gv x k := IntWalk.i64_in _ (by omega)
        go_wp2_with (refine wpl_app (by rfl) _ _ (by rfl) (w.heap.size + 1) B k cr wr.heap.size ((negL x).take k) (- gv x k) (by rfl) (by rfl) (hown.alloc _) (cell_new wr _) (by omega) (by simp; omega) ?_; intro g cap w3 hown3 hgrow hat hlt3)
        go_roundw
        case rel => exact ⟨k + 1, _, cap, by omega, by go_num, rfl, by rw [hs.out]; exact hown3, app_FB hFBr hown hgrow (Below.refl _ _) rfl⟩
        case measure => simp [intOf]; omega
      · obtain rfl : k = m := by omega
        have ho2 := hown.ints
        rw [List.take_of_length_le (by rw [hnl.out]; exact Nat.le_refl _)] at ho2
        have HM1 := hide (HM.out _ hbelr B cr ho2)
        go_wp2_with fail
        refine HM1.out.mono ?_
        rintro e w4 ⟨B2, r2, cr2, rfl, hown2, hr2, hb4⟩
        have t1 : IntKind.i64.wrap (-R) = -R := IntWalk.i64_in _ (by omega)
        go_wp2
        go_ret3
        exact ⟨B2, r2, cr2, rfl, hown2.less hbelr.size, hr2, (hFBr.step hb4).1⟩
end Go.Proofs.Ytpdobkbnfphkfaa
