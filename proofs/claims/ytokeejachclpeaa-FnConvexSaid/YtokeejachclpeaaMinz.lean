/-
  Walks: the minimizers of a function.
-/
import Derived.Test.YtokeejachclpeaaMin
namespace Go.Proofs.Ytokeejachclpeaa
open Go.RowKit

/-- The sets below k that satisfy p, as ints. -/
def selI (p : Nat → Bool) (k : Nat) : List Int := ((List.range k).filter p).map fun j : Nat => (j : Int)
theorem selI_yes {p : Nat → Bool} {k : Nat} (h : p k = true) : selI p (k + 1) = selI p k ++ [(k : Int)] := by
  unfold selI; rw [List.range_succ, List.filter_append, List.map_append]; simp [h]
theorem selI_no {p : Nat → Bool} {k : Nat} (h : p k = false) : selI p (k + 1) = selI p k := by
  unfold selI; rw [List.range_succ, List.filter_append, List.map_append]; simp [h]
theorem selI_le (p : Nat → Bool) (k : Nat) : (selI p k).length ≤ k := by
  unfold selI; rw [List.length_map]; exact Nat.le_trans (List.length_filter_le _ _) (by simp)
def minzP (v : List Int) (s : Nat) : Bool := decide (gv v s = minV v)
def minzL (E : Int) (v : List Int) : List Int := if isFn E v then selI (minzP v) v.length else []

set_option maxHeartbeats 400000 in
theorem minimizersOf_any (E : Int) (A : Option Addr) (n c : Nat) (v : List Int) (w : World) (hv : Ints w A n v) :
    Calls Try.prog 27 #[.agg #[.int .i64 E, .slice A n c]] w fun e w' => ∃ B r cr, e = .returned (.tuple #[.slice B r cr, .bool (isFn E v)]) ∧ Own w' w.heap.size B r cr (minzL E v) ∧ r ≤ 1048576 ∧ Below w.heap.size w w' := by
  cases hf : isFn E v
  · have e0 : minzL E v = [] := by simp [minzL, hf]
    rw [e0]; clear e0
    go_enter Try.func27, Try.ntmps27
    go_wp2_with fail
    refine (minimumOf_any _ _ _ _ v _ (hv.alloc _)).mono ?_
    rintro e w1 ⟨rfl, hb1⟩
    rw [hf]
    go_wp2
    go_ret2
    exact ⟨none, 0, 0, rfl, own_nil _ _, by omega, ((FB.start w E A n c).step hb1).1⟩
  · have Hf := hide hf
    obtain ⟨N, rfl, fo⟩ := FnOk.of hf hv
    have e0 : minzL N v = selI (minzP v) n := by simp [minzL, hf, fo.hl]
    have e1 : minR N v = minV v := by simp [minR, hf]
    rw [e0]; clear e0 hf
    obtain ⟨b, off, rfl, hb, hc⟩ := hv.all_ fo.n0
    have HC := hide hc; clear hc
    have n32 := fo.n32
    have E1 := hide e1; clear e1
    go_enter Try.func27, Try.ntmps27
    go_wp2_with fail
    refine (minimumOf_any _ _ _ _ v _ (hv.alloc _)).mono ?_
    rintro e w1 ⟨rfl, hb1⟩
    have hFB := (FB.start w N (some ⟨b, off, none⟩) n c).step hb1
    obtain ⟨hbel, hz, r0, r1⟩ := hFB.parts
    rw [Hf.out, E1.out]
    go_wp2
    clear r0 r1
    go_loopw [6, 19] (fun t i wr => ∃ (k r : Nat) (B : Option Addr) (cr : Nat), k ≤ n ∧ i = .int .i64 k ∧ t = .slice B r cr ∧ Own wr w.heap.size B r cr (selI (minzP v) k) ∧ Below w.heap.size w wr) (fun _ i _ => n - (intOf i).toNat)
    case atStart => exact ⟨0, 0, none, 0, Nat.zero_le _, rfl, rfl, own_nil _ _, hbel⟩
    case round =>
      obtain ⟨k, r, B, cr, hk, rfl, rfl, hown, hbelr⟩ := hrel
      have hrl : r ≤ k := by have := hown.len; have := selI_le (minzP v) k; omega
      by_cases hlt : k < n
      · have c1 : wr.cell? ⟨b, off + k, none⟩ = some (.int .i64 (gv v k)) := (hbelr.cell (p := ⟨b, off + k, none⟩) hb).trans (HC.out _ hlt)
        have hsz := hbelr.size
        cases hq : (gv v k == minV v)
        · have hs := hide (selI_no (p := minzP v) (k := k) (by simp at hq; simp [minzP, hq]))
          go_wp2
          go_roundw
          case rel => exact ⟨k + 1, r, B, cr, by omega, by go_num, rfl, by rw [hs.out]; exact hown, hbelr⟩
          case measure => simp [intOf]; omega
        · have hs := hide (selI_yes (p := minzP v) (k := k) (by simp at hq; simp [minzP, hq]))
          go_wp2_with (refine wpl_app (by rfl) _ _ (by rfl) w.heap.size B r cr wr.heap.size (selI (minzP v) k) (k : Int) (by rfl) (by rfl) (hown.alloc _) (cell_new wr _) (by omega) (by simp; omega) ?_; intro g cap w1 hown1 hgrow hat hlt1)
          go_roundw
          case rel => exact ⟨k + 1, r + 1, _, cap, by omega, by go_num, rfl, by rw [hs.out]; exact hown1, app_below hbelr hbelr.size hown hgrow (Below.refl _ _)⟩
          case measure => simp [intOf]; omega
      · obtain rfl : k = n := by omega
        go_wp2
        go_ret2
        exact ⟨B, r, cr, rfl, hown, by omega, hbelr⟩
set_option maxHeartbeats 1000000 in
theorem specMinimizersOf_any (E : Int) (A : Option Addr) (n c : Nat) (v : List Int) (w : World) (hv : Ints w A n v) :
    Calls Try.prog 91 #[.agg #[.int .i64 E, .slice A n c]] w fun e w' => ∃ B r cr, e = .returned (.tuple #[.slice B r cr, .bool (isFn E v)]) ∧ Own w' w.heap.size B r cr (minzL E v) ∧ r ≤ 1048576 ∧ Below w.heap.size w w' := by
  have hF0 : FB w ((w.alloc (.cells #[.int .i64 E, .slice A n c] 26)).alloc (.cells #[] 3)) E A n c := (FB.start w E A n c).step ((Below.refl _ _).alloc (Nat.le_refl _) _)
  have hO0 : Own ((w.alloc (.cells #[.int .i64 E, .slice A n c] 26)).alloc (.cells #[] 3)) (w.heap.size + 1) (some ⟨w.heap.size + 1, 0, none⟩) 0 0 [] := by
    simpa using own_none (w.alloc (.cells #[.int .i64 E, .slice A n c] 26))
  cases hf : isFn E v
  · have e0 : minzL E v = [] := by simp [minzL, hf]
    rw [e0]; clear e0
    go_enter Try.func91, Try.ntmps91
    go_wp2
    go_loopw [4, 5] (fun t i wr => t = .slice (some ⟨w.heap.size + 1, 0, none⟩) 0 0 ∧ i = .int .i64 0 ∧ Own wr (w.heap.size + 1) (some ⟨w.heap.size + 1, 0, none⟩) 0 0 [] ∧ FB w wr E A n c) (fun _ _ _ => 0)
    case atStart => exact ⟨rfl, rfl, hO0, hF0⟩
    case round =>
      obtain ⟨rfl, rfl, hown, hFBr⟩ := hrel
      obtain ⟨hbelr, hzr, r0, r1⟩ := hFBr.parts
      go_wp2_with fail
      refine (specIsFunction_any _ _ _ _ v _ (hv.below hbelr (Nat.le_refl _))).mono ?_
      rintro e w1 ⟨rfl, hb1⟩
      rw [hf]
      have hFB1 := hFBr.step hb1
      clear r0 r1
      obtain ⟨hbel1, hz1, r0, r1⟩ := hFB1.parts
      go_wp2_with fail
      refine (specIsFunction_any _ _ _ _ v _ (hv.below hbel1 (Nat.le_refl _))).mono ?_
      rintro e w2 ⟨rfl, hb2⟩
      rw [hf]
      go_wp2
      go_ret2
      exact ⟨_, 0, 0, rfl, ((hown.below hb1 (Nat.le_refl _)).below hb2 (Nat.le_refl _)).less (Nat.le_succ _), by omega, (hFB1.step hb2).1⟩
  · have Hf := hide hf
    obtain ⟨N, rfl, fo⟩ := FnOk.of hf hv
    have e0 : minzL N v = selI (minzP v) n := by simp [minzL, hf, fo.hl]
    rw [e0]; clear e0 hf
    obtain ⟨b, off, rfl, hb, hc⟩ := hv.all_ fo.n0
    have HC := hide hc; clear hc
    have n32 := fo.n32
    have n0 := fo.n0
    go_enter Try.func91, Try.ntmps91
    go_wp2
    go_loopw [4, 5] (fun t i wr => ∃ (k r : Nat) (B : Option Addr) (cr : Nat), k ≤ n ∧ i = .int .i64 k ∧ t = .slice B r cr ∧ Own wr (w.heap.size + 1) B r cr (selI (minzP v) k) ∧ FB w wr N (some ⟨b, off, none⟩) n c) (fun _ i _ => n - (intOf i).toNat)
    case atStart => exact ⟨0, 0, _, 0, Nat.zero_le _, rfl, rfl, hO0, hF0⟩
    case round =>
      obtain ⟨k, r, B, cr, hk, rfl, rfl, hown, hFBr⟩ := hrel
      obtain ⟨hbelr, hzr, r0, r1⟩ := hFBr.parts
      have hrl : r ≤ k := by have := hown.len; have := selI_le (minzP v) k; omega
      go_wp2_with fail
      refine (specIsFunction_any _ _ _ _ v _ (hv.below hbelr (Nat.le_refl _))).mono ?_
      rintro e w1 ⟨rfl, hb1⟩
      rw [Hf.out]
      have hFB1 := hFBr.step hb1
      have hown1 := hown.below hb1 (Nat.le_refl _)
      clear r0 r1
      obtain ⟨hbel1, hz1, r0, r1⟩ := hFB1.parts
      by_cases hlt : k < n
      · have c1 : w1.cell? ⟨b, off + k, none⟩ = some (.int .i64 (gv v k)) := (hbel1.cell (p := ⟨b, off + k, none⟩) hb).trans (HC.out _ hlt)
        have i1 : (0 : Int) ≤ (k : Int) := by omega
        have i2 : (k : Int) < (n : Int) := by omega
        have hvr := hide (hv.below hbel1 (Nat.le_refl _))
        have hb1' := hide hbel1; clear hbel1
        have hbr : b < w1.heap.size := Nat.lt_of_lt_of_le hb hb1'.out.size
        have hsz := hb1'.out.size
        cases hq : (gv v k == minV v)
        · have hs := hide (selI_no (p := minzP v) (k := k) (by simp at hq; simp [minzP, hq]))
          go_wp2
          go_region_held3 (fun w' => w'.cell? ⟨w.heap.size, 0, none⟩ = some (.int .i64 (N : Int)) ∧ w'.cell? ⟨w.heap.size, 1, none⟩ = some (.slice (some ⟨b, off, none⟩) n c) ∧ w'.cell? ⟨b, off + k, none⟩ = some (.int .i64 (gv v k)))
            (first
              | go_keep
              | exact ⟨(hb2.cell (p := ⟨w.heap.size, 0, none⟩) hz1).trans r0, (hb2.cell (p := ⟨w.heap.size, 1, none⟩) hz1).trans r1, (hb2.cell (p := ⟨b, off + k, none⟩) hbr).trans c1⟩)
            (first
              | (go_at_call 178; refine (l10Least_any _ _ _ _ v _ hvr.out.drew n0).mono ?_; rintro e w2 ⟨rfl, hb2⟩))
          go_wp2
          go_roundw
          case rel => exact ⟨k + 1, r, B, cr, by omega, by go_num, rfl, by rw [hs.out]; exact (show Own w1.drew _ _ _ _ _ from hown1).below hb2 (Nat.le_refl _), hFB1.drew.step hb2⟩
          case measure => simp [intOf]; omega
        · have hs := hide (selI_yes (p := minzP v) (k := k) (by simp at hq; simp [minzP, hq]))
          go_wp2
          go_region_held3 (fun w' => w'.cell? ⟨w.heap.size, 0, none⟩ = some (.int .i64 (N : Int)) ∧ w'.cell? ⟨w.heap.size, 1, none⟩ = some (.slice (some ⟨b, off, none⟩) n c) ∧ w'.cell? ⟨b, off + k, none⟩ = some (.int .i64 (gv v k)))
            (first
              | go_keep
              | exact ⟨(hb2.cell (p := ⟨w.heap.size, 0, none⟩) hz1).trans r0, (hb2.cell (p := ⟨w.heap.size, 1, none⟩) hz1).trans r1, (hb2.cell (p := ⟨b, off + k, none⟩) hbr).trans c1⟩)
            (first
              | (go_at_call 178; refine (l10Least_any _ _ _ _ v _ hvr.out.drew n0).mono ?_; rintro e w2 ⟨rfl, hb2⟩))
          have hFB2 := hFB1.drew.step hb2
          have hown2 := (show Own w1.drew _ _ _ _ _ from hown1).below hb2 (Nat.le_refl _)
          have hsz2 := hFB2.2.1
          go_wp2_with (refine wpl_app (by rfl) _ _ (by rfl) (w.heap.size + 1) B r cr w2.heap.size (selI (minzP v) k) (k : Int) (by rfl) (by rfl) (hown2.alloc _) (cell_new w2 _) (by omega) (by simp; omega) ?_; intro g cap w3 hown3 hgrow hat hlt3)
          go_roundw
          case rel => exact ⟨k + 1, r + 1, _, cap, by omega, by go_num, rfl, by rw [hs.out]; exact hown3, app_FB hFB2 hown2 hgrow (Below.refl _ _) rfl⟩
          case measure => simp [intOf]; omega
      · obtain rfl : k = n := by omega
        go_wp2_with fail
        refine (specIsFunction_any _ _ _ _ v _ (hv.below hbel1 (Nat.le_refl _))).mono ?_
        rintro e w2 ⟨rfl, hb2⟩
        rw [Hf.out]
        go_wp2
        go_ret2
        exact ⟨B, r, cr, rfl, (hown1.below hb2 (Nat.le_refl _)).less (Nat.le_succ _), by omega, (hFB1.step hb2).1⟩
end Go.Proofs.Ytokeejachclpeaa
