/-
  Walks: the minimum of a function.
  Walks: the minimizers of a function.
  Walks: the total gain; the minimum.
  Walks: the least value between two sets.
  Walks: sizes of sets; the best set.
-/
import Derived.Test.YtokeejachclpeaaCore
import Derived.BigQuiet
namespace Go.Proofs.Ytokeejachclpeaa
open Go.RowKit

/-- The least of the first k + 1 values. -/
def minT (v : List Int) : Nat → Int
  | 0 => gv v 0
  | k + 1 => min (minT v k) (gv v (k + 1))
theorem minT_succ {v : List Int} {k : Nat} (hk : 0 < k) : minT v k = min (minT v (k - 1)) (gv v k) := by
  obtain ⟨j, rfl⟩ : ∃ j, k = j + 1 := ⟨k - 1, by omega⟩
  simp [minT]
/-- The least value. -/
def minV (v : List Int) : Int := minT v (v.length - 1)
def minR (E : Int) (v : List Int) : Int := if isFn E v then minV v else 0

theorem slicesMin_any (A : Option Addr) (n c : Nat) (v : List Int) (w : World) (hv : Ints w A n v) (hn : 0 < n) :
    Calls Try.prog 150 #[.slice A n c] w fun e w' => e = .returned (.int .i64 (minV v)) ∧ w = w' := by
  have hle := hv.le
  have hlen := hide hv.len
  obtain ⟨b, off, rfl, hb, hc⟩ := hv.all_ hn
  have c0 : w.cell? ⟨b, off, none⟩ = some (.int .i64 (gv v 0)) := hc 0 hn
  have i1 : (1 : Int) ≤ (n : Int) := by omega
  have hc' := hide hc; clear hc
  go_enter Try.func150, Try.ntmps150
  go_wp2
  clear c0
  go_loop [3, 4] (fun t i => ∃ k : Nat, 1 ≤ k ∧ k ≤ n ∧ i = .int .i64 k ∧ t = .int .i64 (minT v (k - 1))) (fun _ i => n - (intOf i).toNat)
  case atStart => exact ⟨1, Nat.le_refl _, hn, rfl, rfl⟩
  case round =>
    obtain ⟨k, hk1, hk, rfl, rfl⟩ := hrel
    by_cases hlt : k < n
    · have c1 := hc'.out k hlt
      have hs := hide (minT_succ (v := v) (k := k) (by omega))
      go_wp2
      all_goals
        go_round
        case rel => exact ⟨k + 1, by omega, by omega, by go_num, by rw [show k + 1 - 1 = k by omega, hs.out]; congr 1; omega⟩
        case measure => simp [intOf]; omega
    · obtain rfl : k = n := by omega
      go_wp2
      go_ret
      exact ⟨ret_int (by rw [minV, hlen.out]), rfl⟩
theorem minimumOf_any (E : Int) (A : Option Addr) (n c : Nat) (v : List Int) (w : World) (hv : Ints w A n v) :
    Calls Try.prog 25 #[.agg #[.int .i64 E, .slice A n c]] w fun e w' => e = .returned (.tuple #[.int .i64 (minR E v), .bool (isFn E v)]) ∧ Below w.heap.size w w' := by
  cases hf : isFn E v
  · go_enter Try.func25, Try.ntmps25
    go_wp2_with fail
    refine (isFunction_any _ _ _ _ v _ (hv.alloc _)).mono ?_
    rintro e w1 ⟨rfl, hb1⟩
    go_wp2
    go_ret2
    exact ⟨by simp [minR, hf], ((Below.refl _ _).alloc (Nat.le_refl _) _).trans (hb1.mono (by simp))⟩
  · have Hf := hide hf
    obtain ⟨N, rfl, fo⟩ := FnOk.of hf hv
    go_enter Try.func25, Try.ntmps25
    go_wp2_with fail
    refine (isFunction_any _ _ _ _ v _ (hv.alloc _)).mono ?_
    rintro e w1 ⟨rfl, hb1⟩
    have hFB := (FB.start w N A n c).step hb1
    obtain ⟨-, -, e0, e1⟩ := hFB.parts
    go_wp2_with fail
    refine (slicesMin_any _ _ _ v _ (hv.below hFB.1 (Nat.le_refl _)) fo.n0).mono ?_
    rintro e w2 ⟨rfl, rfl⟩
    go_wp2
    go_ret2
    exact ⟨by simp [minR, Hf.out], hFB.1⟩
theorem l10Least_any (E : Int) (A : Option Addr) (n c : Nat) (v : List Int) (w : World) (hv : Ints w A n v) (hn : 0 < n) :
    Calls Try.prog 178 #[.agg #[.int .i64 E, .slice A n c]] w fun e w' => e = .returned (.int .i64 (minV v)) ∧ Below w.heap.size w w' := by
  have hle := hv.le
  have hlen := hide hv.len
  obtain ⟨b, off, rfl, hb, hc⟩ := hv.all_ hn
  have j1 : w.heap.size ≠ b := by omega
  have c0 : w.cell? ⟨b, off, none⟩ = some (.int .i64 (gv v 0)) := hc 0 hn
  have i1 : (0 : Int) < (n : Int) := by omega
  have hc' := hide hc; clear hc
  go_enter Try.func178, Try.ntmps178
  go_wp2
  clear c0
  go_loop [3, 4] (fun t i => ∃ k : Nat, 1 ≤ k ∧ k ≤ n ∧ i = .int .i64 k ∧ t = .int .i64 (minT v (k - 1))) (fun _ i => n - (intOf i).toNat)
  case atStart => exact ⟨1, Nat.le_refl _, hn, rfl, rfl⟩
  case round =>
    obtain ⟨k, hk1, hk, rfl, rfl⟩ := hrel
    by_cases hlt : k < n
    · have c1 := hc'.out k hlt
      have hs := hide (minT_succ (v := v) (k := k) (by omega))
      go_wp2
      all_goals
        go_round
        case rel => exact ⟨k + 1, by omega, by omega, by go_num, by rw [show k + 1 - 1 = k by omega, hs.out]; congr 1; omega⟩
        case measure => simp [intOf]; omega
    · obtain rfl : k = n := by omega
      go_wp2
      go_ret
      exact ⟨ret_int (by rw [minV, hlen.out]), (Below.refl _ _).alloc (Nat.le_refl _) _⟩
theorem specMinimumOf_any (E : Int) (A : Option Addr) (n c : Nat) (v : List Int) (w : World) (hv : Ints w A n v) :
    Calls Try.prog 92 #[.agg #[.int .i64 E, .slice A n c]] w fun e w' => e = .returned (.tuple #[.int .i64 (minR E v), .bool (isFn E v)]) ∧ Below w.heap.size w w' := by
  cases hf : isFn E v
  · go_enter Try.func92, Try.ntmps92
    go_wp2_with fail
    refine (specIsFunction_any _ _ _ _ v _ (hv.alloc _)).mono ?_
    rintro e w1 ⟨rfl, hb1⟩
    go_wp2
    go_ret2
    exact ⟨by simp [minR, hf], ((Below.refl _ _).alloc (Nat.le_refl _) _).trans (hb1.mono (by simp))⟩
  · have Hf := hide hf
    obtain ⟨N, rfl, fo⟩ := FnOk.of hf hv
    go_enter Try.func92, Try.ntmps92
    go_wp2_with fail
    refine (specIsFunction_any _ _ _ _ v _ (hv.alloc _)).mono ?_
    rintro e w1 ⟨rfl, hb1⟩
    have hFB := (FB.start w N A n c).step hb1
    obtain ⟨-, -, e0, e1⟩ := hFB.parts
    go_wp2_with fail
    refine (l10Least_any _ _ _ _ v _ (hv.below hFB.1 (Nat.le_refl _)) fo.n0).mono ?_
    rintro e w2 ⟨rfl, hb2⟩
    go_wp2
    go_ret2
    exact ⟨by simp [minR, Hf.out], (hFB.step hb2).1⟩
end Go.Proofs.Ytokeejachclpeaa
namespace Go.Proofs.Ytokeejachclpeaa
open Go.RowKit

/-- The sets below k that satisfy p, as ints. -/
def selI (p : Nat → Bool) (k : Nat) : List Int := ((List.range k).filter p).map fun j : Nat => (j : Int)
theorem selI_yes {p : Nat → Bool} {k : Nat} (h : p k = true) : selI p (k + 1) = selI p k ++ [(k : Int)] := by
  unfold selI; rw [List.range_succ, List.filter_append, List.map_append]; simp [h]
theorem selI_no {p : Nat → Bool} {k : Nat} (h : p k = false) : selI p (k + 1) = selI p k := by
  unfold selI; rw [List.range_succ, List.filter_append, List.map_append]; simp [h]
theorem selI_le (p : Nat → Bool) (k : Nat) : (selI p k).length ≤ k := by
  unfold selI; rw [List.length_map]; exact Nat.le_trans (List.length_filter_le _ _) (by simp)
def minzP (v : List Int) (s : Nat) : Bool := decide (gv v s = minV v)
def minzL (E : Int) (v : List Int) : List Int := if isFn E v then selI (minzP v) v.length else []

set_option maxHeartbeats 400000 in
theorem minimizersOf_any (E : Int) (A : Option Addr) (n c : Nat) (v : List Int) (w : World) (hv : Ints w A n v) :
    Calls Try.prog 27 #[.agg #[.int .i64 E, .slice A n c]] w fun e w' => ∃ B r cr, e = .returned (.tuple #[.slice B r cr, .bool (isFn E v)]) ∧ Own w' w.heap.size B r cr (minzL E v) ∧ r ≤ 1048576 ∧ Below w.heap.size w w' := by
  cases hf : isFn E v
  · have e0 : minzL E v = [] := by simp [minzL, hf]
    rw [e0]; clear e0
    go_enter Try.func27, Try.ntmps27
    go_wp2_with fail
    refine (minimumOf_any _ _ _ _ v _ (hv.alloc _)).mono ?_
    rintro e w1 ⟨rfl, hb1⟩
    rw [hf]
    go_wp2
    go_ret2
    exact ⟨none, 0, 0, rfl, own_nil _ _, by omega, ((FB.start w E A n c).step hb1).1⟩
  · have Hf := hide hf
    obtain ⟨N, rfl, fo⟩ := FnOk.of hf hv
    have e0 : minzL N v = selI (minzP v) n := by simp [minzL, hf, fo.hl]
    have e1 : minR N v = minV v := by simp [minR, hf]
    rw [e0]; clear e0 hf
    obtain ⟨b, off, rfl, hb, hc⟩ := hv.all_ fo.n0
    have HC := hide hc; clear hc
    have n32 := fo.n32
    have E1 := hide e1; clear e1
    go_enter Try.func27, Try.ntmps27
    go_wp2_with fail
    refine (minimumOf_any _ _ _ _ v _ (hv.alloc _)).mono ?_
    rintro e w1 ⟨rfl, hb1⟩
    have hFB := (FB.start w N (some ⟨b, off, none⟩) n c).step hb1
    obtain ⟨hbel, hz, r0, r1⟩ := hFB.parts
    rw [Hf.out, E1.out]
    go_wp2
    clear r0 r1
    go_loopw [6, 19] (fun t i wr => ∃ (k r : Nat) (B : Option Addr) (cr : Nat), k ≤ n ∧ i = .int .i64 k ∧ t = .slice B r cr ∧ Own wr w.heap.size B r cr (selI (minzP v) k) ∧ Below w.heap.size w wr) (fun _ i _ => n - (intOf i).toNat)
    case atStart => exact ⟨0, 0, none, 0, Nat.zero_le _, rfl, rfl, own_nil _ _, hbel⟩
    case round =>
      obtain ⟨k, r, B, cr, hk, rfl, rfl, hown, hbelr⟩ := hrel
      have hrl : r ≤ k := by have := hown.len; have := selI_le (minzP v) k; omega
      by_cases hlt : k < n
      · have c1 : wr.cell? ⟨b, off + k, none⟩ = some (.int .i64 (gv v k)) := (hbelr.cell (p := ⟨b, off + k, none⟩) hb).trans (HC.out _ hlt)
        have hsz := hbelr.size
        cases hq : (gv v k == minV v)
        · have hs := hide (selI_no (p := minzP v) (k := k) (by simp at hq; simp [minzP, hq]))
          go_wp2
          go_roundw
          case rel => exact ⟨k + 1, r, B, cr, by omega, by go_num, rfl, by rw [hs.out]; exact hown, hbelr⟩
          case measure => simp [intOf]; omega
        · have hs := hide (selI_yes (p := minzP v) (k := k) (by simp at hq; simp [minzP, hq]))
          go_wp2_with (refine wpl_app (by rfl) _ _ (by rfl) w.heap.size B r cr wr.heap.size (selI (minzP v) k) (k : Int) (by rfl) (by rfl) (hown.alloc _) (cell_new wr _) (by omega) (by simp; omega) ?_; intro g cap w1 hown1 hgrow hat hlt1)
          go_roundw
          case rel => exact ⟨k + 1, r + 1, _, cap, by omega, by go_num, rfl, by rw [hs.out]; exact hown1, app_below hbelr hbelr.size hown hgrow (Below.refl _ _)⟩
          case measure => simp [intOf]; omega
      · obtain rfl : k = n := by omega
        go_wp2
        go_ret2
        exact ⟨B, r, cr, rfl, hown, by omega, hbelr⟩
set_option maxHeartbeats 1000000 in
theorem specMinimizersOf_any (E : Int) (A : Option Addr) (n c : Nat) (v : List Int) (w : World) (hv : Ints w A n v) :
    Calls Try.prog 91 #[.agg #[.int .i64 E, .slice A n c]] w fun e w' => ∃ B r cr, e = .returned (.tuple #[.slice B r cr, .bool (isFn E v)]) ∧ Own w' w.heap.size B r cr (minzL E v) ∧ r ≤ 1048576 ∧ Below w.heap.size w w' := by
  have hF0 : FB w ((w.alloc (.cells #[.int .i64 E, .slice A n c] 26)).alloc (.cells #[] 3)) E A n c := (FB.start w E A n c).step ((Below.refl _ _).alloc (Nat.le_refl _) _)
  have hO0 : Own ((w.alloc (.cells #[.int .i64 E, .slice A n c] 26)).alloc (.cells #[] 3)) (w.heap.size + 1) (some ⟨w.heap.size + 1, 0, none⟩) 0 0 [] := by
    simpa using own_none (w.alloc (.cells #[.int .i64 E, .slice A n c] 26))
  cases hf : isFn E v
  · have e0 : minzL E v = [] := by simp [minzL, hf]
    rw [e0]; clear e0
    go_enter Try.func91, Try.ntmps91
    go_wp2
    go_loopw [4, 5] (fun t i wr => t = .slice (some ⟨w.heap.size + 1, 0, none⟩) 0 0 ∧ i = .int .i64 0 ∧ Own wr (w.heap.size + 1) (some ⟨w.heap.size + 1, 0, none⟩) 0 0 [] ∧ FB w wr E A n c) (fun _ _ _ => 0)
    case atStart => exact ⟨rfl, rfl, hO0, hF0⟩
    case round =>
      obtain ⟨rfl, rfl, hown, hFBr⟩ := hrel
      obtain ⟨hbelr, hzr, r0, r1⟩ := hFBr.parts
      go_wp2_with fail
      refine (specIsFunction_any _ _ _ _ v _ (hv.below hbelr (Nat.le_refl _))).mono ?_
      rintro e w1 ⟨rfl, hb1⟩
      rw [hf]
      have hFB1 := hFBr.step hb1
      clear r0 r1
      obtain ⟨hbel1, hz1, r0, r1⟩ := hFB1.parts
      go_wp2_with fail
      refine (specIsFunction_any _ _ _ _ v _ (hv.below hbel1 (Nat.le_refl _))).mono ?_
      rintro e w2 ⟨rfl, hb2⟩
      rw [hf]
      go_wp2
      go_ret2
      exact ⟨_, 0, 0, rfl, ((hown.below hb1 (Nat.le_refl _)).below hb2 (Nat.le_refl _)).less (Nat.le_succ _), by omega, (hFB1.step hb2).1⟩
  · have Hf := hide hf
    obtain ⟨N, rfl, fo⟩ := FnOk.of hf hv
    have e0 : minzL N v = selI (minzP v) n := by simp [minzL, hf, fo.hl]
    rw [e0]; clear e0 hf
    obtain ⟨b, off, rfl, hb, hc⟩ := hv.all_ fo.n0
    have HC := hide hc; clear hc
    have n32 := fo.n32
    have n0 := fo.n0
    go_enter Try.func91, Try.ntmps91
    go_wp2
    go_loopw [4, 5] (fun t i wr => ∃ (k r : Nat) (B : Option Addr) (cr : Nat), k ≤ n ∧ i = .int .i64 k ∧ t = .slice B r cr ∧ Own wr (w.heap.size + 1) B r cr (selI (minzP v) k) ∧ FB w wr N (some ⟨b, off, none⟩) n c) (fun _ i _ => n - (intOf i).toNat)
    case atStart => exact ⟨0, 0, _, 0, Nat.zero_le _, rfl, rfl, hO0, hF0⟩
    case round =>
      obtain ⟨k, r, B, cr, hk, rfl, rfl, hown, hFBr⟩ := hrel
      obtain ⟨hbelr, hzr, r0, r1⟩ := hFBr.parts
      have hrl : r ≤ k := by have := hown.len; have := selI_le (minzP v) k; omega
      go_wp2_with fail
      refine (specIsFunction_any _ _ _ _ v _ (hv.below hbelr (Nat.le_refl _))).mono ?_
      rintro e w1 ⟨rfl, hb1⟩
      rw [Hf.out]
      have hFB1 := hFBr.step hb1
      have hown1 := hown.below hb1 (Nat.le_refl _)
      clear r0 r1
      obtain ⟨hbel1, hz1, r0, r1⟩ := hFB1.parts
      by_cases hlt : k < n
      · have c1 : w1.cell? ⟨b, off + k, none⟩ = some (.int .i64 (gv v k)) := (hbel1.cell (p := ⟨b, off + k, none⟩) hb).trans (HC.out _ hlt)
        have i1 : (0 : Int) ≤ (k : Int) := by omega
        have i2 : (k : Int) < (n : Int) := by omega
        have hvr := hide (hv.below hbel1 (Nat.le_refl _))
        have hb1' := hide hbel1; clear hbel1
        have hbr : b < w1.heap.size := Nat.lt_of_lt_of_le hb hb1'.out.size
        have hsz := hb1'.out.size
        cases hq : (gv v k == minV v)
        · have hs := hide (selI_no (p := minzP v) (k := k) (by simp at hq; simp [minzP, hq]))
          go_wp2
          go_region_held3 (fun w' => w'.cell? ⟨w.heap.size, 0, none⟩ = some (.int .i64 (N : Int)) ∧ w'.cell? ⟨w.heap.size, 1, none⟩ = some (.slice (some ⟨b, off, none⟩) n c) ∧ w'.cell? ⟨b, off + k, none⟩ = some (.int .i64 (gv v k)))
            (first
              | go_keep
              | exact ⟨(hb2.cell (p := ⟨w.heap.size, 0, none⟩) hz1).trans r0, (hb2.cell (p := ⟨w.heap.size, 1, none⟩) hz1).trans r1, (hb2.cell (p := ⟨b, off + k, none⟩) hbr).trans c1⟩)
            (first
              | (go_at_call 178; refine (l10Least_any _ _ _ _ v _ hvr.out.drew n0).mono ?_; rintro e w2 ⟨rfl, hb2⟩))
          go_wp2
          go_roundw
          case rel => exact ⟨k + 1, r, B, cr, by omega, by go_num, rfl, by rw [hs.out]; exact (show Own w1.drew _ _ _ _ _ from hown1).below hb2 (Nat.le_refl _), hFB1.drew.step hb2⟩
          case measure => simp [intOf]; omega
        · have hs := hide (selI_yes (p := minzP v) (k := k) (by simp at hq; simp [minzP, hq]))
          go_wp2
          go_region_held3 (fun w' => w'.cell? ⟨w.heap.size, 0, none⟩ = some (.int .i64 (N : Int)) ∧ w'.cell? ⟨w.heap.size, 1, none⟩ = some (.slice (some ⟨b, off, none⟩) n c) ∧ w'.cell? ⟨b, off + k, none⟩ = some (.int .i64 (gv v k)))
            (first
              | go_keep
              | exact ⟨(hb2.cell (p := ⟨w.heap.size, 0, none⟩) hz1).trans r0, (hb2.cell (p := ⟨w.heap.size, 1, none⟩) hz1).trans r1, (hb2.cell (p := ⟨b, off + k, none⟩) hbr).trans c1⟩)
            (first
              | (go_at_call 178; refine (l10Least_any _ _ _ _ v _ hvr.out.drew n0).mono ?_; rintro e w2 ⟨rfl, hb2⟩))
          have hFB2 := hFB1.drew.step hb2
          have hown2 := (show Own w1.drew _ _ _ _ _ from hown1).below hb2 (Nat.le_refl _)
          have hsz2 := hFB2.2.1
          go_wp2_with (refine wpl_app (by rfl) _ _ (by rfl) (w.heap.size + 1) B r cr w2.heap.size (selI (minzP v) k) (k : Int) (by rfl) (by rfl) (hown2.alloc _) (cell_new w2 _) (by omega) (by simp; omega) ?_; intro g cap w3 hown3 hgrow hat hlt3)
          go_roundw
          case rel => exact ⟨k + 1, r + 1, _, cap, by omega, by go_num, rfl, by rw [hs.out]; exact hown3, app_FB hFB2 hown2 hgrow (Below.refl _ _) rfl⟩
          case measure => simp [intOf]; omega
      · obtain rfl : k = n := by omega
        go_wp2_with fail
        refine (specIsFunction_any _ _ _ _ v _ (hv.below hbel1 (Nat.le_refl _))).mono ?_
        rintro e w2 ⟨rfl, hb2⟩
        rw [Hf.out]
        go_wp2
        go_ret2
        exact ⟨B, r, cr, rfl, (hown1.below hb2 (Nat.le_refl _)).less (Nat.le_succ _), by omega, (hFB1.step hb2).1⟩
end Go.Proofs.Ytokeejachclpeaa
namespace Go.Proofs.Ytokeejachclpeaa
open Go.RowKit

/-- The gains of the first k elements to the empty set. -/
def totN (v : List Int) : Nat → Int
  | 0 => 0
  | k + 1 => totN v k + gainN v 0 k
theorem insN_zero (k : Nat) : insN 0 k = p2 k := by simp [insN, p2]
theorem FnOk.tot {N n : Nat} {v : List Int} (h : FnOk N n v) : ∀ k : Nat, k ≤ N → -2000 * (k : Int) ≤ totN v k ∧ totN v k ≤ 2000 * (k : Int)
  | 0, _ => by simp [totN]
  | k + 1, hk => by
    have h1 := FnOk.tot h k (by omega)
    have h2 := h.gain h.n0 (k := k) (by omega)
    unfold totN; omega
/-- What TotalGain gives. -/
def totR (E : Int) (v : List Int) : Int := if isFn E v then totN v E.toNat else 0

theorem totalGain_any (E : Int) (A : Option Addr) (n c : Nat) (v : List Int) (w : World) (hv : Ints w A n v) :
    Calls Try.prog 127 #[.agg #[.int .i64 E, .slice A n c]] w fun e w' => e = .returned (.tuple #[.int .i64 (totR E v), .bool (isFn E v)]) ∧ Below w.heap.size w w' := by
  cases hf : isFn E v
  · go_enter Try.func127, Try.ntmps127
    go_wp2_with fail
    refine (isFunction_any _ _ _ _ v _ (hv.alloc _)).mono ?_
    rintro e w1 ⟨rfl, hb1⟩
    go_wp2
    go_ret2
    exact ⟨by simp [totR, hf], ((Below.refl _ _).alloc (Nat.le_refl _) _).trans (hb1.mono (by simp))⟩
  · have Hf := hide hf
    obtain ⟨N, rfl, fo⟩ := FnOk.of hf hv
    have hN := fo.hN
    go_enter Try.func127, Try.ntmps127
    go_wp2_with fail
    refine (isFunction_any _ _ _ _ v _ (hv.alloc _)).mono ?_
    rintro e w1 ⟨rfl, hb1⟩
    have hFB := (FB.start w N A n c).step hb1
    obtain ⟨-, -, e0, e1⟩ := hFB.parts
    go_wp2
    clear hf
    go_loopw [4, 11] (fun t i wr => ∃ k : Nat, k ≤ N ∧ i = .int .i64 k ∧ t = .int .i64 (totN v k) ∧ FB w wr N A n c) (fun _ i _ => N - (intOf i).toNat)
    case atStart => exact ⟨0, Nat.zero_le _, rfl, rfl, hFB⟩
    case round =>
      obtain ⟨k, hk, rfl, rfl, hFB⟩ := hrel
      obtain ⟨t1, t2⟩ := fo.tot k hk
      obtain ⟨-, hz, r0, r1⟩ := hFB.parts
      by_cases hlt : k < N
      · obtain ⟨g1, g2⟩ := fo.gain fo.n0 hlt
        have hg := gain_any N A n c v 0 k wr (hv.below hFB.1 (Nat.le_refl _)) Hf.out fo.n0 (by omega)
        have HG := hide hg; clear hg
        go_wp2_with fail
        refine HG.out.mono ?_
        rintro e w2 ⟨rfl, hb2⟩
        go_wp2
        go_roundw
        case rel => exact ⟨k + 1, by omega, by go_num, rfl, hFB.step hb2⟩
        case measure => simp [intOf]; omega
      · obtain rfl : k = N := by omega
        go_wp2
        go_ret2
        exact ⟨by simp [totR, Hf.out], hFB.1⟩
theorem specTotalGain_any (E : Int) (A : Option Addr) (n c : Nat) (v : List Int) (w : World) (hv : Ints w A n v) :
    Calls Try.prog 128 #[.agg #[.int .i64 E, .slice A n c]] w fun e w' => e = .returned (.tuple #[.int .i64 (totR E v), .bool (isFn E v)]) ∧ Below w.heap.size w w' := by
  cases hf : isFn E v
  · go_enter Try.func128, Try.ntmps128
    go_wp2_with fail
    refine (specIsFunction_any _ _ _ _ v _ (hv.alloc _)).mono ?_
    rintro e w1 ⟨rfl, hb1⟩
    go_wp2
    go_ret2
    exact ⟨by simp [totR, hf], ((Below.refl _ _).alloc (Nat.le_refl _) _).trans (hb1.mono (by simp))⟩
  · have Hf := hide hf
    obtain ⟨N, rfl, fo⟩ := FnOk.of hf hv
    obtain ⟨b, off, rfl, hb, hc⟩ := hv.all_ fo.n0
    have hN := fo.hN
    have n32 := fo.n32
    have n0 := fo.n0
    go_enter Try.func128, Try.ntmps128
    go_wp2_with fail
    refine (specIsFunction_any _ _ _ _ v _ (hv.alloc _)).mono ?_
    rintro e w1 ⟨rfl, hb1⟩
    have hFB := (FB.start w N (some ⟨b, off, none⟩) n c).step hb1
    obtain ⟨-, -, e0, e1⟩ := hFB.parts
    go_wp2
    clear hf
    go_loopw [4, 5] (fun t i wr => ∃ k : Nat, k ≤ N ∧ i = .int .i64 k ∧ t = .int .i64 (totN v k) ∧ FB w wr N (some ⟨b, off, none⟩) n c) (fun _ i _ => N - (intOf i).toNat)
    case atStart => exact ⟨0, Nat.zero_le _, rfl, rfl, hFB⟩
    case round =>
      obtain ⟨k, hk, rfl, rfl, hFB⟩ := hrel
      obtain ⟨t1, t2⟩ := fo.tot k hk
      obtain ⟨hbel, hz, r0, r1⟩ := hFB.parts
      by_cases hlt : k < N
      · have hp := fo.p2 hlt
        obtain ⟨g1, g2⟩ := fo.bd hp
        obtain ⟨g3, g4⟩ := fo.bd n0
        have c1 : wr.cell? ⟨b, off + p2 k, none⟩ = some (.int .i64 (gv v (p2 k))) := (hbel.cell (p := ⟨b, off + p2 k, none⟩) hb).trans (hc _ hp)
        have c2 : wr.cell? ⟨b, off, none⟩ = some (.int .i64 (gv v 0)) := (hbel.cell (p := ⟨b, off, none⟩) hb).trans (hc 0 n0)
        have hk40 : k ≤ 40 := by omega
        have i1 : (0 : Int) ≤ (k : Int) := by omega
        have i2 : (0 : Int) ≤ (p2 k : Int) := by omega
        have i3 : (p2 k : Int) < (n : Int) := by omega
        have i4 : (0 : Int) < (n : Int) := by omega
        have et := hide (show totN v (k + 1) = totN v k + gv v (p2 k) - gv v 0 by show totN v k + gainN v 0 k = _; unfold gainN; rw [insN_zero]; omega)
        have s1 : IntKind.i64.wrap (totN v k + gv v (p2 k)) = totN v k + gv v (p2 k) := IntWalk.i64_in _ (by omega)
        have s2 : IntKind.i64.wrap (totN v k + gv v (p2 k) - gv v 0) = totN v k + gv v (p2 k) - gv v 0 := IntWalk.i64_in _ (by omega)
        have HB := hide hbel
        clear hbel hc
        go_wp2
        go_quiet (fail)
        clear s1 s2
        go_wp2
        go_roundw
        case rel => exact ⟨k + 1, by omega, by go_num, by rw [et.out], FB.drewN hFB _⟩
        case measure => simp [intOf]; omega
      · obtain rfl : k = N := by omega
        go_wp2
        go_ret2
        exact ⟨by simp [totR, Hf.out], hbel⟩
end Go.Proofs.Ytokeejachclpeaa
namespace Go.Proofs.Ytokeejachclpeaa
open Go.RowKit

/-- Contains k the set a, and nothing of b? -/
def fitB (a b k : Nat) : Bool := decide (andN k a = a) && decide (andN k b = 0)
/-- The first set of least value that fits, among the first k. -/
def betw (v : List Int) (a b : Nat) : Nat → Nat
  | 0 => a
  | k + 1 => if fitB a b k && decide (gv v k < gv v (betw v a b k)) then k else betw v a b k
theorem betw_lt {v : List Int} {a b n : Nat} (ha : a < n) : ∀ k, k ≤ n → betw v a b k < n
  | 0, _ => ha
  | k + 1, hk => by
    unfold betw
    split
    · omega
    · exact betw_lt ha k (by omega)
theorem diff_zero (a k : Nat) : (diffN a k = 0) ↔ andN k a = a := by
  unfold diffN andN
  constructor
  · intro h
    have : a = a &&& k := by
      have h2 : a ^^^ (a &&& k) ^^^ (a &&& k) = (a &&& k) := by rw [h]; simp
      rwa [Nat.xor_assoc, Nat.xor_self, Nat.xor_zero] at h2
    rw [Nat.and_comm]; exact this.symm
  · intro h
    rw [Nat.and_comm, h, Nat.xor_self]
def betwOk (E : Int) (v : List Int) (a b : Int) : Bool := isFn E v && (inR a 0 ((v.length : Int) - 1) && (inR b 0 ((v.length : Int) - 1) && decide (andN a.toNat b.toNat = 0)))
def betwS (E : Int) (v : List Int) (a b : Int) : Int := if betwOk E v a b then (betw v a.toNat b.toNat v.length : Nat) else 0
def betwV (E : Int) (v : List Int) (a b : Int) : Int := if betwOk E v a b then gv v (betw v a.toNat b.toNat v.length) else 0

set_option maxHeartbeats 1000000 in
theorem minimumBetween_any (E : Int) (A : Option Addr) (n c : Nat) (v : List Int) (a b : Int) (w : World) (hv : Ints w A n v) :
    Calls Try.prog 88 #[.agg #[.int .i64 E, .slice A n c], .int .i64 a, .int .i64 b] w fun e w' => e = .returned (.tuple #[.int .i64 (betwV E v a b), .int .i64 (betwS E v a b), .bool (betwOk E v a b)]) ∧ Below w.heap.size w w' := by
  cases hf : isFn E v
  · have e0 : betwOk E v a b = false := by simp [betwOk, hf]
    go_enter Try.func88, Try.ntmps88
    go_wp2_with fail
    refine (isFunction_any _ _ _ _ v _ (hv.alloc _)).mono ?_
    rintro e w1 ⟨rfl, hb1⟩
    go_wp2
    go_ret3
    exact ⟨by simp [betwV, betwS, e0], ((Below.refl _ _).alloc (Nat.le_refl _) _).trans (hb1.mono (by simp))⟩
  · have Hf := hide hf
    obtain ⟨N, rfl, fo⟩ := FnOk.of hf hv
    have hN := fo.hN
    have hlen := hide fo.hl
    have n32 := fo.n32
    have n0 := fo.n0
    have hnp := hide (show (n : Int) = ((p2 N : Nat) : Int) by have := fo.hn; unfold p2; omega)
    have eOk : betwOk N v a b = (inR a 0 ((p2 N : Nat) - 1) && (inR b 0 ((p2 N : Nat) - 1) && decide (andN a.toNat b.toNat = 0))) := by simp [betwOk, Hf.out, hlen.out, hnp.out]
    cases ha : inR a 0 ((p2 N : Nat) - 1)
    · have e0 : betwOk N v a b = false := by rw [eOk, ha]; rfl
      clear eOk
      go_enter Try.func88, Try.ntmps88
      go_wp2_with fail
      refine (isFunction_any _ _ _ _ v _ (hv.alloc _)).mono ?_
      rintro e w1 ⟨rfl, hb1⟩
      obtain ⟨-, -, r0, r1⟩ := ((FB.start w N A n c).step hb1).parts
      go_wp2_with (go_at_call 177; refine (isSetOf_any _ _ _ hN).mono ?_; rintro e w' ⟨rfl, rfl⟩)
      go_ret3
      exact ⟨by simp [betwV, betwS, e0], ((Below.refl _ _).alloc (Nat.le_refl _) _).trans (hb1.mono (by simp))⟩
    cases hb : inR b 0 ((p2 N : Nat) - 1)
    · have e0 : betwOk N v a b = false := by rw [eOk, ha, hb]; rfl
      clear eOk
      go_enter Try.func88, Try.ntmps88
      go_wp2_with fail
      refine (isFunction_any _ _ _ _ v _ (hv.alloc _)).mono ?_
      rintro e w1 ⟨rfl, hb1⟩
      obtain ⟨-, -, r0, r1⟩ := ((FB.start w N A n c).step hb1).parts
      go_wp2_with (go_at_call 177; refine (isSetOf_any _ _ _ hN).mono ?_; rintro e w' ⟨rfl, rfl⟩)
      go_ret3
      exact ⟨by simp [betwV, betwS, e0], ((Below.refl _ _).alloc (Nat.le_refl _) _).trans (hb1.mono (by simp))⟩
    obtain ⟨a1, a2⟩ := inR_true ha
    obtain ⟨b1, b2⟩ := inR_true hb
    obtain ⟨an, rfl⟩ := Int.eq_ofNat_of_zero_le a1
    obtain ⟨bn, rfl⟩ := Int.eq_ofNat_of_zero_le b1
    have han : an < n := by have := hnp.out; omega
    have hbn : bn < n := by have := hnp.out; omega
    have han' : an < 1024 := by omega
    have hbn' : bn < 1024 := by omega
    clear a1 a2 b1 b2
    by_cases hab : andN an bn = 0
    · have HOK := hide (show betwOk N v an bn = true by rw [eOk, ha, hb]; simp [hab])
      clear eOk
      obtain ⟨bb, off, rfl, hbb, hc⟩ := hv.all_ fo.n0
      have HC := hide hc; clear hc
      go_enter Try.func88, Try.ntmps88
      go_wp2_with fail
      refine (isFunction_any _ _ _ _ v _ (hv.alloc _)).mono ?_
      rintro e w1 ⟨rfl, hb1⟩
      have hFB := (FB.start w N (some ⟨bb, off, none⟩) n c).step hb1
      obtain ⟨hbel, hz, r0, r1⟩ := hFB.parts
      go_wp2_with (go_at_call 177; refine (isSetOf_any _ _ _ hN).mono ?_; rintro e w' ⟨rfl, rfl⟩)
      clear hab ha hb hf
      have hcw : ∀ j, j < n → w1.cell? ⟨bb, off + j, none⟩ = some (.int .i64 (gv v j)) := fun j hj => (hbel.cell (p := ⟨bb, off + j, none⟩) hbb).trans (HC.out j hj)
      have HCW := hide hcw; clear hcw
      go_loop [9, 39] (fun t i => ∃ k : Nat, k ≤ n ∧ i = .int .i64 k ∧ t = .int .i64 (betw v an bn k : Nat)) (fun _ i => n - (intOf i).toNat)
      case atStart => exact ⟨0, Nat.zero_le _, rfl, rfl⟩
      case round =>
        obtain ⟨k, hk, rfl, rfl⟩ := hrel
        have hbk := betw_lt (v := v) (b := bn) han k hk
        have c2 := HCW.out _ hbk
        by_cases hlt : k < n
        · have c1 := HCW.out _ hlt
          have hk10 : k < 1024 := by omega
          have hs := hide (show betw v an bn (k + 1) = if fitB an bn k && decide (gv v k < gv v (betw v an bn k)) then k else betw v an bn k from rfl)
          have hd := hide (diff_zero an k)
          go_wp2
          all_goals refine ⟨⟨k + 1, by omega, by go_num, ?_⟩, by simp [intOf]; omega⟩
          all_goals rw [hs.out]
          all_goals simp only [fitB, ← hd.out]
          · simp [*]
          · have hq : gv v (betw v an bn k) ≤ gv v k := by assumption
            simp [Int.not_lt.2 hq]
          · simp [*]
          · simp [*]
        · obtain rfl : k = n := by omega
          go_wp2
          go_ret3
          exact ⟨by simp [betwV, betwS, HOK.out, hlen.out], hbel⟩
    · have e0 : betwOk N v an bn = false := by rw [eOk]; simp [hab]
      clear eOk
      have e1 : ((andN an bn : Nat) : Int) ≠ 0 := by omega
      go_enter Try.func88, Try.ntmps88
      go_wp2_with fail
      refine (isFunction_any _ _ _ _ v _ (hv.alloc _)).mono ?_
      rintro e w1 ⟨rfl, hb1⟩
      obtain ⟨-, -, r0, r1⟩ := ((FB.start w N A n c).step hb1).parts
      go_wp2_with (go_at_call 177; refine (isSetOf_any _ _ _ hN).mono ?_; rintro e w' ⟨rfl, rfl⟩)
      go_ret3
      exact ⟨by simp [betwV, betwS, e0], ((Below.refl _ _).alloc (Nat.le_refl _) _).trans (hb1.mono (by simp))⟩
set_option maxHeartbeats 1000000 in
theorem specMinimumBetween_any (E : Int) (A : Option Addr) (n c : Nat) (v : List Int) (a b : Int) (w : World) (hv : Ints w A n v) :
    Calls Try.prog 89 #[.agg #[.int .i64 E, .slice A n c], .int .i64 a, .int .i64 b] w fun e w' => e = .returned (.tuple #[.int .i64 (betwV E v a b), .int .i64 (betwS E v a b), .bool (betwOk E v a b)]) ∧ Below w.heap.size w w' := by
  have eOk : betwOk E v a b = ((isFn E v && inR a 0 ((n : Int) - 1)) && ((isFn E v && inR b 0 ((n : Int) - 1)) && decide (andN a.toNat b.toNat = 0))) := by
    unfold betwOk; rw [hv.len]; cases isFn E v <;> simp
  cases ha : (isFn E v && inR a 0 ((n : Int) - 1))
  · have e0 : betwOk E v a b = false := by rw [eOk, ha]; rfl
    clear eOk
    go_enter Try.func89, Try.ntmps89
    go_wp2_with fail
    refine (l5In_any _ _ _ _ v a _ (hv.alloc _)).mono ?_
    rintro e w1 ⟨rfl, hb1⟩
    rw [ha]
    go_wp2
    go_ret3
    exact ⟨by simp [betwV, betwS, e0], ((Below.refl _ _).alloc (Nat.le_refl _) _).trans (hb1.mono (by simp))⟩
  cases hb : (isFn E v && inR b 0 ((n : Int) - 1))
  · have e0 : betwOk E v a b = false := by rw [eOk, ha, hb]; rfl
    clear eOk
    go_enter Try.func89, Try.ntmps89
    go_wp2_with fail
    refine (l5In_any _ _ _ _ v a _ (hv.alloc _)).mono ?_
    rintro e w1 ⟨rfl, hb1⟩
    have hFB := (FB.start w E A n c).step hb1
    obtain ⟨hbel, hz, r0, r1⟩ := hFB.parts
    rw [ha]
    go_wp2_with fail
    refine (l5In_any _ _ _ _ v b _ (hv.below hbel (Nat.le_refl _))).mono ?_
    rintro e w2 ⟨rfl, hb2⟩
    rw [hb]
    go_wp2
    go_ret3
    exact ⟨by simp [betwV, betwS, e0], (hFB.step hb2).1⟩
  have Ha := hide ha
  have Hb := hide hb
  have hf : isFn E v = true := by simp at ha; exact ha.1
  obtain ⟨N, rfl, fo⟩ := FnOk.of hf hv
  have hN := fo.hN
  have hlen := hide fo.hl
  have n32 := fo.n32
  have n0 := fo.n0
  obtain ⟨a1, a2⟩ := inR_true (show inR a 0 ((n : Int) - 1) = true by simp at ha; exact ha.2)
  obtain ⟨b1, b2⟩ := inR_true (show inR b 0 ((n : Int) - 1) = true by simp at hb; exact hb.2)
  clear ha hb hf
  obtain ⟨an, rfl⟩ := Int.eq_ofNat_of_zero_le a1
  obtain ⟨bn, rfl⟩ := Int.eq_ofNat_of_zero_le b1
  have han : an < n := by omega
  have hbn : bn < n := by omega
  have han' : an < 1024 := by omega
  have hbn' : bn < 1024 := by omega
  clear a1 a2 b1 b2
  by_cases hab : andN an bn = 0
  · have HOK := hide (show betwOk N v an bn = true by rw [eOk, Ha.out, Hb.out]; simp [hab])
    clear eOk
    obtain ⟨bb, off, rfl, hbb, hc⟩ := hv.all_ fo.n0
    have HC := hide hc; clear hc
    go_enter Try.func89, Try.ntmps89
    go_wp2_with fail
    refine (l5In_any _ _ _ _ v an _ (hv.alloc _)).mono ?_
    rintro e w1 ⟨rfl, hb1⟩
    have hFB := (FB.start w N (some ⟨bb, off, none⟩) n c).step hb1
    obtain ⟨hbel, hz, r0, r1⟩ := hFB.parts
    rw [Ha.out]
    go_wp2_with fail
    refine (l5In_any _ _ _ _ v bn _ (hv.below hbel (Nat.le_refl _))).mono ?_
    rintro e w2 ⟨rfl, hb2⟩
    have hFB2 := hFB.step hb2
    clear r0 r1
    rw [Hb.out]
    go_wp2
    clear hab
    go_loopw [9, 10] (fun t i wr => ∃ k : Nat, k ≤ n ∧ i = .int .i64 k ∧ t = .int .i64 (betw v an bn k : Nat) ∧ FB w wr N (some ⟨bb, off, none⟩) n c) (fun _ i _ => n - (intOf i).toNat)
    case atStart => exact ⟨0, Nat.zero_le _, rfl, rfl, hFB2⟩
    case round =>
      obtain ⟨k, hk, rfl, rfl, hFBr⟩ := hrel
      obtain ⟨hbelr, hzr, r0, r1⟩ := hFBr.parts
      have hbk := betw_lt (v := v) (b := bn) han k hk
      have c2 : wr.cell? ⟨bb, off + betw v an bn k, none⟩ = some (.int .i64 (gv v (betw v an bn k))) := (hbelr.cell (p := ⟨bb, off + betw v an bn k, none⟩) hbb).trans (HC.out _ hbk)
      by_cases hlt : k < n
      · have c1 : wr.cell? ⟨bb, off + k, none⟩ = some (.int .i64 (gv v k)) := (hbelr.cell (p := ⟨bb, off + k, none⟩) hbb).trans (HC.out _ hlt)
        have hk10 : k < 1024 := by omega
        have hs := hide (show betw v an bn (k + 1) = if fitB an bn k && decide (gv v k < gv v (betw v an bn k)) then k else betw v an bn k from rfl)
        have i1 : (0 : Int) ≤ (k : Int) := by omega
        have i2 : (k : Int) < (n : Int) := by omega
        have i3 : (0 : Int) ≤ (betw v an bn k : Int) := by omega
        have i4 : (betw v an bn k : Int) < (n : Int) := by omega
        have HB := hide hbelr; clear hbelr
        by_cases h1 : andN k an = an
        · have e1 : (((andN k an : Nat) : Int) == (an : Int)) = true := by simp [h1]
          have H1 := hide h1; clear h1
          by_cases h2 : andN k bn = 0
          · have e2 : (((andN k bn : Nat) : Int) == 0) = true := by simp [h2]
            have H2 := hide h2; clear h2
            by_cases h3 : gv v k < gv v (betw v an bn k)
            · have e3 : decide (gv v k < gv v (betw v an bn k)) = true := by simp [h3]
              go_wp2
              go_quiet (fail)
              go_wp2
              go_roundw
              case rel => exact ⟨k + 1, by omega, by go_num, by rw [hs.out]; simp [fitB, H1.out, H2.out, h3], hFBr.drewN _⟩
              case measure => simp [intOf]; omega
            · have e3 : decide (gv v k < gv v (betw v an bn k)) = false := by simp; omega
              go_wp2
              go_quiet (fail)
              go_wp2
              go_roundw
              case rel => exact ⟨k + 1, by omega, by go_num, by rw [hs.out, if_neg (by simp only [Bool.and_eq_true, decide_eq_true_eq]; exact fun h => absurd h.2 (by omega))], hFBr.drewN _⟩
              case measure => simp [intOf]; omega
          · have e2 : (((andN k bn : Nat) : Int) == 0) = false := by simp [h2]
            go_wp2
            go_quiet (fail)
            go_wp2
            go_roundw
            case rel => exact ⟨k + 1, by omega, by go_num, by rw [hs.out]; simp [fitB, h2], hFBr.drewN _⟩
            case measure => simp [intOf]; omega
        · have e1 : (((andN k an : Nat) : Int) == (an : Int)) = false := by simp; omega
          go_wp2
          go_quiet (fail)
          go_wp2
          go_roundw
          case rel => exact ⟨k + 1, by omega, by go_num, by rw [hs.out]; simp [fitB, h1], hFBr.drewN _⟩
          case measure => simp [intOf]; omega
      · obtain rfl : k = n := by omega
        go_wp2
        go_ret3
        exact ⟨by simp [betwV, betwS, HOK.out, hlen.out], hbelr⟩
  · have e0 : betwOk N v an bn = false := by rw [eOk]; simp [hab]
    clear eOk
    go_enter Try.func89, Try.ntmps89
    go_wp2_with fail
    refine (l5In_any _ _ _ _ v an _ (hv.alloc _)).mono ?_
    rintro e w1 ⟨rfl, hb1⟩
    have hFB := (FB.start w N A n c).step hb1
    obtain ⟨hbel, hz, r0, r1⟩ := hFB.parts
    rw [Ha.out]
    go_wp2_with fail
    refine (l5In_any _ _ _ _ v bn _ (hv.below hbel (Nat.le_refl _))).mono ?_
    rintro e w2 ⟨rfl, hb2⟩
    rw [Hb.out]
    go_wp2
    go_ret3
    exact ⟨by simp [betwV, betwS, e0], (hFB.step hb2).1⟩
end Go.Proofs.Ytokeejachclpeaa
namespace Go.Proofs.Ytokeejachclpeaa
open Go.RowKit

/-- The number of elements of a set below 32. -/
def popN (s : Nat) : Nat := s % 2 + s / 2 % 2 + s / 4 % 2 + s / 8 % 2 + s / 16 % 2
theorem popN_step {s : Nat} (hs : s < 32) : popN s = s % 2 + popN (s / 2) := by unfold popN; omega
theorem popN_le {s N : Nat} (hN : N ≤ 5) (hs : s < 2 ^ N) : popN s ≤ N := by
  have h : N = 0 ∨ N = 1 ∨ N = 2 ∨ N = 3 ∨ N = 4 ∨ N = 5 := by omega
  unfold popN
  rcases h with rfl | rfl | rfl | rfl | rfl | rfl <;> simp at hs <;> omega
set_option maxHeartbeats 1000000 in
theorem sizeOf_any (s : Nat) (w : World) (hs : s < 32) : Calls Try.prog 198 #[.int .i64 (s : Int)] w fun e w' => e = .returned (.int .i64 ((popN s : Nat) : Int)) ∧ w = w' := by
  have h64 : Calls Try.prog 224 #[.int .u64 (s : Int)] w fun e w' => e = .returned (.int .i64 ((popN s : Nat) : Int)) ∧ w = w' := by
    have h : s = 0 ∨ s = 1 ∨ s = 2 ∨ s = 3 ∨ s = 4 ∨ s = 5 ∨ s = 6 ∨ s = 7 ∨ s = 8 ∨ s = 9 ∨ s = 10 ∨ s = 11 ∨ s = 12 ∨ s = 13 ∨ s = 14 ∨ s = 15 ∨ s = 16 ∨ s = 17 ∨ s = 18 ∨ s = 19 ∨ s = 20 ∨ s = 21 ∨ s = 22 ∨ s = 23 ∨ s = 24 ∨ s = 25 ∨ s = 26 ∨ s = 27 ∨ s = 28 ∨ s = 29 ∨ s = 30 ∨ s = 31 := by omega
    rcases h with rfl | rfl | rfl | rfl | rfl | rfl | rfl | rfl | rfl | rfl | rfl | rfl | rfl | rfl | rfl | rfl | rfl | rfl | rfl | rfl | rfl | rfl | rfl | rfl | rfl | rfl | rfl | rfl | rfl | rfl | rfl | rfl
    all_goals
      go_enter Try.func224, Try.ntmps224
      go_wp2
      go_ret
      exact ⟨by kernel_rfl, rfl⟩
  go_enter Try.func198, Try.ntmps198
  go_wp2_with fail
  have h63 : Calls Try.prog 218 #[.int .u64 (s : Int)] w fun e w' => e = .returned (.int .i64 ((popN s : Nat) : Int)) ∧ w = w' := by
    go_enter Try.func218, Try.ntmps218
    go_wp2_with fail
    refine h64.mono ?_
    rintro e w' ⟨rfl, rfl⟩
    go_wp2
    go_ret
    exact ⟨rfl, rfl⟩
  refine h63.mono ?_
  rintro e w' ⟨rfl, rfl⟩
  go_wp2
  go_ret
  exact ⟨rfl, rfl⟩
theorem l2Size_any (s : Nat) (w : World) (hs : s < 32) : Calls Try.prog 199 #[.int .i64 (s : Int)] w fun e w' => e = .returned (.int .i64 ((popN s : Nat) : Int)) ∧ w = w' := by
  go_enter Try.func199, Try.ntmps199
  go_wp2
  go_loop [3, 4] (fun t i => ∃ x k : Nat, x < 32 ∧ k + popN x = popN s ∧ k ≤ 5 ∧ i = .int .i64 x ∧ t = .int .i64 k) (fun _ i => (intOf i).toNat)
  case atStart => exact ⟨s, 0, hs, by omega, by omega, rfl, rfl⟩
  case round =>
    obtain ⟨x, k, hx, hk, hk5, rfl, rfl⟩ := hrel
    by_cases h0 : 0 < x
    · have e1 : bits .and .i64 (x : Int) 1 = ((x % 2 : Nat) : Int) := by
        have := i64_and_nat x 1 (by omega) (by omega)
        rw [Nat.and_one_is_mod] at this; exact this
      have hst := popN_step hx
      have hp5 : popN s ≤ 5 := popN_le (N := 5) (by omega) (by omega)
      have hm : x % 2 < 2 := Nat.mod_lt _ (by omega)
      have HS := hide (And.intro hst hp5)
      clear hst hp5
      go_wp2
      go_round
      case rel => exact ⟨x / 2, k + x % 2, by omega, by have := HS.out.1; omega, by have := HS.out; omega, by go_num, by go_num⟩
      case measure => simp [intOf]; omega
    · obtain rfl : x = 0 := by omega
      have hk0 : k = popN s := by simpa [popN] using hk
      go_wp2
      go_ret
      exact ⟨by rw [← hk0]; rfl, rfl⟩
/-- The first of the sets below k with a greatest value among those that satisfy p; 0 counts as one of them. -/
def bestN (p : Nat → Bool) (v : List Int) : Nat → Nat
  | 0 => 0
  | k + 1 => if (p k && decide (gv v (bestN p v k) < gv v k)) = true then k else bestN p v k
theorem bestN_lt (p : Nat → Bool) (v : List Int) : ∀ k, 0 < k → bestN p v k < k
  | 0, h => by omega
  | k + 1, _ => by
    unfold bestN
    split
    · omega
    · cases k with
      | zero => simp [bestN]
      | succ j => have := bestN_lt p v (j + 1) (by omega); omega
theorem bestN_one (p : Nat → Bool) (v : List Int) : bestN p v 1 = 0 := by simp [bestN]
theorem bestN_congr {p q : Nat → Bool} (v : List Int) : ∀ k, (∀ s, s < k → p s = q s) → bestN p v k = bestN q v k
  | 0, _ => rfl
  | k + 1, h => by
    have ih := bestN_congr v k (fun s hs => h s (by omega))
    unfold bestN
    rw [ih, h k (by omega)]
def sizeP (k : Int) (s : Nat) : Bool := decide ((popN s : Int) ≤ k)
def bestOk (E : Int) (v : List Int) (k : Int) : Bool := isFn E v && inR k 0 E
def bestI (E : Int) (v : List Int) (k : Int) : Nat := if bestOk E v k then bestN (sizeP k) v v.length else 0
def bestV (E : Int) (v : List Int) (k : Int) : Int := if bestOk E v k then gv v (bestN (sizeP k) v v.length) else 0
set_option maxHeartbeats 1000000 in
theorem bestOfSize_any (E : Int) (A : Option Addr) (n c : Nat) (v : List Int) (k : Int) (w : World) (hv : Ints w A n v) :
    Calls Try.prog 100 #[.agg #[.int .i64 E, .slice A n c], .int .i64 k] w fun e w' => e = .returned (.tuple #[.int .i64 (bestV E v k), .int .i64 (bestI E v k : Int), .bool (bestOk E v k)]) ∧ Below w.heap.size w w' := by
  cases hf : isFn E v
  · have e0 : bestOk E v k = false := by simp [bestOk, hf]
    have e1 : bestI E v k = 0 := by simp [bestI, e0]
    have e2 : bestV E v k = 0 := by simp [bestV, e0]
    rw [e0, e1, e2]; clear e0 e1 e2
    go_enter Try.func100, Try.ntmps100
    go_wp2_with fail
    refine (isFunction_any _ _ _ _ v _ (hv.alloc _)).mono ?_
    rintro e w1 ⟨rfl, hb1⟩
    rw [hf]
    go_wp2
    go_ret3
    exact ⟨rfl, ((FB.start w E A n c).step hb1).1⟩
  cases hr : inR k 0 E
  · have e0 : bestOk E v k = false := by simp [bestOk, hr]
    have e1 : bestI E v k = 0 := by simp [bestI, e0]
    have e2 : bestV E v k = 0 := by simp [bestV, e0]
    rw [e0, e1, e2]; clear e0 e1 e2
    go_enter Try.func100, Try.ntmps100
    go_wp2_with fail
    refine (isFunction_any _ _ _ _ v _ (hv.alloc _)).mono ?_
    rintro e w1 ⟨rfl, hb1⟩
    rw [hf]
    obtain ⟨hbel, hz, r0, r1⟩ := ((FB.start w E A n c).step hb1).parts
    go_wp2_with fail
    refine (within_any _ _ _ _).mono ?_
    rintro e w2 ⟨rfl, rfl⟩
    rw [hr]
    go_wp2
    go_ret3
    exact ⟨rfl, hbel⟩
  · have e0 : bestOk E v k = true := by simp [bestOk, hr, hf]
    have hvl := hv.len
    have e1 : bestI E v k = bestN (sizeP k) v n := by simp [bestI, e0, hvl]
    have e2 : bestV E v k = gv v (bestN (sizeP k) v n) := by simp [bestV, e0, hvl]
    rw [e0, e1, e2]; clear e0 e1 e2 hvl
    have Hf := hide hf
    have Hr := hide hr
    have hle := hv.le
    obtain ⟨N, rfl, fo⟩ := FnOk.of Hf.out hv
    clear hf hr
    have n32 := fo.n32
    have n0 := fo.n0
    obtain ⟨b, off, rfl, hbb, hc⟩ := hv.all_ n0
    have HC := hide hc; clear hc
    go_enter Try.func100, Try.ntmps100
    go_wp2_with fail
    refine (isFunction_any _ _ _ _ v _ (hv.alloc _)).mono ?_
    rintro e w1 ⟨rfl, hb1⟩
    rw [Hf.out]
    have hFB := (FB.start w N (some ⟨b, off, none⟩) n c).step hb1
    obtain ⟨hbel, hz, r0, r1⟩ := hFB.parts
    go_wp2_with fail
    refine (within_any _ _ _ _).mono ?_
    rintro e w2 ⟨rfl, rfl⟩
    rw [Hr.out]
    go_wp2
    go_loop [7, 23] (fun t i => ∃ j : Nat, j ≤ n ∧ i = .int .i64 j ∧ t = .int .i64 (bestN (sizeP k) v j : Int)) (fun _ i => n - (intOf i).toNat)
    case atStart => exact ⟨0, Nat.zero_le _, rfl, rfl⟩
    case round =>
      obtain ⟨j, hj, rfl, rfl⟩ := hrel
      by_cases hlt : j < n
      · have hbl : bestN (sizeP k) v j < n := by
          rcases Nat.eq_zero_or_pos j with rfl | h
          · exact n0
          · exact Nat.lt_of_lt_of_le (bestN_lt _ v j h) hj
        have c1 : w1.cell? ⟨b, off + j, none⟩ = some (.int .i64 (gv v j)) := (hbel.cell (p := ⟨b, off + j, none⟩) hbb).trans (HC.out _ hlt)
        have c2 : w1.cell? ⟨b, off + bestN (sizeP k) v j, none⟩ = some (.int .i64 (gv v (bestN (sizeP k) v j))) := (hbel.cell (p := ⟨b, off + bestN (sizeP k) v j, none⟩) hbb).trans (HC.out _ hbl)
        have hs := hide (show bestN (sizeP k) v (j + 1) = if (sizeP k j && decide (gv v (bestN (sizeP k) v j) < gv v j)) = true then j else bestN (sizeP k) v j from rfl)
        generalize bestN (sizeP k) v j = g at *
        have hsz := sizeOf_any j w1 (by omega)
        have HZ := hide hsz; clear hsz
        cases hp : sizeP k j
        · have hq : ¬ ((popN j : Nat) : Int) ≤ k := by simpa [sizeP] using hp
          have hq2 : k < ((popN j : Nat) : Int) := by omega
          have hq3 : decide (((popN j : Nat) : Int) ≤ k) = false := by simpa using hq
          clear hq
          have hs2 := hide (hs.out.trans (by rw [hp]; simp) : bestN (sizeP k) v (j + 1) = g)
          clear hp hs
          go_wp2_with fail
          refine HZ.out.mono ?_
          rintro e w3 ⟨rfl, rfl⟩
          go_wp2
          go_round
          case rel => exact ⟨j + 1, by omega, by go_num, by rw [hs2.out]⟩
          case measure => simp [intOf]; omega
        · have hq : ((popN j : Nat) : Int) ≤ k := by simpa [sizeP] using hp
          by_cases hg : gv v g < gv v j
          · have hs2 := hide (hs.out.trans (by rw [hp]; simp [hg]) : bestN (sizeP k) v (j + 1) = j)
            clear hp hs
            go_wp2_with fail
            refine HZ.out.mono ?_
            rintro e w3 ⟨rfl, rfl⟩
            go_wp2
            go_round
            case rel => exact ⟨j + 1, by omega, by go_num, by rw [hs2.out]⟩
            case measure => simp [intOf]; omega
          · have hs2 := hide (hs.out.trans (by rw [hp]; simp [hg]) : bestN (sizeP k) v (j + 1) = g)
            clear hp hs
            go_wp2_with fail
            refine HZ.out.mono ?_
            rintro e w3 ⟨rfl, rfl⟩
            go_wp2
            go_round
            case rel => exact ⟨j + 1, by omega, by go_num, by rw [hs2.out]⟩
            case measure => simp [intOf]; omega
      · obtain rfl : j = n := by omega
        have hbl : bestN (sizeP k) v j < j := bestN_lt _ v j n0
        have c2 : w1.cell? ⟨b, off + bestN (sizeP k) v j, none⟩ = some (.int .i64 (gv v (bestN (sizeP k) v j))) := (hbel.cell (p := ⟨b, off + bestN (sizeP k) v j, none⟩) hbb).trans (HC.out _ hbl)
        generalize hgg : bestN (sizeP k) v j = g at *
        go_wp2
        go_ret3
        exact ⟨by first | rfl | (rw [hgg]; rfl), hbel⟩
set_option maxHeartbeats 1000000 in
theorem specBestOfSize_any (E : Int) (A : Option Addr) (n c : Nat) (v : List Int) (k : Int) (w : World) (hv : Ints w A n v) :
    Calls Try.prog 101 #[.agg #[.int .i64 E, .slice A n c], .int .i64 k] w fun e w' => e = .returned (.tuple #[.int .i64 (bestV E v k), .int .i64 (bestI E v k : Int), .bool (bestOk E v k)]) ∧ Below w.heap.size w w' := by
  cases hf : isFn E v
  · have e0 : bestOk E v k = false := by simp [bestOk, hf]
    have e1 : bestI E v k = 0 := by simp [bestI, e0]
    have e2 : bestV E v k = 0 := by simp [bestV, e0]
    rw [e0, e1, e2]; clear e0 e1 e2
    go_enter Try.func101, Try.ntmps101
    go_wp2_with fail
    refine (specIsFunction_any _ _ _ _ v _ (hv.alloc _)).mono ?_
    rintro e w1 ⟨rfl, hb1⟩
    rw [hf]
    go_wp2
    go_ret3
    exact ⟨rfl, ((FB.start w E A n c).step hb1).1⟩
  cases hr : inR k 0 E
  · have e0 : bestOk E v k = false := by simp [bestOk, hr]
    have e1 : bestI E v k = 0 := by simp [bestI, e0]
    have e2 : bestV E v k = 0 := by simp [bestV, e0]
    rw [e0, e1, e2]; clear e0 e1 e2
    go_enter Try.func101, Try.ntmps101
    go_wp2_with fail
    refine (specIsFunction_any _ _ _ _ v _ (hv.alloc _)).mono ?_
    rintro e w1 ⟨rfl, hb1⟩
    rw [hf]
    obtain ⟨hbel, hz, r0, r1⟩ := ((FB.start w E A n c).step hb1).parts
    go_wp2_with fail
    refine (l1In_any _ _ _ _).mono ?_
    rintro e w2 ⟨rfl, rfl⟩
    rw [hr]
    go_wp2
    go_ret3
    exact ⟨rfl, hbel⟩
  · have e0 : bestOk E v k = true := by simp [bestOk, hr, hf]
    have hvl := hv.len
    have e1 : bestI E v k = bestN (sizeP k) v n := by simp [bestI, e0, hvl]
    have e2 : bestV E v k = gv v (bestN (sizeP k) v n) := by simp [bestV, e0, hvl]
    rw [e0, e1, e2]; clear e0 e1 e2 hvl
    have Hf := hide hf
    have Hr := hide hr
    have hle := hv.le
    obtain ⟨N, rfl, fo⟩ := FnOk.of Hf.out hv
    clear hf hr
    have n32 := fo.n32
    have n0 := fo.n0
    obtain ⟨b, off, rfl, hbb, hc⟩ := hv.all_ n0
    have HC := hide hc; clear hc
    go_enter Try.func101, Try.ntmps101
    go_wp2_with fail
    refine (specIsFunction_any _ _ _ _ v _ (hv.alloc _)).mono ?_
    rintro e w1 ⟨rfl, hb1⟩
    rw [Hf.out]
    have hFB := (FB.start w N (some ⟨b, off, none⟩) n c).step hb1
    obtain ⟨hbel, hz, r0, r1⟩ := hFB.parts
    go_wp2_with fail
    refine (l1In_any _ _ _ _).mono ?_
    rintro e w2 ⟨rfl, rfl⟩
    rw [Hr.out]
    go_wp2
    go_loopw [7, 8] (fun t i wr => ∃ j : Nat, 1 ≤ j ∧ j ≤ n ∧ i = .int .i64 j ∧ t = .int .i64 (bestN (sizeP k) v j : Int) ∧ FB w wr N (some ⟨b, off, none⟩) n c) (fun _ i _ => n - (intOf i).toNat)
    case atStart => exact ⟨1, Nat.le_refl _, n0, rfl, by rw [bestN_one]; rfl, hFB⟩
    clear r0 r1 hbel hz hFB hb1
    case round =>
      obtain ⟨j, hj1, hj, rfl, rfl, hFBr⟩ := hrel
      obtain ⟨hbel, hz, r0, r1⟩ := hFBr.parts
      have hbl : bestN (sizeP k) v j < j := bestN_lt _ v j hj1
      have hbl2 : bestN (sizeP k) v j < n := by omega
      have c2 : wr.cell? ⟨b, off + bestN (sizeP k) v j, none⟩ = some (.int .i64 (gv v (bestN (sizeP k) v j))) := (hbel.cell (p := ⟨b, off + bestN (sizeP k) v j, none⟩) hbb).trans (HC.out _ hbl2)
      by_cases hlt : j < n
      · have c1 : wr.cell? ⟨b, off + j, none⟩ = some (.int .i64 (gv v j)) := (hbel.cell (p := ⟨b, off + j, none⟩) hbb).trans (HC.out _ hlt)
        have hs := hide (show bestN (sizeP k) v (j + 1) = if (sizeP k j && decide (gv v (bestN (sizeP k) v j) < gv v j)) = true then j else bestN (sizeP k) v j from rfl)
        generalize bestN (sizeP k) v j = g at *
        have hj32 : j < 32 := by omega
        have i1 : (0 : Int) ≤ (j : Int) := by omega
        have i2 : (j : Int) < (n : Int) := by omega
        have i3 : (0 : Int) ≤ (g : Int) := by omega
        have i4 : (g : Int) < (n : Int) := by omega
        have hb' := hide hbel; clear hbel
        cases hp : sizeP k j
        · have hq : ¬ ((popN j : Nat) : Int) ≤ k := by simpa [sizeP] using hp
          have hq2 : k < ((popN j : Nat) : Int) := by omega
          have hq3 : decide (((popN j : Nat) : Int) ≤ k) = false := by simpa using hq
          clear hq
          have hs2 := hide (hs.out.trans (by rw [hp]; simp) : bestN (sizeP k) v (j + 1) = g)
          clear hp hs
          go_wp2
          go_quiet ((go_at_call 199; exact quiet_left (l2Size_any j _ hj32)))
          go_wp2
          go_roundw
          case rel => exact ⟨j + 1, by omega, by omega, by go_num, by rw [hs2.out], hFBr.drewN _⟩
          case measure => simp [intOf]; omega
        · have hq : ((popN j : Nat) : Int) ≤ k := by simpa [sizeP] using hp
          by_cases hg : gv v g < gv v j
          · have hs2 := hide (hs.out.trans (by rw [hp]; simp [hg]) : bestN (sizeP k) v (j + 1) = j)
            clear hp hs
            go_wp2
            go_quiet ((go_at_call 199; exact quiet_left (l2Size_any j _ hj32)))
            go_wp2
            go_roundw
            case rel => exact ⟨j + 1, by omega, by omega, by go_num, by rw [hs2.out], hFBr.drewN _⟩
            case measure => simp [intOf]; omega
          · have hs2 := hide (hs.out.trans (by rw [hp]; simp [hg]) : bestN (sizeP k) v (j + 1) = g)
            clear hp hs
            go_wp2
            go_quiet ((go_at_call 199; exact quiet_left (l2Size_any j _ hj32)))
            go_wp2
            go_roundw
            case rel => exact ⟨j + 1, by omega, by omega, by go_num, by rw [hs2.out], hFBr.drewN _⟩
            case measure => simp [intOf]; omega
      · obtain rfl : j = n := by omega
        generalize hgg : bestN (sizeP k) v j = g at *
        go_wp2
        go_ret3
        exact ⟨by first | rfl | (rw [hgg]; rfl), hbel⟩
def maxI (E : Int) (v : List Int) : Nat := if isFn E v then bestN (fun _ => true) v v.length else 0
def maxV (E : Int) (v : List Int) : Int := if isFn E v then gv v (bestN (fun _ => true) v v.length) else 0
theorem bestN_all {N n : Nat} {v : List Int} (fo : FnOk N n v) : bestN (sizeP N) v v.length = bestN (fun _ => true) v v.length := by
  apply bestN_congr
  intro s hs
  have hn : v.length = 2 ^ N := by rw [fo.hl, fo.hn]
  have := popN_le fo.hN (hn ▸ hs)
  simp [sizeP]; omega
theorem maximumOf_any (E : Int) (A : Option Addr) (n c : Nat) (v : List Int) (w : World) (hv : Ints w A n v) :
    Calls Try.prog 109 #[.agg #[.int .i64 E, .slice A n c]] w fun e w' => e = .returned (.tuple #[.int .i64 (maxV E v), .int .i64 (maxI E v : Int), .bool (isFn E v)]) ∧ Below w.heap.size w w' := by
  cases hf : isFn E v
  · have e1 : maxI E v = 0 := by simp [maxI, hf]
    have e2 : maxV E v = 0 := by simp [maxV, hf]
    rw [e1, e2]; clear e1 e2
    go_enter Try.func109, Try.ntmps109
    go_wp2_with fail
    refine (isFunction_any _ _ _ _ v _ (hv.alloc _)).mono ?_
    rintro e w1 ⟨rfl, hb1⟩
    rw [hf]
    go_wp2
    go_ret3
    exact ⟨rfl, ((FB.start w E A n c).step hb1).1⟩
  · have Hf := hide hf
    obtain ⟨N, rfl, fo⟩ := FnOk.of Hf.out hv
    have hr : inR (N : Int) 0 (N : Int) = true := by simp [inR]
    have e0 : bestOk N v N = true := by simp [bestOk, hr, hf]
    have e1 : bestI N v N = maxI N v := by rw [bestI, e0, maxI, hf, bestN_all fo]
    have e2 : bestV N v N = maxV N v := by rw [bestV, e0, maxV, hf, bestN_all fo]
    have H1 := hide e1; have H2 := hide e2; have H0 := hide e0
    clear e0 e1 e2 hr hf
    go_enter Try.func109, Try.ntmps109
    go_wp2_with fail
    refine (isFunction_any _ _ _ _ v _ (hv.alloc _)).mono ?_
    rintro e w1 ⟨rfl, hb1⟩
    rw [Hf.out]
    have hFB := (FB.start w N A n c).step hb1
    obtain ⟨hbel, hz, r0, r1⟩ := hFB.parts
    go_wp2_with fail
    refine (bestOfSize_any _ _ _ _ v _ _ (hv.below hbel (Nat.le_refl _))).mono ?_
    rintro e w2 ⟨rfl, hb2⟩
    rw [H0.out, H1.out, H2.out]
    go_wp2
    go_ret3
    exact ⟨rfl, (hFB.step hb2).1⟩
set_option maxHeartbeats 400000 in
theorem specMaximumOf_any (E : Int) (A : Option Addr) (n c : Nat) (v : List Int) (w : World) (hv : Ints w A n v) :
    Calls Try.prog 110 #[.agg #[.int .i64 E, .slice A n c]] w fun e w' => e = .returned (.tuple #[.int .i64 (maxV E v), .int .i64 (maxI E v : Int), .bool (isFn E v)]) ∧ Below w.heap.size w w' := by
  cases hf : isFn E v
  · have e1 : maxI E v = 0 := by simp [maxI, hf]
    have e2 : maxV E v = 0 := by simp [maxV, hf]
    rw [e1, e2]; clear e1 e2
    go_enter Try.func110, Try.ntmps110
    go_wp2_with fail
    refine (specIsFunction_any _ _ _ _ v _ (hv.alloc _)).mono ?_
    rintro e w1 ⟨rfl, hb1⟩
    rw [hf]
    go_wp2
    go_ret3
    exact ⟨rfl, ((FB.start w E A n c).step hb1).1⟩
  · have hvl := hv.len
    have e1 : maxI E v = bestN (fun _ => true) v n := by simp [maxI, hf, hvl]
    have e2 : maxV E v = gv v (bestN (fun _ => true) v n) := by simp [maxV, hf, hvl]
    rw [e1, e2]; clear e1 e2 hvl
    have Hf := hide hf
    have hle := hv.le
    obtain ⟨N, rfl, fo⟩ := FnOk.of Hf.out hv
    clear hf
    have n32 := fo.n32
    have n0 := fo.n0
    obtain ⟨b, off, rfl, hbb, hc⟩ := hv.all_ n0
    have HC := hide hc; clear hc
    go_enter Try.func110, Try.ntmps110
    go_wp2_with fail
    refine (specIsFunction_any _ _ _ _ v _ (hv.alloc _)).mono ?_
    rintro e w1 ⟨rfl, hb1⟩
    rw [Hf.out]
    have hFB := (FB.start w N (some ⟨b, off, none⟩) n c).step hb1
    go_wp2
    go_loopw [5, 6] (fun t i wr => ∃ j : Nat, 1 ≤ j ∧ j ≤ n ∧ i = .int .i64 j ∧ t = .int .i64 (bestN (fun _ => true) v j : Int) ∧ FB w wr N (some ⟨b, off, none⟩) n c) (fun _ i _ => n - (intOf i).toNat)
    case atStart => exact ⟨1, Nat.le_refl _, n0, rfl, by rw [bestN_one]; rfl, hFB⟩
    clear hFB hb1
    case round =>
      obtain ⟨j, hj1, hj, rfl, rfl, hFBr⟩ := hrel
      obtain ⟨hbel, hz, r0, r1⟩ := hFBr.parts
      have hbl : bestN (fun _ => true) v j < j := bestN_lt _ v j hj1
      have hbl2 : bestN (fun _ => true) v j < n := by omega
      have c2 : wr.cell? ⟨b, off + bestN (fun _ => true) v j, none⟩ = some (.int .i64 (gv v (bestN (fun _ => true) v j))) := (hbel.cell (p := ⟨b, off + bestN (fun _ => true) v j, none⟩) hbb).trans (HC.out _ hbl2)
      by_cases hlt : j < n
      · have c1 : wr.cell? ⟨b, off + j, none⟩ = some (.int .i64 (gv v j)) := (hbel.cell (p := ⟨b, off + j, none⟩) hbb).trans (HC.out _ hlt)
        have hs := hide (show bestN (fun _ => true) v (j + 1) = if (true && decide (gv v (bestN (fun _ => true) v j) < gv v j)) = true then j else bestN (fun _ => true) v j from rfl)
        generalize bestN (fun _ => true) v j = g at *
        have i1 : (0 : Int) ≤ (j : Int) := by omega
        have i2 : (j : Int) < (n : Int) := by omega
        have i3 : (0 : Int) ≤ (g : Int) := by omega
        have i4 : (g : Int) < (n : Int) := by omega
        have hb' := hide hbel; clear hbel
        by_cases hg : gv v g < gv v j
        · have hs2 := hide (hs.out.trans (by simp [hg]) : bestN (fun _ => true) v (j + 1) = j)
          clear hs
          go_wp2
          go_quiet (fail)
          go_wp2
          go_roundw
          case rel => exact ⟨j + 1, by omega, by omega, by go_num, by rw [hs2.out], hFBr.drewN _⟩
          case measure => simp [intOf]; omega
        · have hs2 := hide (hs.out.trans (by simp [hg]) : bestN (fun _ => true) v (j + 1) = g)
          clear hs
          go_wp2
          go_quiet (fail)
          go_wp2
          go_roundw
          case rel => exact ⟨j + 1, by omega, by omega, by go_num, by rw [hs2.out], hFBr.drewN _⟩
          case measure => simp [intOf]; omega
      · obtain rfl : j = n := by omega
        generalize hgg : bestN (fun _ => true) v j = g at *
        go_wp2
        go_ret3
        exact ⟨by first | rfl | (rw [hgg]; rfl), hbel⟩
end Go.Proofs.Ytokeejachclpeaa
