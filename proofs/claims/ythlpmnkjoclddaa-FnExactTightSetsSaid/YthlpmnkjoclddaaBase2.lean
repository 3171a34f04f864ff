/-
  Walks: bases by the reference; tight sets; dual vectors.
-/
import Derived.Test.YthlpmnkjoclddaaBase
import Derived.Test.YthlpmnkjoclddaaClass
import Derived.BigQuiet
namespace Go.Proofs.Ythlpmnkjoclddaa
open Go.RowKit

set_option maxHeartbeats 1000000 in
theorem specIsBase_any (E : Int) (A : Option Addr) (n c : Nat) (v : List Int) (A' : Option Addr) (m c' : Nat) (x : List Int) (w : World) (hv : Ints w A n v) (hx : Ints w A' m x) :
    Calls Try.prog 31 #[.agg #[.int .i64 E, .slice A n c], .slice A' m c'] w fun e w' => e = .returned (.bool (baseB E v x)) ∧ Below w.heap.size w w' := by
  have hF0 := FB.start w E A n c
  obtain ⟨hbel0, hz0, r0, r1⟩ := hF0.parts
  cases hb : belowB E v x
  · have e0 : baseB E v x = false := by simp [baseB, hb]
    rw [e0]; clear e0
    have q0 := wc_cell r0
    have q1 := wc_cell r1
    have hno := hide (fun W (h1 : Ints W A n v) (h2 : Ints W A' m x) => hb ▸ specIsBelow_any E A n c v A' m c' x W h1 h2)
    clear hb
    go_enter Try.func31, Try.ntmps31
    go_wp2
    refine region_below (by kernel_rfl) (by kernel_rfl) ?_
    repeat (go_big_quiet_step ((go_at_call 16; exact wc_call (hno.out _ (wc_ints (hv.below hbel0 (Nat.le_refl _)) _) (wc_ints (hx.below hbel0 (Nat.le_refl _)) _)))))
    refine wpQuiet_nil ?_
    intro _ hw'
    obtain ⟨p, rfl⟩ := hw'
    go_wp2
    go_ret
    exact ⟨rfl, (hF0.step p.below).1⟩
  · obtain ⟨bfn, bg0, blen, bvec, ball⟩ := below_ok hb
    have hvl := hide hv.len
    have e0 : baseB E v x = decide (slk v x (n - 1) = 0) := by simp [baseB, hb, hvl.out]
    rw [e0]; clear e0
    have Hf := hide bfn
    clear bfn bg0 blen ball
    obtain ⟨N, rfl, fo⟩ := FnOk.of Hf.out hv
    have hN := fo.hN
    have n0 := fo.n0
    have n32 := fo.n32
    have h40 : N ≤ 40 := by omega
    have hfull := hide (p2_full fo.hn)
    have hlt : n - 1 < n := by omega
    have hnd := hide (show (n : Int) - 1 = ((n - 1 : Nat) : Int) by omega)
    obtain ⟨b, off, rfl, hbb, hc⟩ := hv.all_ n0
    generalize n - 1 = d at *
    have hd10 : d < 1024 := by omega
    have i1 : (0 : Int) ≤ (d : Int) := by omega
    have i2 : (d : Int) < (n : Int) := by omega
    have t1 : IntKind.i64.wrap ((n : Int) - 1) = (d : Int) := by rw [hnd.out]; exact IntWalk.i64_in _ (by omega)
    have c0 := (hbel0.cell (p := ⟨b, off + d, none⟩) hbb).trans (hc d hlt)
    have hb0 : b < (w.alloc (.cells #[.int .i64 (N : Int), .slice (some ⟨b, off, none⟩) n c] 27)).heap.size := Nat.lt_of_lt_of_le hbb hbel0.size
    have e2 : (weigh x d == gv v d) = decide (slk v x d = 0) := by rw [Bool.eq_iff_iff]; simp only [beq_iff_eq, decide_eq_true_eq]; unfold slk; omega
    have hq : decide (slk v x d = 0) = decide (slk v x d = 0) := rfl
    generalize decide (slk v x d = 0) = res at *
    clear hc hq
    go_enter Try.func31, Try.ntmps31
    go_wp2
    go_region_held3 (fun w' => w'.cell? ⟨w.heap.size, 0, none⟩ = some (.int .i64 (N : Int)) ∧ w'.cell? ⟨w.heap.size, 1, none⟩ = some (.slice (some ⟨b, off, none⟩) n c) ∧ w'.cell? ⟨b, off + d, none⟩ = some (.int .i64 (gv v d)))
      (first
        | go_keep
        | exact ⟨(hb1.cell (p := ⟨w.heap.size, 0, none⟩) hz0).trans r0, (hb1.cell (p := ⟨w.heap.size, 1, none⟩) hz0).trans r1, (hb1.cell (p := ⟨b, off + d, none⟩) hb0).trans c0⟩)
      (first
        | (go_at_call 16; refine (specIsBelow_any N _ n c v A' m c' x _ (hv.below hbel0 (Nat.le_refl _)).drew (hx.below hbel0 (Nat.le_refl _)).drew).mono ?_; rintro e w1 ⟨rfl, hb1⟩; rw [hb]; have hFa := hF0.drew.step hb1)
        | (go_at_call 65; refine (l2Full_any N _ h40).mono ?_; rintro e w2 ⟨rfl, rfl⟩; rw [hfull.out])
        | (go_at_call 50; refine (l3Weigh_any A' m c' x d _ (hx.below hFa.1 (Nat.le_refl _)) bvec hd10).mono ?_; rintro e w3 ⟨rfl, rfl⟩))
    go_wp2
    go_ret
    exact ⟨rfl, hFa.1⟩
def tightL (E : Int) (v x : List Int) : List Int := if belowB E v x then selI (fun s => decide (slk v x s = 0)) v.length else []
set_option maxHeartbeats 400000 in
theorem tightSets_any (E : Int) (A : Option Addr) (n c : Nat) (v : List Int) (A' : Option Addr) (m c' : Nat) (x : List Int) (w : World) (hv : Ints w A n v) (hx : Ints w A' m x) :
    Calls Try.prog 44 #[.agg #[.int .i64 E, .slice A n c], .slice A' m c'] w fun e w' => ∃ B r cr, e = .returned (.tuple #[.slice B r cr, .bool (belowB E v x)]) ∧ Own w' w.heap.size B r cr (tightL E v x) ∧ r ≤ 1048576 ∧ Below w.heap.size w w' := by
  cases hb : belowB E v x
  · have e0 : tightL E v x = [] := by simp [tightL, hb]
    rw [e0]; clear e0
    go_enter Try.func44, Try.ntmps44
    go_wp2_with fail
    refine (isBelow_any _ _ _ _ v _ _ _ x _ (hv.alloc _) (hx.alloc _)).mono ?_
    rintro e w1 ⟨rfl, hb1⟩
    rw [hb]
    go_wp2
    go_ret2
    exact ⟨none, 0, 0, rfl, own_nil _ _, by omega, ((FB.start w E A n c).step hb1).1⟩
  · obtain ⟨bfn, bg0, blen, bvec, ball⟩ := below_ok hb
    have Hf := hide bfn
    have Hb := hide hb
    have hvl := hv.len
    have e0 : tightL E v x = selI (fun s => decide (slk v x s = 0)) n := by simp [tightL, hb, hvl]
    rw [e0]; clear e0 hvl
    clear bfn bg0 blen ball hb
    have hle := hv.le
    obtain ⟨N, rfl, fo⟩ := FnOk.of Hf.out hv
    have n32 := fo.n32
    go_enter Try.func44, Try.ntmps44
    go_wp2_with fail
    refine (isBelow_any _ _ _ _ v _ _ _ x _ (hv.alloc _) (hx.alloc _)).mono ?_
    rintro e w1 ⟨rfl, hb1⟩
    have hFB := (FB.start w N A n c).step hb1
    obtain ⟨hbel, hz, r0, r1⟩ := hFB.parts
    rw [Hb.out]
    go_wp2
    clear r0 r1
    go_loopw [6, 15] (fun t i wr => ∃ (k r : Nat) (B : Option Addr) (cr : Nat), k ≤ n ∧ i = .int .i64 k ∧ t = .slice B r cr ∧ Own wr (w.heap.size + 1) B r cr (selI (fun s => decide (slk v x s = 0)) k) ∧ FB w wr N A n c) (fun _ i _ => n - (intOf i).toNat)
    case atStart => exact ⟨0, 0, none, 0, Nat.zero_le _, rfl, rfl, own_nil _ _, hFB⟩
    case round =>
      obtain ⟨k, r, B, cr, hk, rfl, rfl, hown, hFBr⟩ := hrel
      obtain ⟨hbelr, hzr, r0, r1⟩ := hFBr.parts
      have hrl : r ≤ k := by have := hown.len; have := selI_le (fun s => decide (slk v x s = 0)) k; omega
      by_cases hlt : k < n
      · have hS := slack_any N A n c v A' m c' x k wr (hv.below hbelr (Nat.le_refl _)) Hf.out (hx.below hbelr (Nat.le_refl _)) bvec hlt
        have HS := hide hS; clear hS
        cases hq : (slk v x k == 0)
        · have hs := hide (selI_no (p := fun s => decide (slk v x s = 0)) (k := k) (by simpa using hq))
          go_wp2_with fail
          refine HS.out.mono ?_
          rintro e w3 ⟨rfl, hb3⟩
          go_wp2
          go_roundw
          case rel => exact ⟨k + 1, r, B, cr, by omega, by go_num, rfl, by rw [hs.out]; exact hown.below hb3 (Nat.le_refl _), hFBr.step hb3⟩
          case measure => simp [intOf]; omega
        · have hs := hide (selI_yes (p := fun s => decide (slk v x s = 0)) (k := k) (by simpa using hq))
          go_wp2_with fail
          refine HS.out.mono ?_
          rintro e w3 ⟨rfl, hb3⟩
          have hFB3 := hFBr.step hb3
          have hown3 := hown.below hb3 (Nat.le_refl _)
          have hsz := hFB3.2.1
          go_wp2_with (refine wpl_app (by rfl) _ _ (by rfl) (w.heap.size + 1) B r cr w3.heap.size (selI (fun s => decide (slk v x s = 0)) k) (k : Int) (by rfl) (by rfl) (hown3.alloc _) (cell_new w3 _) (by omega) (by simp; omega) ?_; intro g cap w4 hown4 hgrow hat hlt4)
          go_roundw
          case rel => exact ⟨k + 1, r + 1, _, cap, by omega, by go_num, rfl, by rw [hs.out]; exact hown4, app_FB hFB3 hown3 hgrow (Below.refl _ _) rfl⟩
          case measure => simp [intOf]; omega
      · obtain rfl : k = n := by omega
        go_wp2
        go_ret2
        exact ⟨B, r, cr, rfl, hown.less (Nat.le_succ _), by omega, hbelr⟩
set_option maxHeartbeats 1000000 in
theorem specTightSets_any (E : Int) (A : Option Addr) (n c : Nat) (v : List Int) (A' : Option Addr) (m c' : Nat) (x : List Int) (w : World) (hv : Ints w A n v) (hx : Ints w A' m x) :
    Calls Try.prog 43 #[.agg #[.int .i64 E, .slice A n c], .slice A' m c'] w fun e w' => ∃ B r cr, e = .returned (.tuple #[.slice B r cr, .bool (belowB E v x)]) ∧ Own w' w.heap.size B r cr (tightL E v x) ∧ r ≤ 1048576 ∧ Below w.heap.size w w' := by
  have hF0 : FB w ((w.alloc (.cells #[.int .i64 E, .slice A n c] 27)).alloc (.cells #[] 3)) E A n c := (FB.start w E A n c).step ((Below.refl _ _).alloc (Nat.le_refl _) _)
  have hO0 : Own ((w.alloc (.cells #[.int .i64 E, .slice A n c] 27)).alloc (.cells #[] 3)) (w.heap.size + 1) (some ⟨w.heap.size + 1, 0, none⟩) 0 0 [] := by
    simpa using own_none (w.alloc (.cells #[.int .i64 E, .slice A n c] 27))
  cases hb : belowB E v x
  · have e0 : tightL E v x = [] := by simp [tightL, hb]
    rw [e0]; clear e0
    go_enter Try.func43, Try.ntmps43
    go_wp2
    go_loopw [6, 7] (fun t i wr => t = .slice (some ⟨w.heap.size + 1, 0, none⟩) 0 0 ∧ i = .int .i64 0 ∧ Own wr (w.heap.size + 1) (some ⟨w.heap.size + 1, 0, none⟩) 0 0 [] ∧ FB w wr E A n c) (fun _ _ _ => 0)
    case atStart => exact ⟨rfl, rfl, hO0, hF0⟩
    case round =>
      obtain ⟨rfl, rfl, hown, hFBr⟩ := hrel
      obtain ⟨hbelr, hzr, r0, r1⟩ := hFBr.parts
      go_wp2_with fail
      refine (specIsBelow_any _ _ _ _ v _ _ _ x _ (hv.below hbelr (Nat.le_refl _)) (hx.below hbelr (Nat.le_refl _))).mono ?_
      rintro e w1 ⟨rfl, hb1⟩
      rw [hb]
      have hFB1 := hFBr.step hb1
      clear r0 r1
      obtain ⟨hbel1, hz1, r0, r1⟩ := hFB1.parts
      go_wp2_with fail
      refine (specIsBelow_any _ _ _ _ v _ _ _ x _ (hv.below hbel1 (Nat.le_refl _)) (hx.below hbel1 (Nat.le_refl _))).mono ?_
      rintro e w2 ⟨rfl, hb2⟩
      rw [hb]
      go_wp2
      go_ret2
      exact ⟨_, 0, 0, rfl, ((hown.below hb1 (Nat.le_refl _)).below hb2 (Nat.le_refl _)).less (Nat.le_succ _), by omega, (hFB1.step hb2).1⟩
  · obtain ⟨bfn, bg0, blen, bvec, ball⟩ := below_ok hb
    have Hf := hide bfn
    have Hb := hide hb
    have hvl := hv.len
    have e0 : tightL E v x = selI (fun s => decide (slk v x s = 0)) n := by simp [tightL, hb, hvl]
    rw [e0]; clear e0 hvl
    clear bfn bg0 blen ball hb
    have hle := hv.le
    obtain ⟨N, rfl, fo⟩ := FnOk.of Hf.out hv
    have n32 := fo.n32
    obtain ⟨b, off, rfl, hbb, hc⟩ := hv.all_ fo.n0
    have HC := hide hc; clear hc
    go_enter Try.func43, Try.ntmps43
    go_wp2
    go_loopw [6, 7] (fun t i wr => ∃ (k r : Nat) (B : Option Addr) (cr : Nat), k ≤ n ∧ i = .int .i64 k ∧ t = .slice B r cr ∧ Own wr (w.heap.size + 1) B r cr (selI (fun s => decide (slk v x s = 0)) k) ∧ FB w wr N (some ⟨b, off, none⟩) n c) (fun _ i _ => n - (intOf i).toNat)
    case atStart => exact ⟨0, 0, _, 0, Nat.zero_le _, rfl, rfl, hO0, hF0⟩
    case round =>
      obtain ⟨k, r, B, cr, hk, rfl, rfl, hown, hFBr⟩ := hrel
      obtain ⟨hbelr, hzr, r0, r1⟩ := hFBr.parts
      have hrl : r ≤ k := by have := hown.len; have := selI_le (fun s => decide (slk v x s = 0)) k; omega
      go_wp2_with fail
      refine (specIsBelow_any _ _ _ _ v _ _ _ x _ (hv.below hbelr (Nat.le_refl _)) (hx.below hbelr (Nat.le_refl _))).mono ?_
      rintro e w1 ⟨rfl, hb1⟩
      rw [Hb.out]
      have hFB1 := hFBr.step hb1
      have hown1 := hown.below hb1 (Nat.le_refl _)
      clear r0 r1
      obtain ⟨hbel1, hz1, r0, r1⟩ := hFB1.parts
      by_cases hlt : k < n
      · have c1 : w1.cell? ⟨b, off + k, none⟩ = some (.int .i64 (gv v k)) := (hbel1.cell (p := ⟨b, off + k, none⟩) hbb).trans (HC.out _ hlt)
        have i1 : (0 : Int) ≤ (k : Int) := by omega
        have i2 : (k : Int) < (n : Int) := by omega
        have hk10 : k < 1024 := by omega
        have hxr := hide (hx.below hbel1 (Nat.le_refl _))
        have hb1' := hide hbel1; clear hbel1
        have hsz := hFB1.2.1
        cases hq : (weigh x k == gv v k)
        · have hne : ¬ (weigh x k = gv v k) := by simpa using hq
          have hs0 : decide (slk v x k = 0) = false := by rw [decide_eq_false_iff_not]; unfold slk; omega
          have hs := hide (selI_no (p := fun s => decide (slk v x s = 0)) (k := k) hs0)
          clear hs0 hne
          go_wp2
          go_quiet ((go_at_call 50; exact quiet_left (l3Weigh_any _ _ _ x k _ hxr.out bvec hk10)))
          go_wp2
          go_roundw
          case rel => exact ⟨k + 1, r, B, cr, by omega, by go_num, rfl, by rw [hs.out]; exact hown1, hFB1.drewN _⟩
          case measure => simp [intOf]; omega
        · have hne : weigh x k = gv v k := by simpa using hq
          have hs0 : decide (slk v x k = 0) = true := by rw [decide_eq_true_eq]; unfold slk; omega
          have hs := hide (selI_yes (p := fun s => decide (slk v x s = 0)) (k := k) hs0)
          clear hs0 hne
          go_wp2
          go_quiet ((go_at_call 50; exact quiet_left (l3Weigh_any _ _ _ x k _ hxr.out bvec hk10)))
          have hown2 : Own (w1.drewN nq) _ _ _ _ _ := hown1
          have hFB2 := hFB1.drewN nq
          generalize w1.drewN nq = w2 at *
          have hsz2 := hFB2.2.1
          go_wp2_with (refine wpl_app (by rfl) _ _ (by rfl) (w.heap.size + 1) B r cr w2.heap.size (selI (fun s => decide (slk v x s = 0)) k) (k : Int) (by rfl) (by rfl) (hown2.alloc _) (cell_new w2 _) (by omega) (by simp; omega) ?_; intro g cap w4 hown4 hgrow hat hlt4)
          go_roundw
          case rel => exact ⟨k + 1, r + 1, _, cap, by omega, by go_num, rfl, by rw [hs.out]; exact hown4, app_FB hFB2 hown2 hgrow (Below.refl _ _) rfl⟩
          case measure => simp [intOf]; omega
      · obtain rfl : k = n := by omega
        go_wp2_with fail
        refine (specIsBelow_any _ _ _ _ v _ _ _ x _ (hv.below hbel1 (Nat.le_refl _)) (hx.below hbel1 (Nat.le_refl _))).mono ?_
        rintro e w2 ⟨rfl, hb2⟩
        rw [Hb.out]
        go_wp2
        go_ret2
        exact ⟨B, r, cr, rfl, (hown1.below hb2 (Nat.le_refl _)).less (Nat.le_succ _), by omega, (hFB1.step hb2).1⟩
end Go.Proofs.Ythlpmnkjoclddaa
