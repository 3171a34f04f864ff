/-
  Walks: is a base a best one.
-/
import Derived.Test.YtokeejachclpeaaLevM
import Derived.Test.YtokeejachclpeaaLinM
import Derived.Test.YtokeejachclpeaaBelM
namespace Go.Proofs.Ytokeejachclpeaa
open Go.RowKit

def tgtL (v x L : List Int) (k : Nat) : Bool := decide (∀ j, j < k → slk v x (gv L j).toNat = 0)
theorem tgt_step {v x L : List Int} {k s : Nat} (h : tgtL v x L k = true) (hs : gv L k = (s : Int)) (h2 : slk v x s = 0) : tgtL v x L (k + 1) = true := by
  simp only [tgtL, decide_eq_true_eq] at *
  intro j hj
  by_cases he : j = k
  · subst he; rw [hs, Int.toNat_natCast]; exact h2
  · exact h j (by omega)
theorem tgt_no {v x L : List Int} {k s r : Nat} (hk : k < r) (hs : gv L k = (s : Int)) (h2 : slk v x s ≠ 0) : tgtL v x L r = false := by
  simp only [tgtL, decide_eq_false_iff_not]
  intro hall
  have := hall k hk
  rw [hs, Int.toNat_natCast] at this
  exact h2 this
theorem lev_gv {N : Nat} {x o : List Int} (ho : ordB N o = true) : ∀ k, k ≤ o.length → ∀ j, j < (levT x o k).length → ∃ s : Nat, gv (levT x o k) j = (s : Int) ∧ s < 2 ^ N
  | 0, _, j, hj => by simp [levT] at hj
  | k + 1, hk, j, hj => by
    have ih := lev_gv (x := x) ho k (by omega)
    unfold levT at hj ⊢
    split at hj
    · rename_i hp
      rw [if_pos hp]
      by_cases h1 : j < (levT x o k).length
      · rw [gv_append h1]; exact ih j h1
      · have h2 : j = (levT x o k).length := by simp at hj; omega
        rw [gv_append2 h2]
        exact ⟨_, rfl, ord_seen ho hk⟩
    · rename_i hp
      rw [if_neg hp]
      exact ih j hj
def bbB (E : Int) (v x y : List Int) : Bool := optB E v x && (baseB E v y && tgtL v y (levL x) (levL x).length)
set_option maxHeartbeats 2000000 in
theorem isBestBase_any (E : Int) (A : Option Addr) (n c : Nat) (v : List Int) (A' : Option Addr) (m c' : Nat) (x : List Int) (A2 : Option Addr) (m2 c2 : Nat) (y : List Int) (w : World) (hv : Ints w A n v) (hx : Ints w A' m x) (hy : Ints w A2 m2 y) :
    Calls Try.prog 73 #[.agg #[.int .i64 E, .slice A n c], .slice A' m c', .slice A2 m2 c2] w fun e w' => e = .returned (.bool (bbB E v x y)) ∧ Below w.heap.size w w' := by
  have hF0 := FB.start w E A n c
  obtain ⟨hbel0, hz0, r0, r1⟩ := hF0.parts
  have hcall := canOptimize_any E A n c v A' m c' x _ (hv.below hbel0 (Nat.le_refl _)) (hx.below hbel0 (Nat.le_refl _))
  have HB := hide (fun W (h : Below w.heap.size w W) => isBase_any E A n c v A2 m2 c2 y W (hv.below h (Nat.le_refl _)) (hy.below h (Nat.le_refl _)))
  cases ho : optB E v x
  · have e0 : bbB E v x y = false := by simp [bbB, ho]
    rw [e0]; clear e0
    rw [ho] at hcall
    have HC := hide hcall; clear hcall
    go_enter Try.func73, Try.ntmps73
    go_wp2_with fail
    refine HC.out.mono ?_
    rintro e w1 ⟨rfl, hb1⟩
    go_wp2
    go_ret
    exact ⟨rfl, (hF0.step hb1).1⟩
  rw [ho] at hcall
  have HC := hide hcall; clear hcall
  cases hb : baseB E v y
  · have e0 : bbB E v x y = false := by simp [bbB, hb]
    rw [e0]; clear e0
    rw [hb] at HB
    clear hb ho
    go_enter Try.func73, Try.ntmps73
    go_wp2_with fail
    refine HC.out.mono ?_
    rintro e w1 ⟨rfl, hb1⟩
    have hF1 := hF0.step hb1
    clear r0 r1
    obtain ⟨hbel1, hz1, r0, r1⟩ := hF1.parts
    go_wp2_with fail
    refine (HB.out _ hbel1).mono ?_
    rintro e w2 ⟨rfl, hb2⟩
    go_wp2
    go_ret
    exact ⟨rfl, (hF1.step hb2).1⟩
  rw [hb] at HB
  have e0 : bbB E v x y = tgtL v y (levL x) (levL x).length := by simp [bbB, ho, hb]
  rw [e0]; clear e0
  obtain ⟨hf, hk, hl⟩ := opt_ok ho
  have hbel := (show belowB E v y = true by simp only [baseB, Bool.and_eq_true] at hb; exact hb.1)
  have bvec := (below_ok hbel).vec
  have Hf := hide hf
  have hxl := hx.len
  obtain ⟨N, rfl, fo⟩ := FnOk.of hf hv
  have n32 := fo.n32
  have hmN : m = N := by omega
  have eL : levL x = levT x (ordD x m) m := by simp [levL, hk, hxl]
  have HG := hide (fun j (hj : j < (levL x).length) => (show ∃ s : Nat, gv (levL x) j = (s : Int) ∧ s < n by
    rw [eL] at hj ⊢
    obtain ⟨s, h1, h2⟩ := lev_gv (x := x) (ordD_ok x m) m (by rw [ordD_len]; exact Nat.le_refl _) j hj
    exact ⟨s, h1, by rw [fo.hn, ← hmN]; exact h2⟩))
  have HD := hide (fun W (h : Below w.heap.size w W) => levelsOf_any A' m c' x W (hx.below h (Nat.le_refl _)) hk)
  rw [← eL] at HD
  have HW := hide (fun s (hs : s < n) W (h1 : Ints W A n v) (h : Ints W A2 m2 y) => slack_any N A n c v A2 m2 c2 y s W h1 hf h bvec hs)
  clear hf hk hl hbel bvec ho hb eL hmN hxl
  generalize levL x = L at *
  go_enter Try.func73, Try.ntmps73
  go_wp2_with fail
  refine HC.out.mono ?_
  rintro e w1 ⟨rfl, hb1⟩
  have hF1 := hF0.step hb1
  clear r0 r1
  obtain ⟨hbel1, hz1, r0, r1⟩ := hF1.parts
  go_wp2_with fail
  refine (HB.out _ hbel1).mono ?_
  rintro e w2 ⟨rfl, hb2⟩
  have hF2 := hF1.step hb2
  clear r0 r1
  obtain ⟨hbel2, hz2, r0, r1⟩ := hF2.parts
  go_wp2_with fail
  refine (HD.out _ hbel2).mono ?_
  rintro e w3 ⟨B, r, cr, rfl, hown, hr, hb3⟩
  have hF3 := hF2.step hb3
  have hLl := hide hown.len
  clear r0 r1
  go_wp2
  go_loopw [22] (fun t wr => ∃ k : Nat, k ≤ r ∧ t = .int .i64 k ∧ tgtL v y L k = true ∧ Ints wr B r L ∧ FB w wr N A n c) (fun t _ => r - (intOf t).toNat)
  case atStart => exact ⟨0, Nat.zero_le _, rfl, by simp [tgtL], hown.ints, hF3⟩
  case round =>
    obtain ⟨k, hk, rfl, hall, hI, hFBr⟩ := hrel
    obtain ⟨hbelr, hzr, r0, r1⟩ := hFBr.parts
    have Hall := hide hall; clear hall
    by_cases hlt : k < r
    · obtain ⟨s, hs, hsn⟩ := HG.out k (by rw [hLl.out]; exact hlt)
      obtain ⟨b4, off4, rfl, hb4, hc4⟩ := hI.at_ hlt
      rw [hs] at hc4
      have hyes := hide (fun h => tgt_step (s := s) Hall.out hs h)
      have hno := hide (fun h => tgt_no (v := v) (x := y) (r := r) hlt hs h)
      clear hs
      have HW1 := hide (HW.out s hsn wr (hv.below hbelr (Nat.le_refl _)) (hy.below hbelr (Nat.le_refl _)))
      by_cases hq : slk v y s = 0
      · have hs2 := hide (hyes.out hq)
        have hd : (slk v y s != 0) = false := by simp [hq]
        clear hq
        go_wp2_with fail
        refine HW1.out.mono ?_
        rintro e w4 ⟨rfl, hb5⟩
        go_wp2
        go_roundw
        case rel => exact ⟨k + 1, by omega, by go_num, hs2.out, hI.below hb5 (Nat.le_refl _), hFBr.step hb5⟩
        case measure => simp [intOf]; omega
      · have hs2 := hide (hno.out hq)
        have hd : (slk v y s != 0) = true := by simp [hq]
        clear hq
        go_wp2_with fail
        refine HW1.out.mono ?_
        rintro e w4 ⟨rfl, hb5⟩
        go_wp2
        go_ret
        exact ⟨ret_bool (by rw [hLl.out, hs2.out]), (hFBr.step hb5).1⟩
    · obtain rfl : k = r := by omega
      go_wp2
      go_ret
      exact ⟨ret_bool (by rw [hLl.out, Hall.out]), hbelr⟩
end Go.Proofs.Ytokeejachclpeaa
