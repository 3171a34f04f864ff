/-
  Walks: bases, tight sets.
-/
import Derived.Test.YtokeejachclpeaaBelow
import Derived.Test.YtokeejachclpeaaMinz
import Derived.Deep.RegionWith
namespace Go.Proofs.Ytokeejachclpeaa
open Go.RowKit

theorem p2_full {N n : Nat} (hn : n = 2 ^ N) : ((p2 N : Nat) : Int) - 1 = ((n - 1 : Nat) : Int) := by
  have := Nat.two_pow_pos N; unfold p2; omega

theorem allOfFn_any (E : Int) (A : Option Addr) (n c : Nat) (v : List Int) (w : World) (hl : v.length = n) (hf : isFn E v = true) : Calls Try.prog 149 #[.agg #[.int .i64 E, .slice A n c]] w fun e w' => e = .returned (.int .i64 ((n - 1 : Nat) : Int)) ∧ Below w.heap.size w w' := by
  obtain ⟨N, rfl, hN, hn, _⟩ := isFn_true hf
  rw [← p2_full (N := N) (n := n) (by omega)]
  exact allOf_any N A n c w (by omega)
set_option maxHeartbeats 1000000 in
theorem isBase_any (E : Int) (A : Option Addr) (n c : Nat) (v : List Int) (A' : Option Addr) (m c' : Nat) (x : List Int) (w : World) (hv : Ints w A n v) (hx : Ints w A' m x) :
    Calls Try.prog 21 #[.agg #[.int .i64 E, .slice A n c], .slice A' m c'] w fun e w' => e = .returned (.bool (baseB E v x)) ∧ Below w.heap.size w w' := by
  have hF0 := FB.start w E A n c
  obtain ⟨hbel0, hz0, r0, r1⟩ := hF0.parts
  cases hb : belowB E v x
  · have e0 : baseB E v x = false := by simp [baseB, hb]
    rw [e0]; clear e0
    have hno := hide (fun W (h1 : Ints W A n v) (h2 : Ints W A' m x) => hb ▸ isBelow_any E A n c v A' m c' x W h1 h2)
    clear hb
    go_enter Try.func21, Try.ntmps21
    go_wp2
    first
      | go_region_with (go_at_call 37; refine (hno.out _ (hv.below hbel0 (Nat.le_refl _)).drew (hx.below hbel0 (Nat.le_refl _)).drew).mono ?_; rintro e w1 ⟨rfl, hb1⟩)
      | fail
    all_goals
      go_wp2
      go_ret
      exact ⟨rfl, (hF0.drew.step hb1).1⟩
  · obtain ⟨bfn, bg0, blen, bvec, ball⟩ := below_ok hb
    have hvl := hide hv.len
    have e0 : baseB E v x = decide (slk v x (n - 1) = 0) := by simp [baseB, hb, hvl.out]
    rw [e0]; clear e0
    have Hf := hide bfn
    clear bfn bg0 blen ball
    obtain ⟨N, rfl, fo⟩ := FnOk.of Hf.out hv
    have hN := fo.hN
    have n0 := fo.n0
    have h40 : N ≤ 40 := by omega
    have hfull := hide (p2_full fo.hn)
    have hlt : n - 1 < n := by omega
    generalize n - 1 = d at *
    go_enter Try.func21, Try.ntmps21
    go_wp2
    go_region_held3 (fun w' => w'.cell? ⟨w.heap.size, 0, none⟩ = some (.int .i64 (N : Int)) ∧ w'.cell? ⟨w.heap.size, 1, none⟩ = some (.slice A n c))
      (first
        | go_keep
        | exact ⟨(hb3.cell (p := ⟨w.heap.size, 0, none⟩) (hFc.2.1)).trans hFc.2.2.1, (hb3.cell (p := ⟨w.heap.size, 1, none⟩) (hFc.2.1)).trans hFc.2.2.2⟩
        | exact ⟨hFc.2.2.1, hFc.2.2.2⟩
        | exact ⟨hFa.2.2.1, hFa.2.2.2⟩)
      (first
        | (go_at_call 37; refine (isBelow_any N A n c v A' m c' x _ (hv.below hbel0 (Nat.le_refl _)).drew (hx.below hbel0 (Nat.le_refl _)).drew).mono ?_; rintro e w1 ⟨rfl, hb1⟩; rw [hb]; have hFa := hF0.drew.step hb1)
        | (go_at_call 149; refine (allOf_any N A n c _ h40).mono ?_; rintro e w2 ⟨rfl, hb2⟩; rw [hfull.out]; have hFc := hFa.step hb2)
        | (go_at_call 148; refine (slack_any N A n c v A' m c' x d _ (hv.below hFc.1 (Nat.le_refl _)) Hf.out (hx.below hFc.1 (Nat.le_refl _)) bvec hlt).mono ?_; rintro e w3 ⟨rfl, hb3⟩))
    go_wp2
    go_ret
    exact ⟨ret_bool (by rw [Bool.eq_iff_iff]; simp), (hFc.step hb3).1⟩
end Go.Proofs.Ytokeejachclpeaa
