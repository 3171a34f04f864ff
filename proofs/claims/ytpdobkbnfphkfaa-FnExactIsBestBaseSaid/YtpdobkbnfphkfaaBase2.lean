/-
  Walks: bases by the reference; tight sets; dual vectors.
-/
import Derived.Test.YtpdobkbnfphkfaaBase
import Derived.Test.YtpdobkbnfphkfaaClass
import Derived.BigQuiet
namespace Go.Proofs.Ytpdobkbnfphkfaa
open Go.RowKit

set_option maxHeartbeats 1000000 in
theorem specIsBase_any (E : Int) (A : Option Addr) (n c : Nat) (v : List Int) (A' : Option Addr) (m c' : Nat) (x : List Int) (w : World) (hv : Ints w A n v) (hx : Ints w A' m x) :
    Calls Try.prog 67 #[.agg #[.int .i64 E, .slice A n c], .slice A' m c'] w fun e w' => e = .returned (.bool (baseB E v x)) ∧ Below w.heap.size w w' := by
  have hF0 := FB.start w E A n c
  obtain ⟨hbel0, hz0, r0, r1⟩ := hF0.parts
  cases hb : belowB E v x
  · have e0 : baseB E v x = false := by simp [baseB, hb]
    rw [e0]; clear e0
    have q0 := wc_cell r0
    have q1 := wc_cell r1
    have hno := hide (fun W (h1 : Ints W A n v) (h2 : Ints W A' m x) => hb ▸ specIsBelow_any E A n c v A' m c' x W h1 h2)
    clear hb
    go_enter Try.func67, Try.ntmps67
    go_wp2
    refine region_below (by kernel_rfl) (by kernel_rfl) ?_
    repeat (go_big_quiet_step ((go_at_call 80; exact wc_call (hno.out _ (wc_ints (hv.below hbel0 (Nat.le_refl _)) _) (wc_ints (hx.below hbel0 (Nat.le_refl _)) _)))))
    refine wpQuiet_nil ?_
    intro _ hw'
    obtain ⟨p, rfl⟩ := hw'
    go_wp2
    go_ret
    exact ⟨rfl, (hF0.step p.below).1⟩
  · obtain ⟨bfn, bg0, blen, bvec, ball⟩ := below_ok hb
    have hvl := hide hv.len
    have e0 : baseB E v x = decide (slk v x (n - 1) = 0) := by simp [baseB, hb, hvl.out]
    rw [e0]; clear e0
    have Hf := hide bfn
    clear bfn bg0 blen ball
    obtain ⟨N, rfl, fo⟩ := FnOk.of Hf.out hv
    have hN := fo.hN
    have n0 := fo.n0
    have n32 := fo.n32
    have h40 : N ≤ 40 := by omega
    have hfull := hide (p2_full fo.hn)
    have hlt : n - 1 < n := by omega
    have hnd := hide (show (n : Int) - 1 = ((n - 1 : Nat) : Int) by omega)
    obtain ⟨b, off, rfl, hbb, hc⟩ := hv.all_ n0
    generalize n - 1 = d at *
    have hd10 : d < 1024 := by omega
    have i1 : (0 : Int) ≤ (d : Int) := by omega
    have i2 : (d : Int) < (n : Int) := by omega
    have t1 : IntKind.i64.wrap ((n : Int) - 1) = (d : Int) := by rw [hnd.out]; exact IntWalk.i64_in _ (by omega)
    have c0 := (hbel0.cell (p := ⟨b, off + d, none⟩) hbb).trans (hc d hlt)
    have hb0 : b < (w.alloc (.cells #[.int .i64 (N : Int), .slice (some ⟨b, off, none⟩) n c] 28)).heap.size := Nat.lt_of_lt_of_le hbb hbel0.size
    have e2 : (weigh x d == gv v d) = decide (slk v x d = 0) := by rw [Bool.eq_iff_iff]; simp only [beq_iff_eq, decide_eq_true_eq]; unfold slk; omega
    have hq : decide (slk v x d = 0) = decide (slk v x d = 0) := rfl
    generalize decide (slk v x d = 0) = res at *
    clear hc hq
    go_enter Try.func67, Try.ntmps67
    go_wp2
    go_region_held3 (fun w' => w'.cell? ⟨w.heap.size, 0, none⟩ = some (.int .i64 (N : Int)) ∧ w'.cell? ⟨w.heap.size, 1, none⟩ = some (.slice (some ⟨b, off, none⟩) n c) ∧ w'.cell? ⟨b, off + d, none⟩ = some (.int .i64 (gv v d)))
      (first
        | go_keep
        | exact ⟨(hb1.cell (p := ⟨w.heap.size, 0, none⟩) hz0).trans r0, (hb1.cell (p := ⟨w.heap.size, 1, none⟩) hz0).trans r1, (hb1.cell (p := ⟨b, off + d, none⟩) hb0).trans c0⟩)
      (first
        | (go_at_call 80; refine (specIsBelow_any N _ n c v A' m c' x _ (hv.below hbel0 (Nat.le_refl _)).drew (hx.below hbel0 (Nat.le_refl _)).drew).mono ?_; rintro e w1 ⟨rfl, hb1⟩; rw [hb]; have hFa := hF0.drew.step hb1)
        | (go_at_call 92; refine (l2Full_any N _ h40).mono ?_; rintro e w2 ⟨rfl, rfl⟩; rw [hfull.out])
        | (go_at_call 69; refine (l3Weigh_any A' m c' x d _ (hx.below hFa.1 (Nat.le_refl _)) bvec hd10).mono ?_; rintro e w3 ⟨rfl, rfl⟩))
    go_wp2
    go_ret
    exact ⟨rfl, hFa.1⟩
def tightL (E : Int) (v x : List Int) : List Int := if belowB E v x then selI (fun s => decide (slk v x s = 0)) v.length else []
end Go.Proofs.Ytpdobkbnfphkfaa
