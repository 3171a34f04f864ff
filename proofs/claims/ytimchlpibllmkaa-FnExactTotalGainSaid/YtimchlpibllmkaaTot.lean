/-
  Walks: the total gain; the minimum.
-/
import Derived.Test.YtimchlpibllmkaaFun
namespace Go.Proofs.Ytimchlpibllmkaa
open Go.RowKit

/-- The gains of the first k elements to the empty set. -/
def totN (v : List Int) : Nat → Int
  | 0 => 0
  | k + 1 => totN v k + gainN v 0 k
theorem insN_zero (k : Nat) : insN 0 k = p2 k := by simp [insN, p2]
theorem FnOk.tot {N n : Nat} {v : List Int} (h : FnOk N n v) : ∀ k : Nat, k ≤ N → -2000 * (k : Int) ≤ totN v k ∧ totN v k ≤ 2000 * (k : Int)
  | 0, _ => by simp [totN]
  | k + 1, hk => by
    have h1 := FnOk.tot h k (by omega)
    have h2 := h.gain h.n0 (k := k) (by omega)
    unfold totN; omega
/-- What TotalGain gives. -/
def totR (E : Int) (v : List Int) : Int := if isFn E v then totN v E.toNat else 0

theorem totalGain_any (E : Int) (A : Option Addr) (n c : Nat) (v : List Int) (w : World) (hv : Ints w A n v) :
    Calls Try.prog 30 #[.agg #[.int .i64 E, .slice A n c]] w fun e w' => e = .returned (.tuple #[.int .i64 (totR E v), .bool (isFn E v)]) ∧ Below w.heap.size w w' := by
  cases hf : isFn E v
  · go_enter Try.func30, Try.ntmps30
    go_wp2_with fail
    refine (isFunction_any _ _ _ _ v _ (hv.alloc _)).mono ?_
    rintro e w1 ⟨rfl, hb1⟩
    go_wp2
    go_ret2
    exact ⟨by simp [totR, hf], ((Below.refl _ _).alloc (Nat.le_refl _) _).trans (hb1.mono (by simp))⟩
  · have Hf := hide hf
    obtain ⟨N, rfl, fo⟩ := FnOk.of hf hv
    have hN := fo.hN
    go_enter Try.func30, Try.ntmps30
    go_wp2_with fail
    refine (isFunction_any _ _ _ _ v _ (hv.alloc _)).mono ?_
    rintro e w1 ⟨rfl, hb1⟩
    have hFB := (FB.start w N A n c).step hb1
    obtain ⟨-, -, e0, e1⟩ := hFB.parts
    go_wp2
    clear hf
    go_loopw [4, 11] (fun t i wr => ∃ k : Nat, k ≤ N ∧ i = .int .i64 k ∧ t = .int .i64 (totN v k) ∧ FB w wr N A n c) (fun _ i _ => N - (intOf i).toNat)
    case atStart => exact ⟨0, Nat.zero_le _, rfl, rfl, hFB⟩
    case round =>
      obtain ⟨k, hk, rfl, rfl, hFB⟩ := hrel
      obtain ⟨t1, t2⟩ := fo.tot k hk
      obtain ⟨-, hz, r0, r1⟩ := hFB.parts
      by_cases hlt : k < N
      · obtain ⟨g1, g2⟩ := fo.gain fo.n0 hlt
        have hg := gain_any N A n c v 0 k wr (hv.below hFB.1 (Nat.le_refl _)) Hf.out fo.n0 (by omega)
        have HG := hide hg; clear hg
        go_wp2_with fail
        refine HG.out.mono ?_
        rintro e w2 ⟨rfl, hb2⟩
        go_wp2
        go_roundw
        case rel => exact ⟨k + 1, by omega, by go_num, rfl, hFB.step hb2⟩
        case measure => simp [intOf]; omega
      · obtain rfl : k = N := by omega
        go_wp2
        go_ret2
        exact ⟨by simp [totR, Hf.out], hFB.1⟩
theorem specTotalGain_any (E : Int) (A : Option Addr) (n c : Nat) (v : List Int) (w : World) (hv : Ints w A n v) :
    Calls Try.prog 28 #[.agg #[.int .i64 E, .slice A n c]] w fun e w' => e = .returned (.tuple #[.int .i64 (totR E v), .bool (isFn E v)]) ∧ Below w.heap.size w w' := by
  cases hf : isFn E v
  · go_enter Try.func28, Try.ntmps28
    go_wp2_with fail
    refine (specIsFunction_any _ _ _ _ v _ (hv.alloc _)).mono ?_
    rintro e w1 ⟨rfl, hb1⟩
    go_wp2
    go_ret2
    exact ⟨by simp [totR, hf], ((Below.refl _ _).alloc (Nat.le_refl _) _).trans (hb1.mono (by simp))⟩
  · have Hf := hide hf
    obtain ⟨N, rfl, fo⟩ := FnOk.of hf hv
    obtain ⟨b, off, rfl, hb, hc⟩ := hv.all_ fo.n0
    have hN := fo.hN
    have n32 := fo.n32
    have n0 := fo.n0
    go_enter Try.func28, Try.ntmps28
    go_wp2_with fail
    refine (specIsFunction_any _ _ _ _ v _ (hv.alloc _)).mono ?_
    rintro e w1 ⟨rfl, hb1⟩
    have hFB := (FB.start w N (some ⟨b, off, none⟩) n c).step hb1
    obtain ⟨-, -, e0, e1⟩ := hFB.parts
    go_wp2
    clear hf
    go_loopw [4, 5] (fun t i wr => ∃ k : Nat, k ≤ N ∧ i = .int .i64 k ∧ t = .int .i64 (totN v k) ∧ FB w wr N (some ⟨b, off, none⟩) n c) (fun _ i _ => N - (intOf i).toNat)
    case atStart => exact ⟨0, Nat.zero_le _, rfl, rfl, hFB⟩
    case round =>
      obtain ⟨k, hk, rfl, rfl, hFB⟩ := hrel
      obtain ⟨t1, t2⟩ := fo.tot k hk
      obtain ⟨hbel, hz, r0, r1⟩ := hFB.parts
      by_cases hlt : k < N
      · have hp := fo.p2 hlt
        obtain ⟨g1, g2⟩ := fo.bd hp
        obtain ⟨g3, g4⟩ := fo.bd n0
        have c1 : wr.cell? ⟨b, off + p2 k, none⟩ = some (.int .i64 (gv v (p2 k))) := (hbel.cell (p := ⟨b, off + p2 k, none⟩) hb).trans (hc _ hp)
        have c2 : wr.cell? ⟨b, off, none⟩ = some (.int .i64 (gv v 0)) := (hbel.cell (p := ⟨b, off, none⟩) hb).trans (hc 0 n0)
        have hk40 : k ≤ 40 := by omega
        have i1 : (0 : Int) ≤ (k : Int) := by omega
        have i2 : (0 : Int) ≤ (p2 k : Int) := by omega
        have i3 : (p2 k : Int) < (n : Int) := by omega
        have i4 : (0 : Int) < (n : Int) := by omega
        have et := hide (show totN v (k + 1) = totN v k + gv v (p2 k) - gv v 0 by show totN v k + gainN v 0 k = _; unfold gainN; rw [insN_zero]; omega)
        have s1 : IntKind.i64.wrap (totN v k + gv v (p2 k)) = totN v k + gv v (p2 k) := IntWalk.i64_in _ (by omega)
        have s2 : IntKind.i64.wrap (totN v k + gv v (p2 k) - gv v 0) = totN v k + gv v (p2 k) - gv v 0 := IntWalk.i64_in _ (by omega)
        have HB := hide hbel
        clear hbel hc
        go_wp2
        go_quiet (fail)
        clear s1 s2
        go_wp2
        go_roundw
        case rel => exact ⟨k + 1, by omega, by go_num, by rw [et.out], FB.drewN hFB _⟩
        case measure => simp [intOf]; omega
      · obtain rfl : k = N := by omega
        go_wp2
        go_ret2
        exact ⟨by simp [totR, Hf.out], hbel⟩
end Go.Proofs.Ytimchlpibllmkaa
