/-
  Walks: one better change; local maxima.
-/
import Derived.Test.YtimchlpibllmkaaFun
namespace Go.Proofs.Ytimchlpibllmkaa
open Go.RowKit

/-- Does changing element k make the value of s greater? -/
def bettB (v : List Int) (s k : Nat) : Bool := decide (gv v s < gv v (xorN s k))
/-- The first element below N whose change makes the value greater. -/
def stepO (v : List Int) (s N : Nat) : Option Nat := (List.range N).find? (bettB v s)
theorem stepO_none {v : List Int} {s k : Nat} (h : stepO v s k = none) (hb : bettB v s k = false) : stepO v s (k + 1) = none := by
  unfold stepO at *; rw [List.range_succ, List.find?_append, h]; simp [hb]
theorem stepO_mono {v : List Int} {s : Nat} (k : Nat) : ∀ N, k < N → stepO v s k = none → bettB v s k = true → stepO v s N = some k := by
  intro N hN h hb
  unfold stepO at *
  induction N with
  | zero => omega
  | succ N ih =>
    rw [List.range_succ, List.find?_append]
    by_cases hk : k = N
    · subst hk; rw [h]; simp [hb]
    · rw [ih (by omega)]; rfl
theorem stepO_some {v : List Int} {s N k : Nat} (h : stepO v s N = some k) : k < N ∧ gv v s < gv v (xorN s k) := by
  unfold stepO at h
  have h1 := List.mem_of_find?_eq_some h
  have h2 := List.find?_some h
  simp [bettB] at h1 h2
  exact ⟨h1, h2⟩
/-- As an int: the element, or -1. -/
def stepI (v : List Int) (s N : Nat) : Int := match stepO v s N with | some k => (k : Int) | none => -1
/-- The set with that element changed. -/
def stepS (v : List Int) (s N : Nat) : Nat := match stepO v s N with | some k => xorN s k | none => s
def stepB (v : List Int) (s N : Nat) : Bool := (stepO v s N).isSome

theorem betterChange_any (E : Int) (A : Option Addr) (n c : Nat) (v : List Int) (s : Nat) (w : World) (hv : Ints w A n v) (hf : isFn E v = true) (hs : s < n) :
    Calls Try.prog 64 #[.agg #[.int .i64 E, .slice A n c], .int .i64 s] w fun e w' => e = .returned (.tuple #[.int .i64 (stepS v s E.toNat), .bool (stepB v s E.toNat)]) ∧ Below w.heap.size w w' := by
  obtain ⟨N, rfl, fo⟩ := FnOk.of hf hv
  obtain ⟨b, off, rfl, hb, hc⟩ := hv.all_ fo.n0
  have hN := fo.hN
  have n32 := fo.n32
  have n0 := fo.n0
  have j1 : w.heap.size ≠ b := by omega
  clear hf
  have hs' : s < 1024 := by omega
  rw [Int.toNat_natCast]
  have HC := hide hc; clear hc
  go_enter Try.func64, Try.ntmps64
  go_wp2
  go_loopw [10] (fun i wr => ∃ k : Nat, k ≤ N ∧ i = .int .i64 k ∧ stepO v s k = none ∧ FB w wr N (some ⟨b, off, none⟩) n c) (fun i _ => N - (intOf i).toNat)
  case atStart => exact ⟨0, Nat.zero_le _, rfl, rfl, FB.start _ _ _ _ _⟩
  case round =>
    obtain ⟨k, hk, rfl, hno, hFB⟩ := hrel
    have HNO := hide hno; clear hno
    obtain ⟨hbel, hz, r0, r1⟩ := hFB.parts
    by_cases hlt : k < N
    · have hx := fo.xor hs hlt
      have c1 : wr.cell? ⟨b, off + xorN s k, none⟩ = some (.int .i64 (gv v (xorN s k))) := (hbel.cell (p := ⟨b, off + xorN s k, none⟩) hb).trans (HC.out _ hx)
      have c2 : wr.cell? ⟨b, off + s, none⟩ = some (.int .i64 (gv v s)) := (hbel.cell (p := ⟨b, off + s, none⟩) hb).trans (HC.out _ hs)
      have hk40 : k ≤ 40 := by omega
      have i1 : (0 : Int) ≤ (xorN s k : Int) := by omega
      have i2 : (xorN s k : Int) < (n : Int) := by omega
      have i3 : (0 : Int) ≤ (s : Int) := by omega
      have i4 : (s : Int) < (n : Int) := by omega
      have HB := hide hbel; clear hbel
      cases hq : bettB v s k
      · have hq2 : decide (gv v s < gv v (xorN s k)) = false := hq
        have HQ := hide hq; clear hq
        go_wp2
        go_quiet (fail)
        go_wp2
        go_roundw
        case rel => exact ⟨k + 1, by omega, by go_num, stepO_none HNO.out HQ.out, hFB.drewN _⟩
        case measure => simp [intOf]; omega
      · have hq2 : decide (gv v s < gv v (xorN s k)) = true := hq
        have hfin := hide (stepO_mono k N hlt HNO.out hq)
        clear hq
        go_wp2
        go_quiet (fail)
        go_wp2
        go_ret2
        exact ⟨by simp [stepS, stepB, hfin.out], below_drewN HB.out _⟩
    · obtain rfl : k = N := by omega
      go_wp2
      go_ret2
      exact ⟨by simp [stepS, stepB, HNO.out], hbel⟩
theorem l12Step_any (E : Int) (A : Option Addr) (n c : Nat) (v : List Int) (s : Nat) (w : World) (hv : Ints w A n v) (hf : isFn E v = true) (hs : s < n) :
    Calls Try.prog 63 #[.agg #[.int .i64 E, .slice A n c], .int .i64 s] w fun e w' => e = .returned (.int .i64 (stepI v s E.toNat)) ∧ Below w.heap.size w w' := by
  obtain ⟨N, rfl, fo⟩ := FnOk.of hf hv
  obtain ⟨b, off, rfl, hb, hc⟩ := hv.all_ fo.n0
  have hN := fo.hN
  have n32 := fo.n32
  have n0 := fo.n0
  have j1 : w.heap.size ≠ b := by omega
  clear hf
  have hs' : s < 1024 := by omega
  rw [Int.toNat_natCast]
  have HC := hide hc; clear hc
  go_enter Try.func63, Try.ntmps63
  go_wp2
  go_loopw [5] (fun i wr => ∃ k : Nat, k ≤ N ∧ i = .int .i64 k ∧ stepO v s k = none ∧ FB w wr N (some ⟨b, off, none⟩) n c) (fun i _ => N - (intOf i).toNat)
  case atStart => exact ⟨0, Nat.zero_le _, rfl, rfl, FB.start _ _ _ _ _⟩
  case round =>
    obtain ⟨k, hk, rfl, hno, hFB⟩ := hrel
    have HNO := hide hno; clear hno
    obtain ⟨hbel, hz, r0, r1⟩ := hFB.parts
    by_cases hlt : k < N
    · have hx := fo.xor hs hlt
      have c1 : wr.cell? ⟨b, off + xorN s k, none⟩ = some (.int .i64 (gv v (xorN s k))) := (hbel.cell (p := ⟨b, off + xorN s k, none⟩) hb).trans (HC.out _ hx)
      have c2 : wr.cell? ⟨b, off + s, none⟩ = some (.int .i64 (gv v s)) := (hbel.cell (p := ⟨b, off + s, none⟩) hb).trans (HC.out _ hs)
      have hk40 : k ≤ 40 := by omega
      have i0 : (0 : Int) ≤ (k : Int) := by omega
      have i1 : (0 : Int) ≤ (xorN s k : Int) := by omega
      have i2 : (xorN s k : Int) < (n : Int) := by omega
      have i3 : (0 : Int) ≤ (s : Int) := by omega
      have i4 : (s : Int) < (n : Int) := by omega
      have HB := hide hbel; clear hbel
      cases hq : bettB v s k
      · have hq2 : decide (gv v s < gv v (xorN s k)) = false := hq
        have HQ := hide hq; clear hq
        go_wp2
        go_quiet (fail)
        go_wp2
        go_roundw
        case rel => exact ⟨k + 1, by omega, by go_num, stepO_none HNO.out HQ.out, hFB.drewN _⟩
        case measure => simp [intOf]; omega
      · have hq2 : decide (gv v s < gv v (xorN s k)) = true := hq
        have hfin := hide (stepO_mono k N hlt HNO.out hq)
        clear hq
        go_wp2
        go_quiet (fail)
        go_wp2
        go_ret
        exact ⟨by simp [stepI, hfin.out], below_drewN HB.out _⟩
    · obtain rfl : k = N := by omega
      go_wp2
      go_ret
      exact ⟨by simp [stepI, HNO.out], hbel⟩
end Go.Proofs.Ytimchlpibllmkaa
