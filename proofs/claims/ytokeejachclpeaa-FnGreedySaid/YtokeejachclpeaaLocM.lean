/-
  Walks: one better change; local maxima.
  Walks: local maxima, by one better change after the other.
  Walks: double greed.
-/
import Derived.Test.YtokeejachclpeaaCore
namespace Go.Proofs.Ytokeejachclpeaa
open Go.RowKit

/-- Does changing element k make the value of s greater? -/
def bettB (v : List Int) (s k : Nat) : Bool := decide (gv v s < gv v (xorN s k))
/-- The first element below N whose change makes the value greater. -/
def stepO (v : List Int) (s N : Nat) : Option Nat := (List.range N).find? (bettB v s)
theorem stepO_none {v : List Int} {s k : Nat} (h : stepO v s k = none) (hb : bettB v s k = false) : stepO v s (k + 1) = none := by
  unfold stepO at *; rw [List.range_succ, List.find?_append, h]; simp [hb]
theorem stepO_mono {v : List Int} {s : Nat} (k : Nat) : ∀ N, k < N → stepO v s k = none → bettB v s k = true → stepO v s N = some k := by
  intro N hN h hb
  unfold stepO at *
  induction N with
  | zero => omega
  | succ N ih =>
    rw [List.range_succ, List.find?_append]
    by_cases hk : k = N
    · subst hk; rw [h]; simp [hb]
    · rw [ih (by omega)]; rfl
theorem stepO_some {v : List Int} {s N k : Nat} (h : stepO v s N = some k) : k < N ∧ gv v s < gv v (xorN s k) := by
  unfold stepO at h
  have h1 := List.mem_of_find?_eq_some h
  have h2 := List.find?_some h
  simp [bettB] at h1 h2
  exact ⟨h1, h2⟩
/-- As an int: the element, or -1. -/
def stepI (v : List Int) (s N : Nat) : Int := match stepO v s N with | some k => (k : Int) | none => -1
/-- The set with that element changed. -/
def stepS (v : List Int) (s N : Nat) : Nat := match stepO v s N with | some k => xorN s k | none => s
def stepB (v : List Int) (s N : Nat) : Bool := (stepO v s N).isSome

theorem betterChange_any (E : Int) (A : Option Addr) (n c : Nat) (v : List Int) (s : Nat) (w : World) (hv : Ints w A n v) (hf : isFn E v = true) (hs : s < n) :
    Calls Try.prog 202 #[.agg #[.int .i64 E, .slice A n c], .int .i64 s] w fun e w' => e = .returned (.tuple #[.int .i64 (stepS v s E.toNat), .bool (stepB v s E.toNat)]) ∧ Below w.heap.size w w' := by
  obtain ⟨N, rfl, fo⟩ := FnOk.of hf hv
  obtain ⟨b, off, rfl, hb, hc⟩ := hv.all_ fo.n0
  have hN := fo.hN
  have n32 := fo.n32
  have n0 := fo.n0
  have j1 : w.heap.size ≠ b := by omega
  clear hf
  have hs' : s < 1024 := by omega
  rw [Int.toNat_natCast]
  have HC := hide hc; clear hc
  go_enter Try.func202, Try.ntmps202
  go_wp2
  go_loopw [10] (fun i wr => ∃ k : Nat, k ≤ N ∧ i = .int .i64 k ∧ stepO v s k = none ∧ FB w wr N (some ⟨b, off, none⟩) n c) (fun i _ => N - (intOf i).toNat)
  case atStart => exact ⟨0, Nat.zero_le _, rfl, rfl, FB.start _ _ _ _ _⟩
  case round =>
    obtain ⟨k, hk, rfl, hno, hFB⟩ := hrel
    have HNO := hide hno; clear hno
    obtain ⟨hbel, hz, r0, r1⟩ := hFB.parts
    by_cases hlt : k < N
    · have hx := fo.xor hs hlt
      have c1 : wr.cell? ⟨b, off + xorN s k, none⟩ = some (.int .i64 (gv v (xorN s k))) := (hbel.cell (p := ⟨b, off + xorN s k, none⟩) hb).trans (HC.out _ hx)
      have c2 : wr.cell? ⟨b, off + s, none⟩ = some (.int .i64 (gv v s)) := (hbel.cell (p := ⟨b, off + s, none⟩) hb).trans (HC.out _ hs)
      have hk40 : k ≤ 40 := by omega
      have i1 : (0 : Int) ≤ (xorN s k : Int) := by omega
      have i2 : (xorN s k : Int) < (n : Int) := by omega
      have i3 : (0 : Int) ≤ (s : Int) := by omega
      have i4 : (s : Int) < (n : Int) := by omega
      have HB := hide hbel; clear hbel
      cases hq : bettB v s k
      · have hq2 : decide (gv v s < gv v (xorN s k)) = false := hq
        have HQ := hide hq; clear hq
        go_wp2
        go_quiet (fail)
        go_wp2
        go_roundw
        case rel => exact ⟨k + 1, by omega, by go_num, stepO_none HNO.out HQ.out, hFB.drewN _⟩
        case measure => simp [intOf]; omega
      · have hq2 : decide (gv v s < gv v (xorN s k)) = true := hq
        have hfin := hide (stepO_mono k N hlt HNO.out hq)
        clear hq
        go_wp2
        go_quiet (fail)
        go_wp2
        go_ret2
        exact ⟨by simp [stepS, stepB, hfin.out], below_drewN HB.out _⟩
    · obtain rfl : k = N := by omega
      go_wp2
      go_ret2
      exact ⟨by simp [stepS, stepB, HNO.out], hbel⟩
theorem l12Step_any (E : Int) (A : Option Addr) (n c : Nat) (v : List Int) (s : Nat) (w : World) (hv : Ints w A n v) (hf : isFn E v = true) (hs : s < n) :
    Calls Try.prog 203 #[.agg #[.int .i64 E, .slice A n c], .int .i64 s] w fun e w' => e = .returned (.int .i64 (stepI v s E.toNat)) ∧ Below w.heap.size w w' := by
  obtain ⟨N, rfl, fo⟩ := FnOk.of hf hv
  obtain ⟨b, off, rfl, hb, hc⟩ := hv.all_ fo.n0
  have hN := fo.hN
  have n32 := fo.n32
  have n0 := fo.n0
  have j1 : w.heap.size ≠ b := by omega
  clear hf
  have hs' : s < 1024 := by omega
  rw [Int.toNat_natCast]
  have HC := hide hc; clear hc
  go_enter Try.func203, Try.ntmps203
  go_wp2
  go_loopw [5] (fun i wr => ∃ k : Nat, k ≤ N ∧ i = .int .i64 k ∧ stepO v s k = none ∧ FB w wr N (some ⟨b, off, none⟩) n c) (fun i _ => N - (intOf i).toNat)
  case atStart => exact ⟨0, Nat.zero_le _, rfl, rfl, FB.start _ _ _ _ _⟩
  case round =>
    obtain ⟨k, hk, rfl, hno, hFB⟩ := hrel
    have HNO := hide hno; clear hno
    obtain ⟨hbel, hz, r0, r1⟩ := hFB.parts
    by_cases hlt : k < N
    · have hx := fo.xor hs hlt
      have c1 : wr.cell? ⟨b, off + xorN s k, none⟩ = some (.int .i64 (gv v (xorN s k))) := (hbel.cell (p := ⟨b, off + xorN s k, none⟩) hb).trans (HC.out _ hx)
      have c2 : wr.cell? ⟨b, off + s, none⟩ = some (.int .i64 (gv v s)) := (hbel.cell (p := ⟨b, off + s, none⟩) hb).trans (HC.out _ hs)
      have hk40 : k ≤ 40 := by omega
      have i0 : (0 : Int) ≤ (k : Int) := by omega
      have i1 : (0 : Int) ≤ (xorN s k : Int) := by omega
      have i2 : (xorN s k : Int) < (n : Int) := by omega
      have i3 : (0 : Int) ≤ (s : Int) := by omega
      have i4 : (s : Int) < (n : Int) := by omega
      have HB := hide hbel; clear hbel
      cases hq : bettB v s k
      · have hq2 : decide (gv v s < gv v (xorN s k)) = false := hq
        have HQ := hide hq; clear hq
        go_wp2
        go_quiet (fail)
        go_wp2
        go_roundw
        case rel => exact ⟨k + 1, by omega, by go_num, stepO_none HNO.out HQ.out, hFB.drewN _⟩
        case measure => simp [intOf]; omega
      · have hq2 : decide (gv v s < gv v (xorN s k)) = true := hq
        have hfin := hide (stepO_mono k N hlt HNO.out hq)
        clear hq
        go_wp2
        go_quiet (fail)
        go_wp2
        go_ret
        exact ⟨by simp [stepI, hfin.out], below_drewN HB.out _⟩
    · obtain rfl : k = N := by omega
      go_wp2
      go_ret
      exact ⟨by simp [stepI, HNO.out], hbel⟩
end Go.Proofs.Ytokeejachclpeaa
namespace Go.Proofs.Ytokeejachclpeaa
open Go.RowKit

def climb (v : List Int) (N : Nat) : Nat → Nat → Nat
  | 0, s => s
  | f + 1, s => match stepO v s N with | some k => climb v N f (xorN s k) | none => s
theorem climb_none {v : List Int} {N s : Nat} (f : Nat) (h : stepO v s N = none) : climb v N f s = s := by
  cases f with
  | zero => rfl
  | succ f => simp [climb, h]
theorem climb_some {v : List Int} {N s k f : Nat} (h : stepO v s N = some k) (hf : 0 < f) : climb v N f s = climb v N (f - 1) (xorN s k) := by
  obtain ⟨g, rfl⟩ : ∃ g, f = g + 1 := ⟨f - 1, by omega⟩
  simp [climb, h]
def lmaxOk (E : Int) (v : List Int) (s : Int) : Bool := isFn E v && inR s 0 ((v.length : Int) - 1)
def lmaxS (E : Int) (v : List Int) (s : Int) : Int := if lmaxOk E v s then (climb v E.toNat 2001 s.toNat : Nat) else 0
def lmaxB (E : Int) (v : List Int) (s : Int) : Bool := lmaxOk E v s && !stepB v s.toNat E.toNat
/-- The climb from s with fuel f ends in R, and the fuel suffices. -/
def ClimbTo (v : List Int) (N n R s : Nat) : Prop := s < n ∧ ∃ f : Nat, climb v N f s = R ∧ 1000 - gv v s < f
theorem ClimbTo.start {v : List Int} {N n s : Nat} (h : s < n) (hv : -1000 ≤ gv v s) : ClimbTo v N n (climb v N 2001 s) s := ⟨h, 2001, rfl, by omega⟩
theorem ClimbTo.some_ {v : List Int} {N n R s k : Nat} (h : ClimbTo v N n R s) (fo : FnOk N n v) (hk : stepO v s N = some k) : ClimbTo v N n R (xorN s k) ∧ gv v s < gv v (xorN s k) := by
  obtain ⟨hs, f, hR, hf⟩ := h
  obtain ⟨h1, h2⟩ := stepO_some hk
  have hb := fo.bd hs
  refine ⟨⟨fo.xor hs h1, f - 1, ?_, by omega⟩, h2⟩
  rw [← hR, climb_some hk (by omega)]
theorem ClimbTo.none_ {v : List Int} {N n R s : Nat} (h : ClimbTo v N n R s) (hk : stepO v s N = none) : s = R := by
  obtain ⟨hs, f, hR, hf⟩ := h
  rw [← hR, climb_none f hk]
def boolOf (x : Value) : Nat := match x with | .bool true => 1 | _ => 0
def muL (v : List Int) (t : Value) : Nat := (1000 - gv v (intOf t).toNat).toNat

theorem isLocalMaximum_any (E : Int) (A : Option Addr) (n c : Nat) (v : List Int) (s : Int) (w : World) (hv : Ints w A n v) :
    Calls Try.prog 114 #[.agg #[.int .i64 E, .slice A n c], .int .i64 s] w fun e w' => e = .returned (.bool (lmaxB E v s)) ∧ Below w.heap.size w w' := by
  cases hf : isFn E v
  · have e0 : lmaxB E v s = false := by simp [lmaxB, lmaxOk, hf]
    rw [e0]; clear e0
    go_enter Try.func114, Try.ntmps114
    go_wp2_with fail
    refine (isFunction_any _ _ _ _ v _ (hv.alloc _)).mono ?_
    rintro e w1 ⟨rfl, hb1⟩
    go_wp2
    go_ret
    exact ⟨rfl, ((Below.refl _ _).alloc (Nat.le_refl _) _).trans (hb1.mono (by simp))⟩
  · have Hf := hide hf
    obtain ⟨N, rfl, fo⟩ := FnOk.of hf hv
    have hN := fo.hN
    have hnp := hide (show (n : Int) = ((p2 N : Nat) : Int) by have := fo.hn; unfold p2; omega)
    have eOk : lmaxOk N v s = inR s 0 ((p2 N : Nat) - 1) := by simp [lmaxOk, Hf.out, fo.hl, hnp.out]
    cases hs : inR s 0 ((p2 N : Nat) - 1)
    · have e0 : lmaxB N v s = false := by simp [lmaxB, eOk, hs]
      rw [e0]; clear e0 eOk
      go_enter Try.func114, Try.ntmps114
      go_wp2_with fail
      refine (isFunction_any _ _ _ _ v _ (hv.alloc _)).mono ?_
      rintro e w1 ⟨rfl, hb1⟩
      obtain ⟨hbel, hz, r0, r1⟩ := ((FB.start w N A n c).step hb1).parts
      go_wp2_with (go_at_call 177; refine (isSetOf_any _ _ _ hN).mono ?_; rintro e w' ⟨rfl, rfl⟩)
      go_ret
      exact ⟨rfl, hbel⟩
    · obtain ⟨s1, s2⟩ := inR_true hs
      obtain ⟨sn, rfl⟩ := Int.eq_ofNat_of_zero_le s1
      have hsn : sn < n := by have := hnp.out; omega
      have e0 : lmaxB N v sn = !stepB v sn N := by simp [lmaxB, eOk, hs]
      rw [e0]; clear e0 eOk s1 s2
      go_enter Try.func114, Try.ntmps114
      go_wp2_with fail
      refine (isFunction_any _ _ _ _ v _ (hv.alloc _)).mono ?_
      rintro e w1 ⟨rfl, hb1⟩
      have hFB := (FB.start w N A n c).step hb1
      obtain ⟨hbel, hz, r0, r1⟩ := hFB.parts
      go_wp2_with fail
      refine (isSetOf_any _ _ _ hN).mono ?_
      rintro e w' ⟨rfl, rfl⟩
      go_wp2_with fail
      refine (betterChange_any _ _ _ _ v sn _ (hv.below hbel (Nat.le_refl _)) Hf.out hsn).mono ?_
      rintro e w2 ⟨rfl, hb2⟩
      rw [Int.toNat_natCast]
      go_wp2
      go_ret
      exact ⟨rfl, (hFB.step hb2).1⟩
theorem stepI_neg (v : List Int) (s N : Nat) : decide (stepI v s N < 0) = !stepB v s N := by
  unfold stepI stepB; cases stepO v s N <;> simp <;> omega
theorem specIsLocalMaximum_any (E : Int) (A : Option Addr) (n c : Nat) (v : List Int) (s : Int) (w : World) (hv : Ints w A n v) :
    Calls Try.prog 116 #[.agg #[.int .i64 E, .slice A n c], .int .i64 s] w fun e w' => e = .returned (.bool (lmaxB E v s)) ∧ Below w.heap.size w w' := by
  have eOk : lmaxOk E v s = (isFn E v && inR s 0 ((n : Int) - 1)) := by simp [lmaxOk, hv.len]
  cases hs : (isFn E v && inR s 0 ((n : Int) - 1))
  · have e0 : lmaxB E v s = false := by simp only [lmaxB, eOk, hs]; rfl
    rw [e0]; clear e0 eOk
    go_enter Try.func116, Try.ntmps116
    go_wp2_with fail
    refine (l5In_any _ _ _ _ v s _ (hv.alloc _)).mono ?_
    rintro e w1 ⟨rfl, hb1⟩
    rw [hs]
    go_wp2
    go_ret
    exact ⟨rfl, ((Below.refl _ _).alloc (Nat.le_refl _) _).trans (hb1.mono (by simp))⟩
  · have Hs := hide hs
    have Hf := hide (show isFn E v = true by simp at hs; exact hs.1)
    obtain ⟨s1, s2⟩ := inR_true (show inR s 0 ((n : Int) - 1) = true by simp at hs; exact hs.2)
    clear hs
    obtain ⟨N, rfl, fo⟩ := FnOk.of Hf.out hv
    obtain ⟨sn, rfl⟩ := Int.eq_ofNat_of_zero_le s1
    have hsn : sn < n := by omega
    have e0 : lmaxB N v sn = !stepB v sn N := by simp only [lmaxB, eOk, Hs.out]; simp
    rw [e0]; clear e0 eOk s1 s2
    have e2 := stepI_neg v sn N
    go_enter Try.func116, Try.ntmps116
    go_wp2_with fail
    refine (l5In_any _ _ _ _ v sn _ (hv.alloc _)).mono ?_
    rintro e w1 ⟨rfl, hb1⟩
    have hFB := (FB.start w N A n c).step hb1
    obtain ⟨hbel, hz, r0, r1⟩ := hFB.parts
    rw [Hs.out]
    go_wp2_with fail
    refine (l12Step_any _ _ _ _ v sn _ (hv.below hbel (Nat.le_refl _)) Hf.out hsn).mono ?_
    rintro e w2 ⟨rfl, hb2⟩
    rw [Int.toNat_natCast]
    go_wp2
    go_ret
    exact ⟨rfl, (hFB.step hb2).1⟩
set_option maxHeartbeats 400000 in
theorem localMaximum_any (E : Int) (A : Option Addr) (n c : Nat) (v : List Int) (s : Int) (w : World) (hv : Ints w A n v) :
    Calls Try.prog 112 #[.agg #[.int .i64 E, .slice A n c], .int .i64 s] w fun e w' => e = .returned (.tuple #[.int .i64 (lmaxS E v s), .bool (lmaxOk E v s)]) ∧ Below w.heap.size w w' := by
  cases hf : isFn E v
  · have e0 : lmaxOk E v s = false := by simp [lmaxOk, hf]
    have e1 : lmaxS E v s = 0 := by simp [lmaxS, e0]
    rw [e0, e1]; clear e0 e1
    go_enter Try.func112, Try.ntmps112
    go_wp2_with fail
    refine (isFunction_any _ _ _ _ v _ (hv.alloc _)).mono ?_
    rintro e w1 ⟨rfl, hb1⟩
    go_wp2
    go_ret2
    exact ⟨rfl, ((Below.refl _ _).alloc (Nat.le_refl _) _).trans (hb1.mono (by simp))⟩
  · have Hf := hide hf
    obtain ⟨N, rfl, fo⟩ := FnOk.of hf hv
    have hN := fo.hN
    have hnp := hide (show (n : Int) = ((p2 N : Nat) : Int) by have := fo.hn; unfold p2; omega)
    have eOk : lmaxOk N v s = inR s 0 ((p2 N : Nat) - 1) := by simp [lmaxOk, Hf.out, fo.hl, hnp.out]
    cases hs : inR s 0 ((p2 N : Nat) - 1)
    · have e0 : lmaxOk N v s = false := by rw [eOk, hs]
      have e1 : lmaxS N v s = 0 := by simp [lmaxS, e0]
      rw [e0, e1]; clear e0 e1 eOk
      go_enter Try.func112, Try.ntmps112
      go_wp2_with fail
      refine (isFunction_any _ _ _ _ v _ (hv.alloc _)).mono ?_
      rintro e w1 ⟨rfl, hb1⟩
      obtain ⟨hbel, hz, r0, r1⟩ := ((FB.start w N A n c).step hb1).parts
      go_wp2_with (go_at_call 177; refine (isSetOf_any _ _ _ hN).mono ?_; rintro e w' ⟨rfl, rfl⟩)
      go_ret2
      exact ⟨rfl, hbel⟩
    · obtain ⟨s1, s2⟩ := inR_true hs
      obtain ⟨sn, rfl⟩ := Int.eq_ofNat_of_zero_le s1
      have hsn : sn < n := by have := hnp.out; omega
      have e0 : lmaxOk N v sn = true := by rw [eOk, hs]
      have e1 : lmaxS N v sn = (climb v N 2001 sn : Nat) := by simp [lmaxS, e0]
      rw [e0, e1]; clear e0 e1 eOk s1 s2
      go_enter Try.func112, Try.ntmps112
      go_wp2_with fail
      refine (isFunction_any _ _ _ _ v _ (hv.alloc _)).mono ?_
      rintro e w1 ⟨rfl, hb1⟩
      have hFB := (FB.start w N A n c).step hb1
      obtain ⟨hbel, hz, r0, r1⟩ := hFB.parts
      go_wp2_with fail
      refine (isSetOf_any _ _ _ hN).mono ?_
      rintro e w' ⟨rfl, rfl⟩
      go_wp2
      clear r0 r1 hs hf
      go_loopw [1, 6] (fun t a wr => ∃ k : Nat, t = .int .i64 k ∧ ((a = .bool true ∧ ClimbTo v N n (climb v N 2001 sn) k) ∨ (a = .bool false ∧ k = climb v N 2001 sn)) ∧ FB w wr N A n c) (fun t a _ => 2 * muL v t + boolOf a)
      case atStart => exact ⟨sn, rfl, .inl ⟨rfl, ClimbTo.start hsn (fo.bd hsn).1⟩, hFB⟩
      case round =>
        obtain ⟨k, rfl, hor, hFBr⟩ := hrel
        obtain ⟨hbelr, hzr, r0, r1⟩ := hFBr.parts
        rcases hor with ⟨rfl, hc⟩ | ⟨rfl, hk⟩
        · have hB := betterChange_any N A n c v k wr (hv.below hbelr (Nat.le_refl _)) Hf.out hc.1
          rw [Int.toNat_natCast] at hB
          have HB := hide hB; clear hB
          cases hst : stepO v k N with
          | none =>
            have hkr := hide (hc.none_ hst)
            have e1 : stepS v k N = k := by simp [stepS, hst]
            have e2 : stepB v k N = false := by simp [stepB, hst]
            go_wp2_with fail
            refine HB.out.mono ?_
            rintro e w2 ⟨rfl, hb2⟩
            rw [e1, e2]
            clear e1 e2 hst
            go_wp2
            go_roundw
            case rel => exact ⟨k, rfl, .inr ⟨rfl, hkr.out⟩, hFBr.step hb2⟩
            case measure => simp [boolOf]
          | some j =>
            obtain ⟨hc2, hlt⟩ := hc.some_ fo hst
            have e1 : stepS v k N = xorN k j := by simp [stepS, hst]
            have e2 : stepB v k N = true := by simp [stepB, hst]
            have hbd := (fo.bd hc2.1).2
            go_wp2_with fail
            refine HB.out.mono ?_
            rintro e w2 ⟨rfl, hb2⟩
            rw [e1, e2]
            clear e1 e2 hst
            go_wp2
            go_roundw
            case rel => exact ⟨xorN k j, rfl, .inl ⟨rfl, hc2⟩, hFBr.step hb2⟩
            case measure => simp [muL, intOf]; omega
        · have hk' := hide hk; clear hk
          go_wp2
          go_ret2
          exact ⟨by rw [hk'.out]; rfl, hbelr⟩
set_option maxHeartbeats 400000 in
theorem specLocalMaximum_any (E : Int) (A : Option Addr) (n c : Nat) (v : List Int) (s : Int) (w : World) (hv : Ints w A n v) :
    Calls Try.prog 113 #[.agg #[.int .i64 E, .slice A n c], .int .i64 s] w fun e w' => e = .returned (.tuple #[.int .i64 (lmaxS E v s), .bool (lmaxOk E v s)]) ∧ Below w.heap.size w w' := by
  have eOk : lmaxOk E v s = (isFn E v && inR s 0 ((n : Int) - 1)) := by simp [lmaxOk, hv.len]
  cases hs : (isFn E v && inR s 0 ((n : Int) - 1))
  · have e0 : lmaxOk E v s = false := by rw [eOk, hs]
    have e1 : lmaxS E v s = 0 := by simp [lmaxS, e0]
    rw [e0, e1]; clear e0 e1 eOk
    go_enter Try.func113, Try.ntmps113
    go_wp2_with fail
    refine (l5In_any _ _ _ _ v s _ (hv.alloc _)).mono ?_
    rintro e w1 ⟨rfl, hb1⟩
    rw [hs]
    go_wp2
    go_ret2
    exact ⟨rfl, ((Below.refl _ _).alloc (Nat.le_refl _) _).trans (hb1.mono (by simp))⟩
  · have Hs := hide hs
    have Hf := hide (show isFn E v = true by simp at hs; exact hs.1)
    obtain ⟨s1, s2⟩ := inR_true (show inR s 0 ((n : Int) - 1) = true by simp at hs; exact hs.2)
    clear hs
    obtain ⟨N, rfl, fo⟩ := FnOk.of Hf.out hv
    have hN := fo.hN
    have n32 := fo.n32
    obtain ⟨sn, rfl⟩ := Int.eq_ofNat_of_zero_le s1
    have hsn : sn < n := by omega
    have e0 : lmaxOk N v sn = true := by rw [eOk, Hs.out]
    have e1 : lmaxS N v sn = (climb v N 2001 sn : Nat) := by simp [lmaxS, e0]
    rw [e0, e1]; clear e0 e1 eOk s1 s2
    go_enter Try.func113, Try.ntmps113
    go_wp2_with fail
    refine (l5In_any _ _ _ _ v sn _ (hv.alloc _)).mono ?_
    rintro e w1 ⟨rfl, hb1⟩
    have hFB := (FB.start w N A n c).step hb1
    obtain ⟨hbel, hz, r0, r1⟩ := hFB.parts
    rw [Hs.out]
    go_wp2_with fail
    refine (l12Step_any _ _ _ _ v sn _ (hv.below hbel (Nat.le_refl _)) Hf.out hsn).mono ?_
    rintro e w2 ⟨rfl, hb2⟩
    have hFB2 := hFB.step hb2
    rw [Int.toNat_natCast]
    go_wp2
    clear r0 r1
    go_loopw [1, 6] (fun t a wr => ∃ k : Nat, t = .int .i64 k ∧ a = .int .i64 (stepI v k N) ∧ ClimbTo v N n (climb v N 2001 sn) k ∧ FB w wr N A n c) (fun t _ _ => muL v t)
    case atStart => exact ⟨sn, rfl, rfl, ClimbTo.start hsn (fo.bd hsn).1, hFB2⟩
    case round =>
      obtain ⟨k, rfl, rfl, hc, hFBr⟩ := hrel
      obtain ⟨hbelr, hzr, r0, r1⟩ := hFBr.parts
      have hk10 : k < 1024 := by have := hc.1; omega
      cases hst : stepO v k N with
      | none =>
        have hkr := hide (hc.none_ hst)
        have e1 : stepI v k N = -1 := by simp [stepI, hst]
        rw [e1]
        clear e1 hst
        go_wp2
        go_ret2
        exact ⟨by rw [hkr.out]; rfl, hbelr⟩
      | some j =>
        obtain ⟨hc2, hlt⟩ := hc.some_ fo hst
        have hj := (stepO_some hst).1
        have e1 : stepI v k N = (j : Int) := by simp [stepI, hst]
        have hbd := (fo.bd hc2.1).2
        have hB := l12Step_any N A n c v (xorN k j) wr (hv.below hbelr (Nat.le_refl _)) Hf.out hc2.1
        rw [Int.toNat_natCast] at hB
        have HB := hide hB; clear hB
        have hj40 : j ≤ 40 := by omega
        rw [e1]
        clear e1 hst
        go_wp2_with fail
        refine HB.out.mono ?_
        rintro e w3 ⟨rfl, hb3⟩
        go_wp2
        go_roundw
        case rel => exact ⟨xorN k j, rfl, rfl, hc2, hFBr.step hb3⟩
        case measure => simp [muL, intOf]; omega
end Go.Proofs.Ytokeejachclpeaa
namespace Go.Proofs.Ytokeejachclpeaa
open Go.RowKit

/-- The two sets after k elements. -/
def dgN (v : List Int) (N : Nat) : Nat → Nat × Nat
  | 0 => (0, 2 ^ N - 1)
  | k + 1 =>
    if gv v ((dgN v N k).2 - p2 k) - gv v (dgN v N k).2 ≤ gainN v (dgN v N k).1 k then (insN (dgN v N k).1 k, (dgN v N k).2) else ((dgN v N k).1, (dgN v N k).2 - p2 k)
theorem sub_bits : ∀ b : Fin 32, ∀ k : Fin 5, b.val.testBit k.val = true → b.val - 2 ^ k.val = b.val ^^^ 2 ^ k.val ∧ b.val ^^^ (b.val &&& 2 ^ k.val) = b.val - 2 ^ k.val ∧ 2 ^ k.val ≤ b.val := by decide +kernel
theorem sub_p2 {b k : Nat} (hb : b < 32) (hk : k < 5) (h : b.testBit k = true) : b - p2 k = b ^^^ 2 ^ k ∧ diffN b (p2 k) = b - p2 k ∧ p2 k ≤ b := sub_bits ⟨b, hb⟩ ⟨k, hk⟩ h
theorem dg_inv {v : List Int} {N n : Nat} (fo : FnOk N n v) : ∀ k, k ≤ N → (dgN v N k).1 < n ∧ (dgN v N k).2 < n ∧ ∀ j, k ≤ j → j < N → (dgN v N k).2.testBit j = true
  | 0, _ => by
    refine ⟨fo.n0, ?_, fun j _ hj => ?_⟩
    · show 2 ^ N - 1 < n
      rw [fo.hn]; have := Nat.two_pow_pos N; omega
    · show (2 ^ N - 1).testBit j = true
      rw [Nat.testBit_two_pow_sub_one]; simp [hj]
  | k + 1, hk => by
    obtain ⟨h1, h2, h3⟩ := dg_inv fo k (by omega)
    have n32 := fo.n32
    have hN := fo.hN
    unfold dgN
    split
    · exact ⟨fo.ins h1 (by omega), h2, fun j hj hj2 => h3 j (by omega) hj2⟩
    · have hs := (sub_p2 (by omega) (by omega) (h3 k (Nat.le_refl _) (by omega))).1
      refine ⟨h1, by omega, fun j hj hj2 => ?_⟩
      show ((dgN v N k).2 - p2 k).testBit j = true
      rw [hs, Nat.testBit_xor, h3 j (by omega) hj2, Nat.testBit_two_pow]
      simp; omega
def dgR (E : Int) (v : List Int) : Int := if isFn E v then ((dgN v E.toNat E.toNat).1 : Nat) else 0

set_option maxHeartbeats 1000000 in
theorem doubleGreedy_any (E : Int) (A : Option Addr) (n c : Nat) (v : List Int) (w : World) (hv : Ints w A n v) :
    Calls Try.prog 107 #[.agg #[.int .i64 E, .slice A n c]] w fun e w' => e = .returned (.tuple #[.int .i64 (dgR E v), .bool (isFn E v)]) ∧ Below w.heap.size w w' := by
  cases hf : isFn E v
  · have e0 : dgR E v = 0 := by simp [dgR, hf]
    rw [e0]; clear e0
    go_enter Try.func107, Try.ntmps107
    go_wp2_with fail
    refine (isFunction_any _ _ _ _ v _ (hv.alloc _)).mono ?_
    rintro e w1 ⟨rfl, hb1⟩
    go_wp2
    go_ret2
    exact ⟨rfl, ((Below.refl _ _).alloc (Nat.le_refl _) _).trans (hb1.mono (by simp))⟩
  · have Hf := hide hf
    obtain ⟨N, rfl, fo⟩ := FnOk.of hf hv
    have e0 : dgR N v = ((dgN v N N).1 : Nat) := by simp [dgR, hf]
    rw [e0]; clear e0
    obtain ⟨b, off, rfl, hb, hc⟩ := hv.all_ fo.n0
    have HC := hide hc; clear hc
    have hN := fo.hN
    have h40 : N ≤ 40 := by omega
    have n32 := fo.n32
    have n0 := fo.n0
    have hfull := hide (show ((p2 N : Nat) : Int) - 1 = (((dgN v N 0).2 : Nat) : Int) by show _ = ((2 ^ N - 1 : Nat) : Int); unfold p2; have := Nat.two_pow_pos N; omega)
    go_enter Try.func107, Try.ntmps107
    go_wp2_with fail
    refine (isFunction_any _ _ _ _ v _ (hv.alloc _)).mono ?_
    rintro e w1 ⟨rfl, hb1⟩
    have hFB := (FB.start w N (some ⟨b, off, none⟩) n c).step hb1
    obtain ⟨hbel, hz, r0, r1⟩ := hFB.parts
    go_wp2_with fail
    refine (allOf_any N _ n c w1 h40).mono ?_
    rintro e w2 ⟨rfl, hb2⟩
    have hFB2 := hFB.step hb2
    clear r0 r1
    obtain ⟨-, -, r0, r1⟩ := hFB2.parts
    rw [hfull.out]
    go_wp2
    clear r0 r1 hf
    go_loopw [4, 5, 15] (fun ta tb i wr => ∃ k : Nat, k ≤ N ∧ i = .int .i64 k ∧ ta = .int .i64 ((dgN v N k).1 : Nat) ∧ tb = .int .i64 ((dgN v N k).2 : Nat) ∧ FB w wr N (some ⟨b, off, none⟩) n c) (fun _ _ i _ => N - (intOf i).toNat)
    case atStart => exact ⟨0, Nat.zero_le _, rfl, rfl, rfl, hFB2⟩
    case round =>
      obtain ⟨k, hk, rfl, rfl, rfl, hFBr⟩ := hrel
      obtain ⟨hbelr, hzr, r0, r1⟩ := hFBr.parts
      obtain ⟨ia, ib, hbits⟩ := dg_inv fo k hk
      by_cases hlt : k < N
      · have hbit := hbits k (Nat.le_refl _) hlt
        obtain ⟨s1, s2, s3⟩ := sub_p2 (by omega) (by omega) hbit
        have hs := hide (show dgN v N (k + 1) = if gv v ((dgN v N k).2 - p2 k) - gv v (dgN v N k).2 ≤ gainN v (dgN v N k).1 k then (insN (dgN v N k).1 k, (dgN v N k).2) else ((dgN v N k).1, (dgN v N k).2 - p2 k) from rfl)
        obtain ⟨g1, g2⟩ := fo.gain ia hlt
        generalize ha : (dgN v N k).1 = a at *
        generalize hbb : (dgN v N k).2 = bb at *
        clear ha hbb hbits hbit s1
        have S2 := hide s2; clear s2
        obtain ⟨d, hd⟩ : ∃ d, bb - p2 k = d := ⟨_, rfl⟩
        rw [hd] at hs S2
        have hdn : d < n := by omega
        obtain ⟨v1, v2⟩ := fo.bd ib
        obtain ⟨v3, v4⟩ := fo.bd hdn
        have x1 : wr.cell? ⟨b, off + d, none⟩ = some (.int .i64 (gv v d)) := (hbelr.cell (p := ⟨b, off + d, none⟩) hb).trans (HC.out _ hdn)
        have x2 : wr.cell? ⟨b, off + bb, none⟩ = some (.int .i64 (gv v bb)) := (hbelr.cell (p := ⟨b, off + bb, none⟩) hb).trans (HC.out _ ib)
        have hp2 := p2_le (k := k) (by omega)
        have hk40 : k ≤ 40 := by omega
        have ha10 : a < 1024 := by omega
        have hb10 : bb < 1024 := by omega
        have hp10 : p2 k < 1024 := by have := fo.p2 hlt; omega
        have i1 : (0 : Int) ≤ (d : Int) := by omega
        have i2 : (d : Int) < (n : Int) := by omega
        have i3 : (0 : Int) ≤ (bb : Int) := by omega
        have i4 : (bb : Int) < (n : Int) := by omega
        have t1 : bits .andNot .i64 (bb : Int) ((p2 k : Nat) : Int) = (d : Int) := by rw [bdiff_n bb (p2 k) hb10 hp10, S2.out]
        have t2 : IntKind.i64.wrap (gv v d - gv v bb) = gv v d - gv v bb := IntWalk.i64_in _ (by omega)
        have hyr := hide (hv.below hbelr (Nat.le_refl _))
        clear hd
        have HB := hide hbelr; clear hbelr
        by_cases hq : gv v d - gv v bb ≤ gainN v a k
        · have e1 : decide (gv v d - gv v bb ≤ gainN v a k) = true := by simp [hq]
          have hn1 := hide (show dgN v N (k + 1) = (insN a k, bb) by rw [hs.out, if_pos hq])
          go_wp2
          go_region_held3 (fun w' => w'.cell? ⟨w.heap.size, 0, none⟩ = some (.int .i64 (N : Int)) ∧ w'.cell? ⟨w.heap.size, 1, none⟩ = some (.slice (some ⟨b, off, none⟩) n c) ∧ w'.cell? ⟨b, off + d, none⟩ = some (.int .i64 (gv v d)) ∧ w'.cell? ⟨b, off + bb, none⟩ = some (.int .i64 (gv v bb)))
            (first
              | go_keep
              | exact ⟨(hb3.cell (p := ⟨w.heap.size, 0, none⟩) hzr).trans r0, (hb3.cell (p := ⟨w.heap.size, 1, none⟩) hzr).trans r1, (hb3.cell (p := ⟨b, off + d, none⟩) (Nat.lt_of_lt_of_le hb HB.out.size)).trans x1, (hb3.cell (p := ⟨b, off + bb, none⟩) (Nat.lt_of_lt_of_le hb HB.out.size)).trans x2⟩)
            (first
              | (go_at_call 197; refine (gain_any N _ n c v a k _ hyr.out.drew Hf.out ia (by omega)).mono ?_; rintro e w3 ⟨rfl, hb3⟩))
          go_wp2
          go_roundw
          case rel => exact ⟨k + 1, by omega, by go_num, by rw [hn1.out]; rfl, by rw [hn1.out], hFBr.drew.step hb3⟩
          case measure => simp [intOf]; omega
        · have e1 : decide (gv v d - gv v bb ≤ gainN v a k) = false := by simp; omega
          have hn1 := hide (show dgN v N (k + 1) = (a, d) by rw [hs.out, if_neg hq])
          go_wp2
          go_region_held3 (fun w' => w'.cell? ⟨w.heap.size, 0, none⟩ = some (.int .i64 (N : Int)) ∧ w'.cell? ⟨w.heap.size, 1, none⟩ = some (.slice (some ⟨b, off, none⟩) n c) ∧ w'.cell? ⟨b, off + d, none⟩ = some (.int .i64 (gv v d)) ∧ w'.cell? ⟨b, off + bb, none⟩ = some (.int .i64 (gv v bb)))
            (first
              | go_keep
              | exact ⟨(hb3.cell (p := ⟨w.heap.size, 0, none⟩) hzr).trans r0, (hb3.cell (p := ⟨w.heap.size, 1, none⟩) hzr).trans r1, (hb3.cell (p := ⟨b, off + d, none⟩) (Nat.lt_of_lt_of_le hb HB.out.size)).trans x1, (hb3.cell (p := ⟨b, off + bb, none⟩) (Nat.lt_of_lt_of_le hb HB.out.size)).trans x2⟩)
            (first
              | (go_at_call 197; refine (gain_any N _ n c v a k _ hyr.out.drew Hf.out ia (by omega)).mono ?_; rintro e w3 ⟨rfl, hb3⟩))
          go_wp2
          go_roundw
          case rel => exact ⟨k + 1, by omega, by go_num, by rw [hn1.out], by rw [hn1.out], hFBr.drew.step hb3⟩
          case measure => simp [intOf]; omega
      · obtain rfl : k = N := by omega
        go_wp2
        go_ret2
        exact ⟨rfl, hbelr⟩
set_option maxHeartbeats 1000000 in
theorem specDoubleGreedy_any (E : Int) (A : Option Addr) (n c : Nat) (v : List Int) (w : World) (hv : Ints w A n v) :
    Calls Try.prog 108 #[.agg #[.int .i64 E, .slice A n c]] w fun e w' => e = .returned (.tuple #[.int .i64 (dgR E v), .bool (isFn E v)]) ∧ Below w.heap.size w w' := by
  cases hf : isFn E v
  · have e0 : dgR E v = 0 := by simp [dgR, hf]
    rw [e0]; clear e0
    go_enter Try.func108, Try.ntmps108
    go_wp2_with fail
    refine (specIsFunction_any _ _ _ _ v _ (hv.alloc _)).mono ?_
    rintro e w1 ⟨rfl, hb1⟩
    go_wp2
    go_ret2
    exact ⟨rfl, ((Below.refl _ _).alloc (Nat.le_refl _) _).trans (hb1.mono (by simp))⟩
  · have Hf := hide hf
    obtain ⟨N, rfl, fo⟩ := FnOk.of hf hv
    have e0 : dgR N v = ((dgN v N N).1 : Nat) := by simp [dgR, hf]
    rw [e0]; clear e0
    obtain ⟨b, off, rfl, hb, hc⟩ := hv.all_ fo.n0
    have HC := hide hc; clear hc
    have hN := fo.hN
    have h40 : N ≤ 40 := by omega
    have n32 := fo.n32
    have n0 := fo.n0
    have hfull := hide (show ((p2 N : Nat) : Int) - 1 = (((dgN v N 0).2 : Nat) : Int) by show _ = ((2 ^ N - 1 : Nat) : Int); unfold p2; have := Nat.two_pow_pos N; omega)
    go_enter Try.func108, Try.ntmps108
    go_wp2_with fail
    refine (specIsFunction_any _ _ _ _ v _ (hv.alloc _)).mono ?_
    rintro e w1 ⟨rfl, hb1⟩
    have hFB := (FB.start w N (some ⟨b, off, none⟩) n c).step hb1
    obtain ⟨hbel, hz, r0, r1⟩ := hFB.parts
    go_wp2_with fail
    refine (l2Full_any N w1 h40).mono ?_
    rintro e w2 ⟨rfl, rfl⟩
    rw [hfull.out]
    go_wp2
    clear r0 r1 hf
    go_loopw [4, 5, 6] (fun ta tb i wr => ∃ k : Nat, k ≤ N ∧ i = .int .i64 k ∧ ta = .int .i64 ((dgN v N k).1 : Nat) ∧ tb = .int .i64 ((dgN v N k).2 : Nat) ∧ FB w wr N (some ⟨b, off, none⟩) n c) (fun _ _ i _ => N - (intOf i).toNat)
    case atStart => exact ⟨0, Nat.zero_le _, rfl, rfl, rfl, hFB⟩
    case round =>
      obtain ⟨k, hk, rfl, rfl, rfl, hFBr⟩ := hrel
      obtain ⟨hbelr, hzr, r0, r1⟩ := hFBr.parts
      obtain ⟨ia, ib, hbits⟩ := dg_inv fo k hk
      by_cases hlt : k < N
      · have hbit := hbits k (Nat.le_refl _) hlt
        obtain ⟨s1, s2, s3⟩ := sub_p2 (by omega) (by omega) hbit
        have hi := fo.ins ia hlt
        have hs := hide (show dgN v N (k + 1) = if gv v ((dgN v N k).2 - p2 k) - gv v (dgN v N k).2 ≤ gv v (insN (dgN v N k).1 k) - gv v (dgN v N k).1 then (insN (dgN v N k).1 k, (dgN v N k).2) else ((dgN v N k).1, (dgN v N k).2 - p2 k) from rfl)
        generalize ha : (dgN v N k).1 = a at *
        generalize hbb : (dgN v N k).2 = bb at *
        clear ha hbb hbits hbit s1 s2
        obtain ⟨d, hd⟩ : ∃ d, bb - p2 k = d := ⟨_, rfl⟩
        rw [hd] at hs
        have hdi := hide (show ((bb : Int) - ((p2 k : Nat) : Int)) = (d : Int) by omega)
        have hdn : d < n := by omega
        obtain ⟨v1, v2⟩ := fo.bd ib
        obtain ⟨v3, v4⟩ := fo.bd hdn
        obtain ⟨v5, v6⟩ := fo.bd ia
        obtain ⟨v7, v8⟩ := fo.bd hi
        have x1 : wr.cell? ⟨b, off + d, none⟩ = some (.int .i64 (gv v d)) := (hbelr.cell (p := ⟨b, off + d, none⟩) hb).trans (HC.out _ hdn)
        have x2 : wr.cell? ⟨b, off + bb, none⟩ = some (.int .i64 (gv v bb)) := (hbelr.cell (p := ⟨b, off + bb, none⟩) hb).trans (HC.out _ ib)
        have x3 : wr.cell? ⟨b, off + a, none⟩ = some (.int .i64 (gv v a)) := (hbelr.cell (p := ⟨b, off + a, none⟩) hb).trans (HC.out _ ia)
        have x4 : wr.cell? ⟨b, off + insN a k, none⟩ = some (.int .i64 (gv v (insN a k))) := (hbelr.cell (p := ⟨b, off + insN a k, none⟩) hb).trans (HC.out _ hi)
        have hp2 := p2_le (k := k) (by omega)
        have hk40 : k ≤ 40 := by omega
        have ha10 : a < 1024 := by omega
        have hb10 : bb < 1024 := by omega
        have i0 : (0 : Int) ≤ (k : Int) := by omega
        have i1 : (0 : Int) ≤ (d : Int) := by omega
        have i2 : (d : Int) < (n : Int) := by omega
        have i3 : (0 : Int) ≤ (bb : Int) := by omega
        have i4 : (bb : Int) < (n : Int) := by omega
        have i5 : (0 : Int) ≤ (a : Int) := by omega
        have i6 : (a : Int) < (n : Int) := by omega
        have i7 : (0 : Int) ≤ (insN a k : Int) := by omega
        have i8 : (insN a k : Int) < (n : Int) := by omega
        have t1 : IntKind.i64.wrap ((bb : Int) - ((p2 k : Nat) : Int)) = (d : Int) := by rw [hdi.out]; exact IntWalk.i64_in _ (by omega)
        have t2 : IntKind.i64.wrap (gv v d - gv v bb) = gv v d - gv v bb := IntWalk.i64_in _ (by omega)
        have t3 : IntKind.i64.wrap (gv v (insN a k) - gv v a) = gv v (insN a k) - gv v a := IntWalk.i64_in _ (by omega)
        have t4 : (bb : Int) - ((p2 k : Nat) : Int) = (d : Int) := hdi.out
        clear hd
        have HB := hide hbelr; clear hbelr
        by_cases hq : gv v d - gv v bb ≤ gv v (insN a k) - gv v a
        · have hn1 := hide (show dgN v N (k + 1) = (insN a k, bb) by rw [hs.out, if_pos hq])
          go_wp2
          go_quiet (fail)
          go_wp2
          go_quiet (fail)
          go_wp2
          go_roundw
          case rel => exact ⟨k + 1, by omega, by go_num, by rw [hn1.out], by rw [hn1.out], hFBr.drewN _⟩
          case measure => simp [intOf]; omega
        · have hn1 := hide (show dgN v N (k + 1) = (a, d) by rw [hs.out, if_neg hq])
          go_wp2
          go_quiet (fail)
          go_wp2
          go_quiet (fail)
          go_wp2
          go_roundw
          case rel => exact ⟨k + 1, by omega, by go_num, by rw [hn1.out], by rw [hn1.out], hFBr.drewN _⟩
          case measure => simp [intOf]; omega
      · obtain rfl : k = N := by omega
        go_wp2
        go_ret2
        exact ⟨rfl, hbelr⟩
end Go.Proofs.Ytokeejachclpeaa
