/-
  Walks: local maxima, by one better change after the other.
-/
import Derived.Test.YtimchlpibllmkaaClimb
namespace Go.Proofs.Ytimchlpibllmkaa
open Go.RowKit

def climb (v : List Int) (N : Nat) : Nat → Nat → Nat
  | 0, s => s
  | f + 1, s => match stepO v s N with | some k => climb v N f (xorN s k) | none => s
theorem climb_none {v : List Int} {N s : Nat} (f : Nat) (h : stepO v s N = none) : climb v N f s = s := by
  cases f with
  | zero => rfl
  | succ f => simp [climb, h]
theorem climb_some {v : List Int} {N s k f : Nat} (h : stepO v s N = some k) (hf : 0 < f) : climb v N f s = climb v N (f - 1) (xorN s k) := by
  obtain ⟨g, rfl⟩ : ∃ g, f = g + 1 := ⟨f - 1, by omega⟩
  simp [climb, h]
def lmaxOk (E : Int) (v : List Int) (s : Int) : Bool := isFn E v && inR s 0 ((v.length : Int) - 1)
def lmaxS (E : Int) (v : List Int) (s : Int) : Int := if lmaxOk E v s then (climb v E.toNat 2001 s.toNat : Nat) else 0
def lmaxB (E : Int) (v : List Int) (s : Int) : Bool := lmaxOk E v s && !stepB v s.toNat E.toNat
/-- The climb from s with fuel f ends in R, and the fuel suffices. -/
def ClimbTo (v : List Int) (N n R s : Nat) : Prop := s < n ∧ ∃ f : Nat, climb v N f s = R ∧ 1000 - gv v s < f
theorem ClimbTo.start {v : List Int} {N n s : Nat} (h : s < n) (hv : -1000 ≤ gv v s) : ClimbTo v N n (climb v N 2001 s) s := ⟨h, 2001, rfl, by omega⟩
theorem ClimbTo.some_ {v : List Int} {N n R s k : Nat} (h : ClimbTo v N n R s) (fo : FnOk N n v) (hk : stepO v s N = some k) : ClimbTo v N n R (xorN s k) ∧ gv v s < gv v (xorN s k) := by
  obtain ⟨hs, f, hR, hf⟩ := h
  obtain ⟨h1, h2⟩ := stepO_some hk
  have hb := fo.bd hs
  refine ⟨⟨fo.xor hs h1, f - 1, ?_, by omega⟩, h2⟩
  rw [← hR, climb_some hk (by omega)]
theorem ClimbTo.none_ {v : List Int} {N n R s : Nat} (h : ClimbTo v N n R s) (hk : stepO v s N = none) : s = R := by
  obtain ⟨hs, f, hR, hf⟩ := h
  rw [← hR, climb_none f hk]
def boolOf (x : Value) : Nat := match x with | .bool true => 1 | _ => 0
def muL (v : List Int) (t : Value) : Nat := (1000 - gv v (intOf t).toNat).toNat

theorem isLocalMaximum_any (E : Int) (A : Option Addr) (n c : Nat) (v : List Int) (s : Int) (w : World) (hv : Ints w A n v) :
    Calls Try.prog 37 #[.agg #[.int .i64 E, .slice A n c], .int .i64 s] w fun e w' => e = .returned (.bool (lmaxB E v s)) ∧ Below w.heap.size w w' := by
  cases hf : isFn E v
  · have e0 : lmaxB E v s = false := by simp [lmaxB, lmaxOk, hf]
    rw [e0]; clear e0
    go_enter Try.func37, Try.ntmps37
    go_wp2_with fail
    refine (isFunction_any _ _ _ _ v _ (hv.alloc _)).mono ?_
    rintro e w1 ⟨rfl, hb1⟩
    go_wp2
    go_ret
    exact ⟨rfl, ((Below.refl _ _).alloc (Nat.le_refl _) _).trans (hb1.mono (by simp))⟩
  · have Hf := hide hf
    obtain ⟨N, rfl, fo⟩ := FnOk.of hf hv
    have hN := fo.hN
    have hnp := hide (show (n : Int) = ((p2 N : Nat) : Int) by have := fo.hn; unfold p2; omega)
    have eOk : lmaxOk N v s = inR s 0 ((p2 N : Nat) - 1) := by simp [lmaxOk, Hf.out, fo.hl, hnp.out]
    cases hs : inR s 0 ((p2 N : Nat) - 1)
    · have e0 : lmaxB N v s = false := by simp [lmaxB, eOk, hs]
      rw [e0]; clear e0 eOk
      go_enter Try.func37, Try.ntmps37
      go_wp2_with fail
      refine (isFunction_any _ _ _ _ v _ (hv.alloc _)).mono ?_
      rintro e w1 ⟨rfl, hb1⟩
      obtain ⟨hbel, hz, r0, r1⟩ := ((FB.start w N A n c).step hb1).parts
      go_wp2_with (go_at_call 62; refine (isSetOf_any _ _ _ hN).mono ?_; rintro e w' ⟨rfl, rfl⟩)
      go_ret
      exact ⟨rfl, hbel⟩
    · obtain ⟨s1, s2⟩ := inR_true hs
      obtain ⟨sn, rfl⟩ := Int.eq_ofNat_of_zero_le s1
      have hsn : sn < n := by have := hnp.out; omega
      have e0 : lmaxB N v sn = !stepB v sn N := by simp [lmaxB, eOk, hs]
      rw [e0]; clear e0 eOk s1 s2
      go_enter Try.func37, Try.ntmps37
      go_wp2_with fail
      refine (isFunction_any _ _ _ _ v _ (hv.alloc _)).mono ?_
      rintro e w1 ⟨rfl, hb1⟩
      have hFB := (FB.start w N A n c).step hb1
      obtain ⟨hbel, hz, r0, r1⟩ := hFB.parts
      go_wp2_with fail
      refine (isSetOf_any _ _ _ hN).mono ?_
      rintro e w' ⟨rfl, rfl⟩
      go_wp2_with fail
      refine (betterChange_any _ _ _ _ v sn _ (hv.below hbel (Nat.le_refl _)) Hf.out hsn).mono ?_
      rintro e w2 ⟨rfl, hb2⟩
      rw [Int.toNat_natCast]
      go_wp2
      go_ret
      exact ⟨rfl, (hFB.step hb2).1⟩
theorem stepI_neg (v : List Int) (s N : Nat) : decide (stepI v s N < 0) = !stepB v s N := by
  unfold stepI stepB; cases stepO v s N <;> simp <;> omega
theorem specIsLocalMaximum_any (E : Int) (A : Option Addr) (n c : Nat) (v : List Int) (s : Int) (w : World) (hv : Ints w A n v) :
    Calls Try.prog 36 #[.agg #[.int .i64 E, .slice A n c], .int .i64 s] w fun e w' => e = .returned (.bool (lmaxB E v s)) ∧ Below w.heap.size w w' := by
  have eOk : lmaxOk E v s = (isFn E v && inR s 0 ((n : Int) - 1)) := by simp [lmaxOk, hv.len]
  cases hs : (isFn E v && inR s 0 ((n : Int) - 1))
  · have e0 : lmaxB E v s = false := by simp only [lmaxB, eOk, hs]; rfl
    rw [e0]; clear e0 eOk
    go_enter Try.func36, Try.ntmps36
    go_wp2_with fail
    refine (l5In_any _ _ _ _ v s _ (hv.alloc _)).mono ?_
    rintro e w1 ⟨rfl, hb1⟩
    rw [hs]
    go_wp2
    go_ret
    exact ⟨rfl, ((Below.refl _ _).alloc (Nat.le_refl _) _).trans (hb1.mono (by simp))⟩
  · have Hs := hide hs
    have Hf := hide (show isFn E v = true by simp at hs; exact hs.1)
    obtain ⟨s1, s2⟩ := inR_true (show inR s 0 ((n : Int) - 1) = true by simp at hs; exact hs.2)
    clear hs
    obtain ⟨N, rfl, fo⟩ := FnOk.of Hf.out hv
    obtain ⟨sn, rfl⟩ := Int.eq_ofNat_of_zero_le s1
    have hsn : sn < n := by omega
    have e0 : lmaxB N v sn = !stepB v sn N := by simp only [lmaxB, eOk, Hs.out]; simp
    rw [e0]; clear e0 eOk s1 s2
    have e2 := stepI_neg v sn N
    go_enter Try.func36, Try.ntmps36
    go_wp2_with fail
    refine (l5In_any _ _ _ _ v sn _ (hv.alloc _)).mono ?_
    rintro e w1 ⟨rfl, hb1⟩
    have hFB := (FB.start w N A n c).step hb1
    obtain ⟨hbel, hz, r0, r1⟩ := hFB.parts
    rw [Hs.out]
    go_wp2_with fail
    refine (l12Step_any _ _ _ _ v sn _ (hv.below hbel (Nat.le_refl _)) Hf.out hsn).mono ?_
    rintro e w2 ⟨rfl, hb2⟩
    rw [Int.toNat_natCast]
    go_wp2
    go_ret
    exact ⟨rfl, (hFB.step hb2).1⟩
set_option maxHeartbeats 400000 in
theorem localMaximum_any (E : Int) (A : Option Addr) (n c : Nat) (v : List Int) (s : Int) (w : World) (hv : Ints w A n v) :
    Calls Try.prog 41 #[.agg #[.int .i64 E, .slice A n c], .int .i64 s] w fun e w' => e = .returned (.tuple #[.int .i64 (lmaxS E v s), .bool (lmaxOk E v s)]) ∧ Below w.heap.size w w' := by
  cases hf : isFn E v
  · have e0 : lmaxOk E v s = false := by simp [lmaxOk, hf]
    have e1 : lmaxS E v s = 0 := by simp [lmaxS, e0]
    rw [e0, e1]; clear e0 e1
    go_enter Try.func41, Try.ntmps41
    go_wp2_with fail
    refine (isFunction_any _ _ _ _ v _ (hv.alloc _)).mono ?_
    rintro e w1 ⟨rfl, hb1⟩
    go_wp2
    go_ret2
    exact ⟨rfl, ((Below.refl _ _).alloc (Nat.le_refl _) _).trans (hb1.mono (by simp))⟩
  · have Hf := hide hf
    obtain ⟨N, rfl, fo⟩ := FnOk.of hf hv
    have hN := fo.hN
    have hnp := hide (show (n : Int) = ((p2 N : Nat) : Int) by have := fo.hn; unfold p2; omega)
    have eOk : lmaxOk N v s = inR s 0 ((p2 N : Nat) - 1) := by simp [lmaxOk, Hf.out, fo.hl, hnp.out]
    cases hs : inR s 0 ((p2 N : Nat) - 1)
    · have e0 : lmaxOk N v s = false := by rw [eOk, hs]
      have e1 : lmaxS N v s = 0 := by simp [lmaxS, e0]
      rw [e0, e1]; clear e0 e1 eOk
      go_enter Try.func41, Try.ntmps41
      go_wp2_with fail
      refine (isFunction_any _ _ _ _ v _ (hv.alloc _)).mono ?_
      rintro e w1 ⟨rfl, hb1⟩
      obtain ⟨hbel, hz, r0, r1⟩ := ((FB.start w N A n c).step hb1).parts
      go_wp2_with (go_at_call 62; refine (isSetOf_any _ _ _ hN).mono ?_; rintro e w' ⟨rfl, rfl⟩)
      go_ret2
      exact ⟨rfl, hbel⟩
    · obtain ⟨s1, s2⟩ := inR_true hs
      obtain ⟨sn, rfl⟩ := Int.eq_ofNat_of_zero_le s1
      have hsn : sn < n := by have := hnp.out; omega
      have e0 : lmaxOk N v sn = true := by rw [eOk, hs]
      have e1 : lmaxS N v sn = (climb v N 2001 sn : Nat) := by simp [lmaxS, e0]
      rw [e0, e1]; clear e0 e1 eOk s1 s2
      go_enter Try.func41, Try.ntmps41
      go_wp2_with fail
      refine (isFunction_any _ _ _ _ v _ (hv.alloc _)).mono ?_
      rintro e w1 ⟨rfl, hb1⟩
      have hFB := (FB.start w N A n c).step hb1
      obtain ⟨hbel, hz, r0, r1⟩ := hFB.parts
      go_wp2_with fail
      refine (isSetOf_any _ _ _ hN).mono ?_
      rintro e w' ⟨rfl, rfl⟩
      go_wp2
      clear r0 r1 hs hf
      go_loopw [1, 6] (fun t a wr => ∃ k : Nat, t = .int .i64 k ∧ ((a = .bool true ∧ ClimbTo v N n (climb v N 2001 sn) k) ∨ (a = .bool false ∧ k = climb v N 2001 sn)) ∧ FB w wr N A n c) (fun t a _ => 2 * muL v t + boolOf a)
      case atStart => exact ⟨sn, rfl, .inl ⟨rfl, ClimbTo.start hsn (fo.bd hsn).1⟩, hFB⟩
      case round =>
        obtain ⟨k, rfl, hor, hFBr⟩ := hrel
        obtain ⟨hbelr, hzr, r0, r1⟩ := hFBr.parts
        rcases hor with ⟨rfl, hc⟩ | ⟨rfl, hk⟩
        · have hB := betterChange_any N A n c v k wr (hv.below hbelr (Nat.le_refl _)) Hf.out hc.1
          rw [Int.toNat_natCast] at hB
          have HB := hide hB; clear hB
          cases hst : stepO v k N with
          | none =>
            have hkr := hide (hc.none_ hst)
            have e1 : stepS v k N = k := by simp [stepS, hst]
            have e2 : stepB v k N = false := by simp [stepB, hst]
            go_wp2_with fail
            refine HB.out.mono ?_
            rintro e w2 ⟨rfl, hb2⟩
            rw [e1, e2]
            clear e1 e2 hst
            go_wp2
            go_roundw
            case rel => exact ⟨k, rfl, .inr ⟨rfl, hkr.out⟩, hFBr.step hb2⟩
            case measure => simp [boolOf]
          | some j =>
            obtain ⟨hc2, hlt⟩ := hc.some_ fo hst
            have e1 : stepS v k N = xorN k j := by simp [stepS, hst]
            have e2 : stepB v k N = true := by simp [stepB, hst]
            have hbd := (fo.bd hc2.1).2
            go_wp2_with fail
            refine HB.out.mono ?_
            rintro e w2 ⟨rfl, hb2⟩
            rw [e1, e2]
            clear e1 e2 hst
            go_wp2
            go_roundw
            case rel => exact ⟨xorN k j, rfl, .inl ⟨rfl, hc2⟩, hFBr.step hb2⟩
            case measure => simp [muL, intOf]; omega
        · have hk' := hide hk; clear hk
          go_wp2
          go_ret2
          exact ⟨by rw [hk'.out]; rfl, hbelr⟩
set_option maxHeartbeats 400000 in
theorem specLocalMaximum_any (E : Int) (A : Option Addr) (n c : Nat) (v : List Int) (s : Int) (w : World) (hv : Ints w A n v) :
    Calls Try.prog 40 #[.agg #[.int .i64 E, .slice A n c], .int .i64 s] w fun e w' => e = .returned (.tuple #[.int .i64 (lmaxS E v s), .bool (lmaxOk E v s)]) ∧ Below w.heap.size w w' := by
  have eOk : lmaxOk E v s = (isFn E v && inR s 0 ((n : Int) - 1)) := by simp [lmaxOk, hv.len]
  cases hs : (isFn E v && inR s 0 ((n : Int) - 1))
  · have e0 : lmaxOk E v s = false := by rw [eOk, hs]
    have e1 : lmaxS E v s = 0 := by simp [lmaxS, e0]
    rw [e0, e1]; clear e0 e1 eOk
    go_enter Try.func40, Try.ntmps40
    go_wp2_with fail
    refine (l5In_any _ _ _ _ v s _ (hv.alloc _)).mono ?_
    rintro e w1 ⟨rfl, hb1⟩
    rw [hs]
    go_wp2
    go_ret2
    exact ⟨rfl, ((Below.refl _ _).alloc (Nat.le_refl _) _).trans (hb1.mono (by simp))⟩
  · have Hs := hide hs
    have Hf := hide (show isFn E v = true by simp at hs; exact hs.1)
    obtain ⟨s1, s2⟩ := inR_true (show inR s 0 ((n : Int) - 1) = true by simp at hs; exact hs.2)
    clear hs
    obtain ⟨N, rfl, fo⟩ := FnOk.of Hf.out hv
    have hN := fo.hN
    have n32 := fo.n32
    obtain ⟨sn, rfl⟩ := Int.eq_ofNat_of_zero_le s1
    have hsn : sn < n := by omega
    have e0 : lmaxOk N v sn = true := by rw [eOk, Hs.out]
    have e1 : lmaxS N v sn = (climb v N 2001 sn : Nat) := by simp [lmaxS, e0]
    rw [e0, e1]; clear e0 e1 eOk s1 s2
    go_enter Try.func40, Try.ntmps40
    go_wp2_with fail
    refine (l5In_any _ _ _ _ v sn _ (hv.alloc _)).mono ?_
    rintro e w1 ⟨rfl, hb1⟩
    have hFB := (FB.start w N A n c).step hb1
    obtain ⟨hbel, hz, r0, r1⟩ := hFB.parts
    rw [Hs.out]
    go_wp2_with fail
    refine (l12Step_any _ _ _ _ v sn _ (hv.below hbel (Nat.le_refl _)) Hf.out hsn).mono ?_
    rintro e w2 ⟨rfl, hb2⟩
    have hFB2 := hFB.step hb2
    rw [Int.toNat_natCast]
    go_wp2
    clear r0 r1
    go_loopw [1, 6] (fun t a wr => ∃ k : Nat, t = .int .i64 k ∧ a = .int .i64 (stepI v k N) ∧ ClimbTo v N n (climb v N 2001 sn) k ∧ FB w wr N A n c) (fun t _ _ => muL v t)
    case atStart => exact ⟨sn, rfl, rfl, ClimbTo.start hsn (fo.bd hsn).1, hFB2⟩
    case round =>
      obtain ⟨k, rfl, rfl, hc, hFBr⟩ := hrel
      obtain ⟨hbelr, hzr, r0, r1⟩ := hFBr.parts
      have hk10 : k < 1024 := by have := hc.1; omega
      cases hst : stepO v k N with
      | none =>
        have hkr := hide (hc.none_ hst)
        have e1 : stepI v k N = -1 := by simp [stepI, hst]
        rw [e1]
        clear e1 hst
        go_wp2
        go_ret2
        exact ⟨by rw [hkr.out]; rfl, hbelr⟩
      | some j =>
        obtain ⟨hc2, hlt⟩ := hc.some_ fo hst
        have hj := (stepO_some hst).1
        have e1 : stepI v k N = (j : Int) := by simp [stepI, hst]
        have hbd := (fo.bd hc2.1).2
        have hB := l12Step_any N A n c v (xorN k j) wr (hv.below hbelr (Nat.le_refl _)) Hf.out hc2.1
        rw [Int.toNat_natCast] at hB
        have HB := hide hB; clear hB
        have hj40 : j ≤ 40 := by omega
        rw [e1]
        clear e1 hst
        go_wp2_with fail
        refine HB.out.mono ?_
        rintro e w3 ⟨rfl, hb3⟩
        go_wp2
        go_roundw
        case rel => exact ⟨xorN k j, rfl, rfl, hc2, hFBr.step hb3⟩
        case measure => simp [muL, intOf]; omega
end Go.Proofs.Ytimchlpibllmkaa
