/-
  Walks: the least value between two sets.
-/
import Derived.Test.YtokeejachclpeaaFun
namespace Go.Proofs.Ytokeejachclpeaa
open Go.RowKit

/-- Contains k the set a, and nothing of b? -/
def fitB (a b k : Nat) : Bool := decide (andN k a = a) && decide (andN k b = 0)
/-- The first set of least value that fits, among the first k. -/
def betw (v : List Int) (a b : Nat) : Nat → Nat
  | 0 => a
  | k + 1 => if fitB a b k && decide (gv v k < gv v (betw v a b k)) then k else betw v a b k
theorem betw_lt {v : List Int} {a b n : Nat} (ha : a < n) : ∀ k, k ≤ n → betw v a b k < n
  | 0, _ => ha
  | k + 1, hk => by
    unfold betw
    split
    · omega
    · exact betw_lt ha k (by omega)
theorem diff_zero (a k : Nat) : (diffN a k = 0) ↔ andN k a = a := by
  unfold diffN andN
  constructor
  · intro h
    have : a = a &&& k := by
      have h2 : a ^^^ (a &&& k) ^^^ (a &&& k) = (a &&& k) := by rw [h]; simp
      rwa [Nat.xor_assoc, Nat.xor_self, Nat.xor_zero] at h2
    rw [Nat.and_comm]; exact this.symm
  · intro h
    rw [Nat.and_comm, h, Nat.xor_self]
def betwOk (E : Int) (v : List Int) (a b : Int) : Bool := isFn E v && (inR a 0 ((v.length : Int) - 1) && (inR b 0 ((v.length : Int) - 1) && decide (andN a.toNat b.toNat = 0)))
def betwS (E : Int) (v : List Int) (a b : Int) : Int := if betwOk E v a b then (betw v a.toNat b.toNat v.length : Nat) else 0
def betwV (E : Int) (v : List Int) (a b : Int) : Int := if betwOk E v a b then gv v (betw v a.toNat b.toNat v.length) else 0

set_option maxHeartbeats 1000000 in
theorem minimumBetween_any (E : Int) (A : Option Addr) (n c : Nat) (v : List Int) (a b : Int) (w : World) (hv : Ints w A n v) :
    Calls Try.prog 88 #[.agg #[.int .i64 E, .slice A n c], .int .i64 a, .int .i64 b] w fun e w' => e = .returned (.tuple #[.int .i64 (betwV E v a b), .int .i64 (betwS E v a b), .bool (betwOk E v a b)]) ∧ Below w.heap.size w w' := by
  cases hf : isFn E v
  · have e0 : betwOk E v a b = false := by simp [betwOk, hf]
    go_enter Try.func88, Try.ntmps88
    go_wp2_with fail
    refine (isFunction_any _ _ _ _ v _ (hv.alloc _)).mono ?_
    rintro e w1 ⟨rfl, hb1⟩
    go_wp2
    go_ret3
    exact ⟨by simp [betwV, betwS, e0], ((Below.refl _ _).alloc (Nat.le_refl _) _).trans (hb1.mono (by simp))⟩
  · have Hf := hide hf
    obtain ⟨N, rfl, fo⟩ := FnOk.of hf hv
    have hN := fo.hN
    have hlen := hide fo.hl
    have n32 := fo.n32
    have n0 := fo.n0
    have hnp := hide (show (n : Int) = ((p2 N : Nat) : Int) by have := fo.hn; unfold p2; omega)
    have eOk : betwOk N v a b = (inR a 0 ((p2 N : Nat) - 1) && (inR b 0 ((p2 N : Nat) - 1) && decide (andN a.toNat b.toNat = 0))) := by simp [betwOk, Hf.out, hlen.out, hnp.out]
    cases ha : inR a 0 ((p2 N : Nat) - 1)
    · have e0 : betwOk N v a b = false := by rw [eOk, ha]; rfl
      clear eOk
      go_enter Try.func88, Try.ntmps88
      go_wp2_with fail
      refine (isFunction_any _ _ _ _ v _ (hv.alloc _)).mono ?_
      rintro e w1 ⟨rfl, hb1⟩
      obtain ⟨-, -, r0, r1⟩ := ((FB.start w N A n c).step hb1).parts
      go_wp2_with (go_at_call 177; refine (isSetOf_any _ _ _ hN).mono ?_; rintro e w' ⟨rfl, rfl⟩)
      go_ret3
      exact ⟨by simp [betwV, betwS, e0], ((Below.refl _ _).alloc (Nat.le_refl _) _).trans (hb1.mono (by simp))⟩
    cases hb : inR b 0 ((p2 N : Nat) - 1)
    · have e0 : betwOk N v a b = false := by rw [eOk, ha, hb]; rfl
      clear eOk
      go_enter Try.func88, Try.ntmps88
      go_wp2_with fail
      refine (isFunction_any _ _ _ _ v _ (hv.alloc _)).mono ?_
      rintro e w1 ⟨rfl, hb1⟩
      obtain ⟨-, -, r0, r1⟩ := ((FB.start w N A n c).step hb1).parts
      go_wp2_with (go_at_call 177; refine (isSetOf_any _ _ _ hN).mono ?_; rintro e w' ⟨rfl, rfl⟩)
      go_ret3
      exact ⟨by simp [betwV, betwS, e0], ((Below.refl _ _).alloc (Nat.le_refl _) _).trans (hb1.mono (by simp))⟩
    obtain ⟨a1, a2⟩ := inR_true ha
    obtain ⟨b1, b2⟩ := inR_true hb
    obtain ⟨an, rfl⟩ := Int.eq_ofNat_of_zero_le a1
    obtain ⟨bn, rfl⟩ := Int.eq_ofNat_of_zero_le b1
    have han : an < n := by have := hnp.out; omega
    have hbn : bn < n := by have := hnp.out; omega
    have han' : an < 1024 := by omega
    have hbn' : bn < 1024 := by omega
    clear a1 a2 b1 b2
    by_cases hab : andN an bn = 0
    · have HOK := hide (show betwOk N v an bn = true by rw [eOk, ha, hb]; simp [hab])
      clear eOk
      obtain ⟨bb, off, rfl, hbb, hc⟩ := hv.all_ fo.n0
      have HC := hide hc; clear hc
      go_enter Try.func88, Try.ntmps88
      go_wp2_with fail
      refine (isFunction_any _ _ _ _ v _ (hv.alloc _)).mono ?_
      rintro e w1 ⟨rfl, hb1⟩
      have hFB := (FB.start w N (some ⟨bb, off, none⟩) n c).step hb1
      obtain ⟨hbel, hz, r0, r1⟩ := hFB.parts
      go_wp2_with (go_at_call 177; refine (isSetOf_any _ _ _ hN).mono ?_; rintro e w' ⟨rfl, rfl⟩)
      clear hab ha hb hf
      have hcw : ∀ j, j < n → w1.cell? ⟨bb, off + j, none⟩ = some (.int .i64 (gv v j)) := fun j hj => (hbel.cell (p := ⟨bb, off + j, none⟩) hbb).trans (HC.out j hj)
      have HCW := hide hcw; clear hcw
      go_loop [9, 39] (fun t i => ∃ k : Nat, k ≤ n ∧ i = .int .i64 k ∧ t = .int .i64 (betw v an bn k : Nat)) (fun _ i => n - (intOf i).toNat)
      case atStart => exact ⟨0, Nat.zero_le _, rfl, rfl⟩
      case round =>
        obtain ⟨k, hk, rfl, rfl⟩ := hrel
        have hbk := betw_lt (v := v) (b := bn) han k hk
        have c2 := HCW.out _ hbk
        by_cases hlt : k < n
        · have c1 := HCW.out _ hlt
          have hk10 : k < 1024 := by omega
          have hs := hide (show betw v an bn (k + 1) = if fitB an bn k && decide (gv v k < gv v (betw v an bn k)) then k else betw v an bn k from rfl)
          have hd := hide (diff_zero an k)
          go_wp2
          all_goals refine ⟨⟨k + 1, by omega, by go_num, ?_⟩, by simp [intOf]; omega⟩
          all_goals rw [hs.out]
          all_goals simp only [fitB, ← hd.out]
          · simp [*]
          · have hq : gv v (betw v an bn k) ≤ gv v k := by assumption
            simp [Int.not_lt.2 hq]
          · simp [*]
          · simp [*]
        · obtain rfl : k = n := by omega
          go_wp2
          go_ret3
          exact ⟨by simp [betwV, betwS, HOK.out, hlen.out], hbel⟩
    · have e0 : betwOk N v an bn = false := by rw [eOk]; simp [hab]
      clear eOk
      have e1 : ((andN an bn : Nat) : Int) ≠ 0 := by omega
      go_enter Try.func88, Try.ntmps88
      go_wp2_with fail
      refine (isFunction_any _ _ _ _ v _ (hv.alloc _)).mono ?_
      rintro e w1 ⟨rfl, hb1⟩
      obtain ⟨-, -, r0, r1⟩ := ((FB.start w N A n c).step hb1).parts
      go_wp2_with (go_at_call 177; refine (isSetOf_any _ _ _ hN).mono ?_; rintro e w' ⟨rfl, rfl⟩)
      go_ret3
      exact ⟨by simp [betwV, betwS, e0], ((Below.refl _ _).alloc (Nat.le_refl _) _).trans (hb1.mono (by simp))⟩
set_option maxHeartbeats 1000000 in
theorem specMinimumBetween_any (E : Int) (A : Option Addr) (n c : Nat) (v : List Int) (a b : Int) (w : World) (hv : Ints w A n v) :
    Calls Try.prog 89 #[.agg #[.int .i64 E, .slice A n c], .int .i64 a, .int .i64 b] w fun e w' => e = .returned (.tuple #[.int .i64 (betwV E v a b), .int .i64 (betwS E v a b), .bool (betwOk E v a b)]) ∧ Below w.heap.size w w' := by
  have eOk : betwOk E v a b = ((isFn E v && inR a 0 ((n : Int) - 1)) && ((isFn E v && inR b 0 ((n : Int) - 1)) && decide (andN a.toNat b.toNat = 0))) := by
    unfold betwOk; rw [hv.len]; cases isFn E v <;> simp
  cases ha : (isFn E v && inR a 0 ((n : Int) - 1))
  · have e0 : betwOk E v a b = false := by rw [eOk, ha]; rfl
    clear eOk
    go_enter Try.func89, Try.ntmps89
    go_wp2_with fail
    refine (l5In_any _ _ _ _ v a _ (hv.alloc _)).mono ?_
    rintro e w1 ⟨rfl, hb1⟩
    rw [ha]
    go_wp2
    go_ret3
    exact ⟨by simp [betwV, betwS, e0], ((Below.refl _ _).alloc (Nat.le_refl _) _).trans (hb1.mono (by simp))⟩
  cases hb : (isFn E v && inR b 0 ((n : Int) - 1))
  · have e0 : betwOk E v a b = false := by rw [eOk, ha, hb]; rfl
    clear eOk
    go_enter Try.func89, Try.ntmps89
    go_wp2_with fail
    refine (l5In_any _ _ _ _ v a _ (hv.alloc _)).mono ?_
    rintro e w1 ⟨rfl, hb1⟩
    have hFB := (FB.start w E A n c).step hb1
    obtain ⟨hbel, hz, r0, r1⟩ := hFB.parts
    rw [ha]
    go_wp2_with fail
    refine (l5In_any _ _ _ _ v b _ (hv.below hbel (Nat.le_refl _))).mono ?_
    rintro e w2 ⟨rfl, hb2⟩
    rw [hb]
    go_wp2
    go_ret3
    exact ⟨by simp [betwV, betwS, e0], (hFB.step hb2).1⟩
  have Ha := hide ha
  have Hb := hide hb
  have hf : isFn E v = true := by simp at ha; exact ha.1
  obtain ⟨N, rfl, fo⟩ := FnOk.of hf hv
  have hN := fo.hN
  have hlen := hide fo.hl
  have n32 := fo.n32
  have n0 := fo.n0
  obtain ⟨a1, a2⟩ := inR_true (show inR a 0 ((n : Int) - 1) = true by simp at ha; exact ha.2)
  obtain ⟨b1, b2⟩ := inR_true (show inR b 0 ((n : Int) - 1) = true by simp at hb; exact hb.2)
  clear ha hb hf
  obtain ⟨an, rfl⟩ := Int.eq_ofNat_of_zero_le a1
  obtain ⟨bn, rfl⟩ := Int.eq_ofNat_of_zero_le b1
  have han : an < n := by omega
  have hbn : bn < n := by omega
  have han' : an < 1024 := by omega
  have hbn' : bn < 1024 := by omega
  clear a1 a2 b1 b2
  by_cases hab : andN an bn = 0
  · have HOK := hide (show betwOk N v an bn = true by rw [eOk, Ha.out, Hb.out]; simp [hab])
    clear eOk
    obtain ⟨bb, off, rfl, hbb, hc⟩ := hv.all_ fo.n0
    have HC := hide hc; clear hc
    go_enter Try.func89, Try.ntmps89
    go_wp2_with fail
    refine (l5In_any _ _ _ _ v an _ (hv.alloc _)).mono ?_
    rintro e w1 ⟨rfl, hb1⟩
    have hFB := (FB.start w N (some ⟨bb, off, none⟩) n c).step hb1
    obtain ⟨hbel, hz, r0, r1⟩ := hFB.parts
    rw [Ha.out]
    go_wp2_with fail
    refine (l5In_any _ _ _ _ v bn _ (hv.below hbel (Nat.le_refl _))).mono ?_
    rintro e w2 ⟨rfl, hb2⟩
    have hFB2 := hFB.step hb2
    clear r0 r1
    rw [Hb.out]
    go_wp2
    clear hab
    go_loopw [9, 10] (fun t i wr => ∃ k : Nat, k ≤ n ∧ i = .int .i64 k ∧ t = .int .i64 (betw v an bn k : Nat) ∧ FB w wr N (some ⟨bb, off, none⟩) n c) (fun _ i _ => n - (intOf i).toNat)
    case atStart => exact ⟨0, Nat.zero_le _, rfl, rfl, hFB2⟩
    case round =>
      obtain ⟨k, hk, rfl, rfl, hFBr⟩ := hrel
      obtain ⟨hbelr, hzr, r0, r1⟩ := hFBr.parts
      have hbk := betw_lt (v := v) (b := bn) han k hk
      have c2 : wr.cell? ⟨bb, off + betw v an bn k, none⟩ = some (.int .i64 (gv v (betw v an bn k))) := (hbelr.cell (p := ⟨bb, off + betw v an bn k, none⟩) hbb).trans (HC.out _ hbk)
      by_cases hlt : k < n
      · have c1 : wr.cell? ⟨bb, off + k, none⟩ = some (.int .i64 (gv v k)) := (hbelr.cell (p := ⟨bb, off + k, none⟩) hbb).trans (HC.out _ hlt)
        have hk10 : k < 1024 := by omega
        have hs := hide (show betw v an bn (k + 1) = if fitB an bn k && decide (gv v k < gv v (betw v an bn k)) then k else betw v an bn k from rfl)
        have i1 : (0 : Int) ≤ (k : Int) := by omega
        have i2 : (k : Int) < (n : Int) := by omega
        have i3 : (0 : Int) ≤ (betw v an bn k : Int) := by omega
        have i4 : (betw v an bn k : Int) < (n : Int) := by omega
        have HB := hide hbelr; clear hbelr
        by_cases h1 : andN k an = an
        · have e1 : (((andN k an : Nat) : Int) == (an : Int)) = true := by simp [h1]
          have H1 := hide h1; clear h1
          by_cases h2 : andN k bn = 0
          · have e2 : (((andN k bn : Nat) : Int) == 0) = true := by simp [h2]
            have H2 := hide h2; clear h2
            by_cases h3 : gv v k < gv v (betw v an bn k)
            · have e3 : decide (gv v k < gv v (betw v an bn k)) = true := by simp [h3]
              go_wp2
              go_quiet (fail)
              go_wp2
              go_roundw
              case rel => exact ⟨k + 1, by omega, by go_num, by rw [hs.out]; simp [fitB, H1.out, H2.out, h3], hFBr.drewN _⟩
              case measure => simp [intOf]; omega
            · have e3 : decide (gv v k < gv v (betw v an bn k)) = false := by simp; omega
              go_wp2
              go_quiet (fail)
              go_wp2
              go_roundw
              case rel => exact ⟨k + 1, by omega, by go_num, by rw [hs.out, if_neg (by simp only [Bool.and_eq_true, decide_eq_true_eq]; exact fun h => absurd h.2 (by omega))], hFBr.drewN _⟩
              case measure => simp [intOf]; omega
          · have e2 : (((andN k bn : Nat) : Int) == 0) = false := by simp [h2]
            go_wp2
            go_quiet (fail)
            go_wp2
            go_roundw
            case rel => exact ⟨k + 1, by omega, by go_num, by rw [hs.out]; simp [fitB, h2], hFBr.drewN _⟩
            case measure => simp [intOf]; omega
        · have e1 : (((andN k an : Nat) : Int) == (an : Int)) = false := by simp; omega
          go_wp2
          go_quiet (fail)
          go_wp2
          go_roundw
          case rel => exact ⟨k + 1, by omega, by go_num, by rw [hs.out]; simp [fitB, h1], hFBr.drewN _⟩
          case measure => simp [intOf]; omega
      · obtain rfl : k = n := by omega
        go_wp2
        go_ret3
        exact ⟨by simp [betwV, betwS, HOK.out, hlen.out], hbelr⟩
  · have e0 : betwOk N v an bn = false := by rw [eOk]; simp [hab]
    clear eOk
    go_enter Try.func89, Try.ntmps89
    go_wp2_with fail
    refine (l5In_any _ _ _ _ v an _ (hv.alloc _)).mono ?_
    rintro e w1 ⟨rfl, hb1⟩
    have hFB := (FB.start w N A n c).step hb1
    obtain ⟨hbel, hz, r0, r1⟩ := hFB.parts
    rw [Ha.out]
    go_wp2_with fail
    refine (l5In_any _ _ _ _ v bn _ (hv.below hbel (Nat.le_refl _))).mono ?_
    rintro e w2 ⟨rfl, hb2⟩
    rw [Hb.out]
    go_wp2
    go_ret3
    exact ⟨by simp [betwV, betwS, e0], (hFB.step hb2).1⟩
end Go.Proofs.Ytokeejachclpeaa
