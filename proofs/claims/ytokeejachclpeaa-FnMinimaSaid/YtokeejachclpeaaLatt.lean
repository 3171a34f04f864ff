/-
  Walks: is a list of sets a lattice? The least of two vectors.
-/
import Derived.Test.YtokeejachclpeaaCore
namespace Go.Proofs.Ytokeejachclpeaa
open Go.RowKit

/-- Does the list hold the number? -/
def hasI (l : List Int) (x : Int) : Bool := decide (x ∈ l)
theorem hasI_gv {l : List Int} {k : Nat} (hk : k < l.length) {x : Int} (h : (x == gv l k) = true) : hasI l x = true := by
  have := gv_mem hk
  simp [hasI]; simp at h; rw [h]; exact this
theorem hasI_none {l : List Int} {x : Int} (h : ∀ j, j < l.length → gv l j ≠ x) : hasI l x = false := by
  simp only [hasI, decide_eq_false_iff_not]
  intro hm
  obtain ⟨i, hi, e⟩ := List.getElem_of_mem hm
  exact h i hi (by rw [gv_get hi]; exact e)
def orI (a b : Int) : Int := bits .or .i64 a b
def andI (a b : Int) : Int := bits .and .i64 a b
/-- The two sets of the list have their union and what they have in common in it. -/
def lpair (l : List Int) (i k : Nat) : Bool := hasI l (orI (gv l i) (gv l k)) && hasI l (andI (gv l i) (gv l k))
def lattB (l : List Int) : Bool := decide (l.length ≤ 64) && (allIn l 0 1023 && decide (∀ i, i < l.length → ∀ k, k < l.length → lpair l i k = true))
theorem lpair_comm (l : List Int) (i k : Nat) : lpair l i k = lpair l k i := by
  unfold lpair orI andI
  have h1 : bits .or .i64 (gv l i) (gv l k) = bits .or .i64 (gv l k) (gv l i) := by
    show IntKind.i64.wrap ((BitVec.ofInt 64 (gv l i) ||| BitVec.ofInt 64 (gv l k)).toNat : Int) = IntKind.i64.wrap ((BitVec.ofInt 64 (gv l k) ||| BitVec.ofInt 64 (gv l i)).toNat : Int)
    rw [BitVec.or_comm]
  have h2 : bits .and .i64 (gv l i) (gv l k) = bits .and .i64 (gv l k) (gv l i) := by
    show IntKind.i64.wrap ((BitVec.ofInt 64 (gv l i) &&& BitVec.ofInt 64 (gv l k)).toNat : Int) = IntKind.i64.wrap ((BitVec.ofInt 64 (gv l k) &&& BitVec.ofInt 64 (gv l i)).toNat : Int)
    rw [BitVec.and_comm]
  rw [h1, h2]
theorem lpair_self {l : List Int} {i : Nat} (hi : i < l.length) (ha : allIn l 0 1023 = true) : lpair l i i = true := by
  obtain ⟨h0, h1⟩ := allIn_gv hi ha
  obtain ⟨a, ha'⟩ := Int.eq_ofNat_of_zero_le h0
  have hm := gv_mem hi
  unfold lpair orI andI hasI
  rw [ha'] at hm ⊢
  rw [i64_or_nat a a (by omega) (by omega), i64_and_nat a a (by omega) (by omega), Nat.or_self, Nat.and_self]
  simp [hm]

theorem slicesIndex_any (A : Option Addr) (n c : Nat) (l : List Int) (x : Int) (w : World) (hl : Ints w A n l) :
    Calls Try.prog 211 #[.slice A n c, .int .i64 x] w fun e w' => ∃ r : Int, e = .returned (.int .i64 r) ∧ decide (0 ≤ r) = hasI l x ∧ w = w' := by
  have hle := hl.le
  have hlen := hide hl.len
  go_enter Try.func211, Try.ntmps211
  go_wp2
  go_loop [8] (fun i => ∃ k : Nat, k ≤ n ∧ i = .int .i64 k ∧ ∀ j, j < k → gv l j ≠ x) (fun i => n - (intOf i).toNat)
  case atStart => exact ⟨0, Nat.zero_le _, rfl, fun _ h => absurd h (by omega)⟩
  case round =>
    obtain ⟨k, hk, rfl, hno⟩ := hrel
    have HNO := hide hno; clear hno
    by_cases hlt : k < n
    · obtain ⟨b, off, rfl, hb, hc⟩ := hl.at_ hlt
      cases hq : (x == gv l k)
      · have HQ := hide (show gv l k ≠ x by simp at hq; exact fun e => hq e.symm)
        go_wp2
        go_round
        case rel => exact ⟨k + 1, by omega, by go_num, fun j hj => by
          by_cases e : j = k
          · subst e; exact HQ.out
          · exact HNO.out j (by omega)⟩
        case measure => simp [intOf]; omega
      · have HQ := hide (hasI_gv (l := l) (k := k) (by rw [hlen.out]; exact hlt) hq)
        go_wp2
        go_ret
        exact ⟨k, rfl, by rw [HQ.out]; simp, rfl⟩
    · obtain rfl : k = n := by omega
      go_wp2
      go_ret
      exact ⟨-1, rfl, by rw [hasI_none (fun j hj => HNO.out j (by rw [← hlen.out]; exact hj))]; rfl, rfl⟩
theorem slicesContains_any (A : Option Addr) (n c : Nat) (l : List Int) (x : Int) (w : World) (hl : Ints w A n l) :
    Calls Try.prog 153 #[.slice A n c, .int .i64 x] w fun e w' => e = .returned (.bool (hasI l x)) ∧ w = w' := by
  go_enter Try.func153, Try.ntmps153
  go_wp2_with fail
  refine (slicesIndex_any _ _ _ l x _ hl).mono ?_
  rintro e w' ⟨r, rfl, hr, rfl⟩
  go_wp2
  go_ret
  exact ⟨rfl, rfl⟩
theorem l10Has_any (A : Option Addr) (n c : Nat) (l : List Int) (x : Int) (w : World) (hl : Ints w A n l) :
    Calls Try.prog 195 #[.slice A n c, .int .i64 x] w fun e w' => e = .returned (.bool (hasI l x)) ∧ w = w' := by
  have hle := hl.le
  have hlen := hide hl.len
  go_enter Try.func195, Try.ntmps195
  go_wp2
  go_loop [5] (fun i => ∃ k : Nat, k ≤ n ∧ i = .int .i64 k ∧ ∀ j, j < k → gv l j ≠ x) (fun i => n - (intOf i).toNat)
  case atStart => exact ⟨0, Nat.zero_le _, rfl, fun _ h => absurd h (by omega)⟩
  case round =>
    obtain ⟨k, hk, rfl, hno⟩ := hrel
    have HNO := hide hno; clear hno
    by_cases hlt : k < n
    · obtain ⟨b, off, rfl, hb, hc⟩ := hl.at_ hlt
      cases hq : (gv l k == x)
      · have HQ := hide (show gv l k ≠ x by simpa using hq)
        go_wp2
        go_round
        case rel => exact ⟨k + 1, by omega, by go_num, fun j hj => by
          by_cases e : j = k
          · subst e; exact HQ.out
          · exact HNO.out j (by omega)⟩
        case measure => simp [intOf]; omega
      · have HQ := hide (hasI_gv (l := l) (k := k) (by rw [hlen.out]; exact hlt) (show (x == gv l k) = true by simp at hq; simp [hq]))
        go_wp2
        go_ret
        exact ⟨ret_bool HQ.out.symm, rfl⟩
    · obtain rfl : k = n := by omega
      go_wp2
      go_ret
      exact ⟨ret_bool (hasI_none (fun j hj => HNO.out j (by rw [← hlen.out]; exact hj))).symm, rfl⟩
theorem isLattice_any (A : Option Addr) (n c : Nat) (l : List Int) (w : World) (hl : Ints w A n l) :
    Calls Try.prog 31 #[.slice A n c] w fun e w' => e = .returned (.bool (lattB l)) ∧ w = w' := by
  have hle := hl.le
  have hlen := hide hl.len
  by_cases h64 : n ≤ 64
  · cases ha : allIn l 0 1023
    · have e0 : lattB l = false := by simp [lattB, ha]
      rw [e0]; clear e0
      go_enter Try.func31, Try.ntmps31
      go_wp2_with (go_at_call 151; refine (areWithin_any _ _ _ l _ _ _ hl).mono ?_; rintro e w' ⟨rfl, rfl⟩)
      go_ret
      exact ⟨rfl, rfl⟩
    · have e0 : lattB l = decide (∀ i, i < n → ∀ k, k < n → lpair l i k = true) := by simp [lattB, ha, hlen.out, h64]
      rw [e0]; clear e0
      go_enter Try.func31, Try.ntmps31
      go_wp2_with (go_at_call 151; refine (areWithin_any _ _ _ l _ _ _ hl).mono ?_; rintro e w' ⟨rfl, rfl⟩)
      clear ha
      go_loop [17] (fun i => ∃ k : Nat, k ≤ n ∧ i = .int .i64 k ∧ ∀ j, j < k → ∀ k, k < n → lpair l j k = true) (fun i => n - (intOf i).toNat)
      case atStart => exact ⟨0, Nat.zero_le _, rfl, fun _ h => absurd h (by omega)⟩
      case round =>
        obtain ⟨i, hi, rfl, hall⟩ := hrel
        have HALL := hide hall; clear hall
        by_cases hlt : i < n
        · obtain ⟨b, off, rfl, hb, hc⟩ := hl.at_ hlt
          go_wp2
          go_loop [23] (fun t => ∃ k : Nat, k ≤ n ∧ t = .int .i64 k ∧ ∀ j, j < k → lpair l i j = true) (fun t => n - (intOf t).toNat)
          case atStart => exact ⟨0, Nat.zero_le _, rfl, fun _ h => absurd h (by omega)⟩
          case round =>
            obtain ⟨k, hk, rfl, hin⟩ := hrel
            have HIN := hide hin; clear hin
            by_cases hlt2 : k < n
            · obtain ⟨b', off', e, hb', hc'⟩ := hl.at_ hlt2
              injection e with e; injection e with e1 e2 _; subst e1; subst e2
              cases h1 : hasI l (bits .or .i64 (gv l i) (gv l k))
              · have hf := hide (show lpair l i k = false by simp only [lpair, orI, h1]; rfl)
                go_wp2_with (go_at_call 153; refine (slicesContains_any _ _ _ l _ _ hl).mono ?_; rintro e w' ⟨rfl, rfl⟩)
                go_ret
                exact ⟨ret_bool (by symm; rw [decide_eq_false_iff_not]; intro h; have := h i hlt k hlt2; rw [hf.out] at this; cases this), rfl⟩
              · cases h2 : hasI l (bits .and .i64 (gv l i) (gv l k))
                · have hf := hide (show lpair l i k = false by simp only [lpair, andI, h2]; simp)
                  go_wp2_with (go_at_call 153; refine (slicesContains_any _ _ _ l _ _ hl).mono ?_; rintro e w' ⟨rfl, rfl⟩)
                  go_ret
                  exact ⟨ret_bool (by symm; rw [decide_eq_false_iff_not]; intro h; have := h i hlt k hlt2; rw [hf.out] at this; cases this), rfl⟩
                · have hf := hide (show lpair l i k = true by simp only [lpair, orI, andI, h1, h2]; rfl)
                  go_wp2_with (go_at_call 153; refine (slicesContains_any _ _ _ l _ _ hl).mono ?_; rintro e w' ⟨rfl, rfl⟩)
                  go_round
                  case rel => exact ⟨k + 1, by omega, by go_num, fun j hj => by
                    by_cases e : j = k
                    · subst e; exact hf.out
                    · exact HIN.out j (by omega)⟩
                  case measure => simp [intOf]; omega
            · obtain rfl : k = n := by omega
              go_wp2
              go_round
              case rel => exact ⟨i + 1, by omega, by go_num, fun j hj => by
                by_cases e : j = i
                · subst e; exact HIN.out
                · exact HALL.out j (by omega)⟩
              case measure => simp [intOf]; omega
        · obtain rfl : i = n := by omega
          go_wp2
          go_ret
          exact ⟨ret_bool (by symm; rw [decide_eq_true_eq]; exact HALL.out), rfl⟩
  · have e0 : lattB l = false := by simp [lattB, hlen.out, h64]
    rw [e0]; clear e0
    go_enter Try.func31, Try.ntmps31
    go_wp2
    go_ret
    exact ⟨rfl, rfl⟩
theorem isLattice_top (A : Option Addr) (n c : Nat) (l : List Int) (w : World) (hl : Ints w A n l) :
    Calls Try.prog 31 #[.slice A n c] w fun e w' => e = .returned (.bool (lattB l)) ∧ Below w.heap.size w w' :=
  (isLattice_any A n c l w hl).mono fun _ _ ⟨h1, h2⟩ => ⟨h1, h2 ▸ Below.refl _ _⟩
theorem specIsLattice_any (A : Option Addr) (n c : Nat) (l : List Int) (w : World) (hl : Ints w A n l) :
    Calls Try.prog 96 #[.slice A n c] w fun e w' => e = .returned (.bool (lattB l)) ∧ Below w.heap.size w w' := by
  have hle := hl.le
  have hlen := hide hl.len
  by_cases h64 : n ≤ 64
  · have e0 : lattB l = (allIn l 0 1023 && decide (∀ i, i < n → ∀ k, k < n → lpair l i k = true)) := by simp [lattB, hlen.out, h64]
    rw [e0]; clear e0
    go_enter Try.func96, Try.ntmps96
    go_wp2
    go_loopw [3] (fun i wr => ∃ k : Nat, k ≤ n ∧ i = .int .i64 k ∧ allIn (l.take k) 0 1023 = true ∧ (∀ j, j < k → ∀ i, i < j → lpair l j i = true) ∧ Below w.heap.size w wr) (fun i _ => n - (intOf i).toNat)
    case atStart => exact ⟨0, Nat.zero_le _, rfl, rfl, fun _ h => absurd h (by omega), Below.refl _ _⟩
    case round =>
      obtain ⟨i, hi, rfl, ha, hall, hbel⟩ := hrel
      have HA := hide ha; clear ha
      have HALL := hide hall; clear hall
      obtain ⟨wo, rfl⟩ : ∃ wo : World, wo = wr := ⟨_, rfl⟩
      by_cases hlt : i < n
      · obtain ⟨b, off, rfl, hb, hc⟩ := hl.at_ hlt
        have hcw : wo.cell? ⟨b, off + i, none⟩ = some (.int .i64 (gv l i)) := (hbel.cell (p := ⟨b, off + i, none⟩) hb).trans hc
        cases hr : inR (gv l i) 0 1023
        · have hf := hide (allIn_false (v := l) (k := i) (by rw [hlen.out]; exact hlt) hr)
          go_wp2_with (go_at_call 138; refine (l1In_any _ _ _ _).mono ?_; rintro e w' ⟨rfl, rfl⟩)
          go_ret
          exact ⟨ret_bool (by rw [hf.out]; rfl), hbel⟩
        · have hsn := hide (show allIn (l.take (i + 1)) 0 1023 = true by rw [allIn_snoc (by rw [hlen.out]; exact hlt), HA.out, hr]; rfl)
          go_wp2_with (go_at_call 138; refine (l1In_any _ _ _ _).mono ?_; rintro e w' ⟨rfl, rfl⟩)
          clear hr
          go_loopw [4] (fun t wr => ∃ k : Nat, k ≤ i ∧ t = .int .i64 k ∧ (∀ j, j < k → lpair l i j = true) ∧ Below w.heap.size w wr) (fun t _ => i - (intOf t).toNat)
          case atStart => exact ⟨0, Nat.zero_le _, rfl, fun _ h => absurd h (by omega), hbel⟩
          case round =>
            obtain ⟨k, hk, rfl, hin, hbel2⟩ := hrel
            have HIN := hide hin; clear hin
            by_cases hlt2 : k < i
            · have hkn : k < n := by omega
              obtain ⟨b', off', e, hb', hc'⟩ := hl.at_ hkn
              injection e with e; injection e with e1 e2 _; subst e1; subst e2
              have c1 : wr.cell? ⟨b, off + i, none⟩ = some (.int .i64 (gv l i)) := (hbel2.cell (p := ⟨b, off + i, none⟩) hb).trans hc
              have c2 : wr.cell? ⟨b, off + k, none⟩ = some (.int .i64 (gv l k)) := (hbel2.cell (p := ⟨b, off + k, none⟩) hb).trans hc'
              have hlr := hide (hl.below hbel2 (Nat.le_refl _))
              have i1 : (0 : Int) ≤ (k : Int) := by omega
              have i2 : (k : Int) < (n : Int) := by omega
              have i3 : (0 : Int) ≤ (i : Int) := by omega
              have i4 : (i : Int) < (n : Int) := by omega
              have HB2 := hide hbel2; clear hbel2
              clear hc hc' hcw
              cases h1 : hasI l (bits .and .i64 (gv l i) (gv l k))
              · have hf := hide (show lpair l i k = false by simp only [lpair, andI, h1]; simp)
                go_wp2
                go_quiet ((go_at_call 195; exact quiet_left (l10Has_any _ _ _ l _ _ hlr.out)))
                go_wp2
                go_ret
                exact ⟨ret_bool (by symm; rw [Bool.and_eq_false_iff]; right; rw [decide_eq_false_iff_not]; intro h; have := h i hlt k hkn; rw [hf.out] at this; cases this), below_drewN HB2.out _⟩
              · cases h2 : hasI l (bits .or .i64 (gv l i) (gv l k))
                · have hf := hide (show lpair l i k = false by simp only [lpair, orI, h2]; simp)
                  go_wp2
                  go_quiet ((go_at_call 195; exact quiet_left (l10Has_any _ _ _ l _ _ hlr.out)))
                  go_wp2
                  go_ret
                  exact ⟨ret_bool (by symm; rw [Bool.and_eq_false_iff]; right; rw [decide_eq_false_iff_not]; intro h; have := h i hlt k hkn; rw [hf.out] at this; cases this), below_drewN HB2.out _⟩
                · have hf := hide (show lpair l i k = true by simp only [lpair, orI, andI, h1, h2]; rfl)
                  go_wp2
                  go_quiet ((go_at_call 195; exact quiet_left (l10Has_any _ _ _ l _ _ hlr.out)))
                  go_wp2
                  go_roundw
                  case rel => exact ⟨k + 1, by omega, by go_num, fun j hj => by
                    by_cases e : j = k
                    · subst e; exact hf.out
                    · exact HIN.out j (by omega), below_drewN HB2.out _⟩
                  case measure => simp [intOf]; omega
            · obtain rfl : k = i := by omega
              go_wp2
              go_roundw
              case rel => exact ⟨k + 1, by omega, by go_num, hsn.out, fun j hj => by
                by_cases e : j = k
                · subst e; exact HIN.out
                · exact HALL.out j (by omega), hbel2⟩
              case measure => simp [intOf]; omega
      · obtain rfl : i = n := by omega
        have hal := hide (show allIn l 0 1023 = true by have := HA.out; rwa [List.take_of_length_le (by rw [hlen.out]; omega)] at this)
        go_wp2
        go_ret
        refine ⟨ret_bool ?_, hbel⟩
        symm
        rw [hal.out, Bool.true_and, decide_eq_true_eq]
        intro a ha b hb
        rcases Nat.lt_trichotomy a b with h | h | h
        · rw [lpair_comm]; exact HALL.out b hb a h
        · subst h; exact lpair_self (by rw [hlen.out]; exact ha) hal.out
        · exact HALL.out a ha b h
  · have e0 : lattB l = false := by simp [lattB, hlen.out, h64]
    rw [e0]; clear e0
    go_enter Try.func96, Try.ntmps96
    go_wp2
    go_ret
    exact ⟨rfl, Below.refl _ _⟩
end Go.Proofs.Ytokeejachclpeaa
