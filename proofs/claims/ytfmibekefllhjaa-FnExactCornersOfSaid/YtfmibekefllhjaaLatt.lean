/-
  Walks: is a list of sets a lattice? The least of two vectors.
-/
import Derived.Test.YtfmibekefllhjaaCore
namespace Go.Proofs.Ytfmibekefllhjaa
open Go.RowKit

/-- Does the list hold the number? -/
def hasI (l : List Int) (x : Int) : Bool := decide (x ∈ l)
theorem hasI_gv {l : List Int} {k : Nat} (hk : k < l.length) {x : Int} (h : (x == gv l k) = true) : hasI l x = true := by
  have := gv_mem hk
  simp [hasI]; simp at h; rw [h]; exact this
theorem hasI_none {l : List Int} {x : Int} (h : ∀ j, j < l.length → gv l j ≠ x) : hasI l x = false := by
  simp only [hasI, decide_eq_false_iff_not]
  intro hm
  obtain ⟨i, hi, e⟩ := List.getElem_of_mem hm
  exact h i hi (by rw [gv_get hi]; exact e)
def orI (a b : Int) : Int := bits .or .i64 a b
def andI (a b : Int) : Int := bits .and .i64 a b
/-- The two sets of the list have their union and what they have in common in it. -/
def lpair (l : List Int) (i k : Nat) : Bool := hasI l (orI (gv l i) (gv l k)) && hasI l (andI (gv l i) (gv l k))
def lattB (l : List Int) : Bool := decide (l.length ≤ 64) && (allIn l 0 1023 && decide (∀ i, i < l.length → ∀ k, k < l.length → lpair l i k = true))
theorem lpair_comm (l : List Int) (i k : Nat) : lpair l i k = lpair l k i := by
  unfold lpair orI andI
  have h1 : bits .or .i64 (gv l i) (gv l k) = bits .or .i64 (gv l k) (gv l i) := by
    show IntKind.i64.wrap ((BitVec.ofInt 64 (gv l i) ||| BitVec.ofInt 64 (gv l k)).toNat : Int) = IntKind.i64.wrap ((BitVec.ofInt 64 (gv l k) ||| BitVec.ofInt 64 (gv l i)).toNat : Int)
    rw [BitVec.or_comm]
  have h2 : bits .and .i64 (gv l i) (gv l k) = bits .and .i64 (gv l k) (gv l i) := by
    show IntKind.i64.wrap ((BitVec.ofInt 64 (gv l i) &&& BitVec.ofInt 64 (gv l k)).toNat : Int) = IntKind.i64.wrap ((BitVec.ofInt 64 (gv l k) &&& BitVec.ofInt 64 (gv l i)).toNat : Int)
    rw [BitVec.and_comm]
  rw [h1, h2]
theorem lpair_self {l : List Int} {i : Nat} (hi : i < l.length) (ha : allIn l 0 1023 = true) : lpair l i i = true := by
  obtain ⟨h0, h1⟩ := allIn_gv hi ha
  obtain ⟨a, ha'⟩ := Int.eq_ofNat_of_zero_le h0
  have hm := gv_mem hi
  unfold lpair orI andI hasI
  rw [ha'] at hm ⊢
  rw [i64_or_nat a a (by omega) (by omega), i64_and_nat a a (by omega) (by omega), Nat.or_self, Nat.and_self]
  simp [hm]

theorem slicesIndex_any (A : Option Addr) (n c : Nat) (l : List Int) (x : Int) (w : World) (hl : Ints w A n l) :
    Calls Try.prog 77 #[.slice A n c, .int .i64 x] w fun e w' => ∃ r : Int, e = .returned (.int .i64 r) ∧ decide (0 ≤ r) = hasI l x ∧ w = w' := by
  have hle := hl.le
  have hlen := hide hl.len
  go_enter Try.func77, Try.ntmps77
  go_wp2
  go_loop [8] (fun i => ∃ k : Nat, k ≤ n ∧ i = .int .i64 k ∧ ∀ j, j < k → gv l j ≠ x) (fun i => n - (intOf i).toNat)
  case atStart => exact ⟨0, Nat.zero_le _, rfl, fun _ h => absurd h (by omega)⟩
  case round =>
    obtain ⟨k, hk, rfl, hno⟩ := hrel
    have HNO := hide hno; clear hno
    by_cases hlt : k < n
    · obtain ⟨b, off, rfl, hb, hc⟩ := hl.at_ hlt
      cases hq : (x == gv l k)
      · have HQ := hide (show gv l k ≠ x by simp at hq; exact fun e => hq e.symm)
        go_wp2
        go_round
        case rel => exact ⟨k + 1, by omega, by go_num, fun j hj => by
          by_cases e : j = k
          · subst e; exact HQ.out
          · exact HNO.out j (by omega)⟩
        case measure => simp [intOf]; omega
      · have HQ := hide (hasI_gv (l := l) (k := k) (by rw [hlen.out]; exact hlt) hq)
        go_wp2
        go_ret
        exact ⟨k, rfl, by rw [HQ.out]; simp, rfl⟩
    · obtain rfl : k = n := by omega
      go_wp2
      go_ret
      exact ⟨-1, rfl, by rw [hasI_none (fun j hj => HNO.out j (by rw [← hlen.out]; exact hj))]; rfl, rfl⟩
theorem slicesContains_any (A : Option Addr) (n c : Nat) (l : List Int) (x : Int) (w : World) (hl : Ints w A n l) :
    Calls Try.prog 71 #[.slice A n c, .int .i64 x] w fun e w' => e = .returned (.bool (hasI l x)) ∧ w = w' := by
  go_enter Try.func71, Try.ntmps71
  go_wp2_with fail
  refine (slicesIndex_any _ _ _ l x _ hl).mono ?_
  rintro e w' ⟨r, rfl, hr, rfl⟩
  go_wp2
  go_ret
  exact ⟨rfl, rfl⟩
end Go.Proofs.Ytfmibekefllhjaa
