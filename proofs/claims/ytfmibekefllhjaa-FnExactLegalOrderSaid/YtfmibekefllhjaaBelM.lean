/-
  Walks: vectors below a function; bases.
  Walks: bases, tight sets.
  Walks: bases by the reference; tight sets; dual vectors.
  Walks: is a vector dual.
-/
import Derived.Test.YtfmibekefllhjaaWgtM
import Derived.Test.YtfmibekefllhjaaMinM
import Derived.Deep.RegionWith
import Derived.Test.YtfmibekefllhjaaClass
import Derived.BigQuiet
namespace Go.Proofs.Ytfmibekefllhjaa
open Go.RowKit

/-- 0 for the empty set. -/
def grdB (E : Int) (v : List Int) : Bool := isFn E v && decide (gv v 0 = 0)
/-- One number from -5000 to 5000 for each element. -/
def longOk (E : Int) (x : List Int) : Bool := decide ((x.length : Int) = E) && allIn x (-5000) 5000
/-- What the weight of a set lacks to its value. -/
def slk (v x : List Int) (s : Nat) : Int := gv v s - weigh x s
def belowB (E : Int) (v x : List Int) : Bool := grdB E v && (longOk E x && decide (∀ s, s < v.length → 0 ≤ slk v x s))
def baseB (E : Int) (v x : List Int) : Bool := belowB E v x && decide (slk v x (v.length - 1) = 0)
theorem grd_fn {E : Int} {v : List Int} (h : grdB E v = true) : isFn E v = true := by simp [grdB] at h; exact h.1
theorem long_vec {E : Int} {v x : List Int} (hf : isFn E v = true) (h : longOk E x = true) : vecOk 5000 x = true := by
  obtain ⟨N, rfl, hN, _, _⟩ := isFn_true hf
  simp [longOk] at h
  simp [vecOk, h.2]; omega
structure BelowOk (E : Int) (v x : List Int) : Prop where
  fn : isFn E v = true
  g0 : gv v 0 = 0
  len : (x.length : Int) = E
  vec : vecOk 5000 x = true
  all : ∀ s, s < v.length → 0 ≤ slk v x s
theorem below_ok {E : Int} {v x : List Int} (h : belowB E v x = true) : BelowOk E v x := by
  simp [belowB, grdB] at h
  obtain ⟨⟨h1, h2⟩, h3, h4⟩ := h
  refine ⟨h1, h2, ?_, long_vec h1 h3, h4⟩
  simp [longOk] at h3; exact h3.1
theorem slk_bd {N n : Nat} {v x : List Int} (fo : FnOk N n v) (hx : vecOk 5000 x = true) {s : Nat} (hs : s < n) : -26000 ≤ slk v x s ∧ slk v x s ≤ 26000 := by
  have := fo.bd hs; have := weigh_bd hx s; unfold slk; omega

theorem isGrounded_any (E : Int) (A : Option Addr) (n c : Nat) (v : List Int) (w : World) (hv : Ints w A n v) :
    Calls Try.prog 58 #[.agg #[.int .i64 E, .slice A n c]] w fun e w' => e = .returned (.bool (grdB E v)) ∧ Below w.heap.size w w' := by
  unfold grdB
  cases hf : isFn E v
  · go_enter Try.func58, Try.ntmps58
    go_wp2_with fail
    refine (isFunction_any _ _ _ _ v _ (hv.alloc _)).mono ?_
    rintro e w1 ⟨rfl, hb1⟩
    go_wp2
    go_ret
    exact ⟨rfl, ((Below.refl _ _).alloc (Nat.le_refl _) _).trans (hb1.mono (by simp))⟩
  · have Hf := hide hf
    obtain ⟨N, rfl, fo⟩ := FnOk.of hf hv
    obtain ⟨b, off, rfl, hb, hc⟩ := hv.all_ fo.n0
    have n0 := fo.n0
    go_enter Try.func58, Try.ntmps58
    go_wp2_with fail
    refine (isFunction_any _ _ _ _ v _ (hv.alloc _)).mono ?_
    rintro e w1 ⟨rfl, hb1⟩
    obtain ⟨hbel, hz, r0, r1⟩ := ((FB.start w N (some ⟨b, off, none⟩) n c).step hb1).parts
    have c0 : w1.cell? ⟨b, off, none⟩ = some (.int .i64 (gv v 0)) := (hbel.cell (p := ⟨b, off, none⟩) hb).trans (hc 0 n0)
    rw [Hf.out]
    go_wp2
    go_ret
    exact ⟨ret_bool (by rw [Bool.eq_iff_iff]; simp), hbel⟩
theorem specIsGrounded_any (E : Int) (A : Option Addr) (n c : Nat) (v : List Int) (w : World) (hv : Ints w A n v) :
    Calls Try.prog 55 #[.agg #[.int .i64 E, .slice A n c]] w fun e w' => e = .returned (.bool (grdB E v)) ∧ Below w.heap.size w w' := by
  unfold grdB
  cases hf : isFn E v
  · go_enter Try.func55, Try.ntmps55
    go_wp2_with fail
    refine (specIsFunction_any _ _ _ _ v _ (hv.alloc _)).mono ?_
    rintro e w1 ⟨rfl, hb1⟩
    go_wp2
    go_ret
    exact ⟨rfl, ((Below.refl _ _).alloc (Nat.le_refl _) _).trans (hb1.mono (by simp))⟩
  · have Hf := hide hf
    obtain ⟨N, rfl, fo⟩ := FnOk.of hf hv
    obtain ⟨b, off, rfl, hb, hc⟩ := hv.all_ fo.n0
    have n0 := fo.n0
    go_enter Try.func55, Try.ntmps55
    go_wp2_with fail
    refine (specIsFunction_any _ _ _ _ v _ (hv.alloc _)).mono ?_
    rintro e w1 ⟨rfl, hb1⟩
    obtain ⟨hbel, hz, r0, r1⟩ := ((FB.start w N (some ⟨b, off, none⟩) n c).step hb1).parts
    have c0 : w1.cell? ⟨b, off, none⟩ = some (.int .i64 (gv v 0)) := (hbel.cell (p := ⟨b, off, none⟩) hb).trans (hc 0 n0)
    rw [Hf.out]
    go_wp2
    go_ret
    exact ⟨ret_bool (by rw [Bool.eq_iff_iff]; simp), hbel⟩
end Go.Proofs.Ytfmibekefllhjaa
namespace Go.Proofs.Ytfmibekefllhjaa
open Go.RowKit

theorem p2_full {N n : Nat} (hn : n = 2 ^ N) : ((p2 N : Nat) : Int) - 1 = ((n - 1 : Nat) : Int) := by
  have := Nat.two_pow_pos N; unfold p2; omega

theorem allOfFn_any (E : Int) (A : Option Addr) (n c : Nat) (v : List Int) (w : World) (hl : v.length = n) (hf : isFn E v = true) : Calls Try.prog 48 #[.agg #[.int .i64 E, .slice A n c]] w fun e w' => e = .returned (.int .i64 ((n - 1 : Nat) : Int)) ∧ Below w.heap.size w w' := by
  obtain ⟨N, rfl, hN, hn, _⟩ := isFn_true hf
  rw [← p2_full (N := N) (n := n) (by omega)]
  exact allOf_any N A n c w (by omega)
end Go.Proofs.Ytfmibekefllhjaa
namespace Go.Proofs.Ytfmibekefllhjaa
open Go.RowKit

def tightL (E : Int) (v x : List Int) : List Int := if belowB E v x then selI (fun s => decide (slk v x s = 0)) v.length else []
end Go.Proofs.Ytfmibekefllhjaa
namespace Go.Proofs.Ytfmibekefllhjaa
open Go.RowKit

/-- The sum of the first k numbers. -/
def sumT (x : List Int) : Nat → Int
  | 0 => 0
  | k + 1 => sumT x k + gv x k
theorem sumT_bd {x : List Int} (h : ∀ j, j < x.length → -5000 ≤ gv x j ∧ gv x j ≤ 5000) : ∀ k, k ≤ x.length → -5000 * (k : Int) ≤ sumT x k ∧ sumT x k ≤ 5000 * (k : Int)
  | 0, _ => by simp [sumT]
  | k + 1, hk => by
    have ih := sumT_bd h k (by omega)
    have := h k (by omega)
    simp only [sumT]; omega
theorem wtN_full (x : List Int) (N : Nat) : ∀ k, k ≤ N → wtN x (2 ^ N - 1) k = sumT x k
  | 0, _ => rfl
  | k + 1, hk => by
    have ih := wtN_full x N k (by omega)
    have hh : hasB (2 ^ N - 1) k = true := by unfold hasB; rw [Nat.testBit_two_pow_sub_one]; simp; omega
    simp only [wtN, hh, ih, sumT, if_true]
def dualB (E : Int) (v x : List Int) : Bool := belowB E v x && (allIn x (-5000) 0 && decide (weigh x (v.length - 1) = minV v))
theorem allIn_nil (l h : Int) : allIn [] l h = true := rfl

end Go.Proofs.Ytfmibekefllhjaa
