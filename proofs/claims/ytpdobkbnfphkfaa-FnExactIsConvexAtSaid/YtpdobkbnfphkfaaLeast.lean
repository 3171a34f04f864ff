/-
  Walks: the least of two vectors.
-/
import Derived.Test.YtpdobkbnfphkfaaVec
import Derived.Test.YtpdobkbnfphkfaaBits
namespace Go.Proofs.Ytpdobkbnfphkfaa
open Go.RowKit

def pairOk (x y : List Int) : Bool := vecOk 1000 x && (vecOk 1000 y && decide ((x.length : Int) = (y.length : Int)))
def leastL (x y : List Int) : List Int := if pairOk x y then List.zipWith mn x y else []
theorem zip_gv {x y : List Int} {k : Nat} (hx : k < x.length) (hy : k < y.length) : (List.zipWith mn x y).take (k + 1) = (List.zipWith mn x y).take k ++ [mn (gv x k) (gv y k)] := by
  have hl : k < (List.zipWith mn x y).length := by simp; omega
  rw [take_gv hl, gv_get hl, gv_get hx, gv_get hy]; simp

theorem l7Fit_any (A A' : Option Addr) (n c m c' : Nat) (x y : List Int) (w : World) (hx : Ints w A n x) (hy : Ints w A' m y) :
    Calls Try.prog 61 #[.slice A n c, .slice A' m c'] w fun e w' => e = .returned (.bool (pairOk x y)) ∧ w = w' := by
  have hnl := hide hx.len
  have hml := hide hy.len
  unfold pairOk
  cases h1 : vecOk 1000 x
  · go_enter Try.func61, Try.ntmps61
    go_wp2_with (go_at_call 73; refine (l7Vector_any _ _ _ x _ hx).mono ?_; rintro e w' ⟨rfl, rfl⟩)
    go_ret
    exact ⟨rfl, rfl⟩
  cases h2 : vecOk 1000 y
  · go_enter Try.func61, Try.ntmps61
    go_wp2_with fail
    refine (l7Vector_any _ _ _ x _ hx).mono ?_
    rintro e w' ⟨rfl, rfl⟩
    go_wp2_with fail
    refine (l7Vector_any _ _ _ y _ hy).mono ?_
    rintro e w' ⟨rfl, rfl⟩
    go_wp2
    go_ret
    exact ⟨rfl, rfl⟩
  · go_enter Try.func61, Try.ntmps61
    go_wp2_with fail
    refine (l7Vector_any _ _ _ x _ hx).mono ?_
    rintro e w' ⟨rfl, rfl⟩
    go_wp2_with fail
    refine (l7Vector_any _ _ _ y _ hy).mono ?_
    rintro e w' ⟨rfl, rfl⟩
    go_wp2
    go_ret
    exact ⟨ret_bool (by rw [hnl.out, hml.out, Bool.eq_iff_iff]; simp), rfl⟩
end Go.Proofs.Ytpdobkbnfphkfaa
