/-
  Walks: bases, tight sets.
-/
import Derived.Test.YtboggeipdgimdaaBelow
import Derived.Test.YtboggeipdgimdaaMinz
import Derived.Deep.RegionWith
namespace Go.Proofs.Ytboggeipdgimdaa
open Go.RowKit

theorem p2_full {N n : Nat} (hn : n = 2 ^ N) : ((p2 N : Nat) : Int) - 1 = ((n - 1 : Nat) : Int) := by
  have := Nat.two_pow_pos N; unfold p2; omega

theorem allOfFn_any (E : Int) (A : Option Addr) (n c : Nat) (v : List Int) (w : World) (hl : v.length = n) (hf : isFn E v = true) : Calls Try.prog 59 #[.agg #[.int .i64 E, .slice A n c]] w fun e w' => e = .returned (.int .i64 ((n - 1 : Nat) : Int)) ∧ Below w.heap.size w w' := by
  obtain ⟨N, rfl, hN, hn, _⟩ := isFn_true hf
  rw [← p2_full (N := N) (n := n) (by omega)]
  exact allOf_any N A n c w (by omega)
end Go.Proofs.Ytboggeipdgimdaa
