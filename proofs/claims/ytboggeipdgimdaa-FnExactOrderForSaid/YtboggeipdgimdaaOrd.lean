/-
  Walks: the order of a vector, by the program.
-/
import Derived.Test.YtboggeipdgimdaaOrdS
namespace Go.Proofs.Ytboggeipdgimdaa
open Go.RowKit

set_option maxHeartbeats 1000000 in
theorem implOrderFor_any (A : Option Addr) (n c : Nat) (x : List Int) (w : World) (hx : Ints w A n x) :
    Calls Try.prog 32 #[.slice A n c] w fun e w' => ∃ B r cr, e = .returned (.tuple #[.slice B r cr, .bool (vecOk 1000 x)]) ∧ Own w' w.heap.size B r cr (ordF x) ∧ r ≤ 1048576 ∧ Below w.heap.size w w' := by
  have HV := hide (isVector_any A n c x w hx)
  have hxl := hx.len
  have hle := hx.le
  cases hok : vecOk 1000 x
  · have e0 : ordF x = [] := by simp [ordF, hok]
    rw [e0]; clear e0
    rw [hok] at HV
    go_enter Try.func32, Try.ntmps32
    go_wp2_with fail
    refine HV.out.mono ?_
    rintro e w1 ⟨rfl, rfl⟩
    go_wp2
    go_ret2
    exact ⟨none, 0, 0, rfl, own_nil _ _, by omega, Below.refl _ _⟩
  · have e0 : ordF x = ordD x n := by simp [ordF, hok, hxl]
    rw [e0]; clear e0
    rw [hok] at HV
    have HD := hide (descending_any A n c x w hx hok)
    have hn5 : n ≤ 5 := by rw [← hxl]; exact (vecOk_true hok).1
    clear hok hxl
    go_enter Try.func32, Try.ntmps32
    go_wp2_with fail
    refine HV.out.mono ?_
    rintro e w1 ⟨rfl, rfl⟩
    go_wp2_with fail
    refine HD.out.mono ?_
    rintro e w2 ⟨B, cr, rfl, hown, hb2⟩
    go_wp2
    go_ret2
    exact ⟨B, n, cr, rfl, hown, by omega, hb2⟩
end Go.Proofs.Ytboggeipdgimdaa
