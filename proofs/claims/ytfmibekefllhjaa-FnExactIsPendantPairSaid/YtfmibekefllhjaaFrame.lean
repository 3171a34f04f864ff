/-
  What every law's row step needs: how an argument that came in (a slice of ints, a function of sets) is opened for the walk.
-/
import Derived.Test.YtfmibekefllhjaaRows
import Derived.Test.YtfmibekefllhjaaCore
import Derived.ProofKit
import Derived.OpenShut
import Derived.ShutString
import Derived.ChangeOld
import Derived.Lib.SmallJoins
namespace Go.Proofs.Ytfmibekefllhjaa
open Go.ChangeShapes Go.WideShapes Go.ChangeAt Go.RowKit Go.Joins

theorem own_knob : ownKnob Try.prog.godebug = none := by kernel_rfl
theorem laid_out : laidOutB Try.prog = true := by kernel_rfl
theorem cells_int : Try.prog.cellsOf 3 = 1 := by kernel_rfl
theorem cells_fun : Try.prog.cellsOf 24 = 2 := by kernel_rfl

section
variable {H : Type} {enc : TypeId × Value → H} {W : World} {sp : Nat → Bool} {held : Bool} {fuel : Nat}
theorem ints_of_trod {a : Option Addr} {len cap : Nat} {x : DataW H × List MemPlace}
    (hf : DataW.trod enc Try.prog W 0 sp held fuel 22 [.slice a len cap] = some x) : ∃ xs, Ints W a len xs := by
  rcases open_ints Try.underlying22 Try.underlying3 cells_int hf with ⟨hcs, _⟩ | ⟨⟨b, off, spot⟩, l, c, zs, hcs, _, hl, hm, hz, _, hcell, _⟩
  · simp at hcs
    obtain ⟨rfl, rfl, rfl⟩ := hcs
    exact ⟨[], Ints.nil_ _ _⟩
  · simp at hcs
    obtain ⟨rfl, rfl, rfl⟩ := hcs
    have hzl : len ≤ zs.length := by split at hz <;> omega
    refine ⟨zs.take len, by simp; omega, by simp only [maxLen] at hm; omega, fun hn => ⟨b, off, ?_, fun j hj => ?_⟩⟩
    · have hs : spot = none := by simpa [Addr.add] using World.cell?_spot (hcell 0 (by omega))
      rw [hs]
    · have hs : spot = none := by simpa [Addr.add] using World.cell?_spot (hcell 0 (by omega))
      subst hs
      have h1 := hcell j (by omega)
      rw [add_plain] at h1
      rw [h1]
      simp [gv, List.getD, hj]
set_option maxRecDepth 100000 in
theorem open_list {base : Nat} {v : Value} {d : DataW H} {p : List MemPlace} (hv : Value.okWide Try.prog W .any base 22 v) (h : DataW.Trod enc Try.prog W 0 sp held 22 v d p) :
    ∃ A n c xs, v = .slice A n c ∧ Ints W A n xs := by
  obtain ⟨a, l, c, rfl⟩ := okWide_slice Try.underlying22 hv
  obtain ⟨fuel, hf⟩ := h
  obtain ⟨xs, hx⟩ := ints_of_trod (by exact hf)
  exact ⟨a, l, c, xs, rfl, hx⟩
set_option maxRecDepth 100000 in
theorem open_fun {base : Nat} {v : Value} {d : DataW H} {p : List MemPlace} (hv : Value.okWide Try.prog W .any base 24 v) (h : DataW.Trod enc Try.prog W 0 sp held 24 v d p) :
    ∃ E A n c xs, v = .agg #[.int .i64 E, .slice A n c] ∧ Ints W A n xs := by
  obtain ⟨c0, c1, y0, y1, m, rfl, rfl, rfl, hy0, hy1⟩ := open_agg2 Try.underlying24 (by kernel_rfl) cells_fun hv h
  obtain ⟨E, e0, _, _⟩ := DataW.trod_int Try.underlying3 hy0
  obtain ⟨a, l, c, e1⟩ := slice_form Try.underlying22 hy1
  obtain ⟨xs, hx⟩ := ints_of_trod (e1 ▸ hy1)
  simp at e0 e1
  subst e0 e1
  exact ⟨E, a, l, c, xs, rfl, hx⟩
end
end Go.Proofs.Ytfmibekefllhjaa
