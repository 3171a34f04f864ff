/-
  What every law's row step needs: how an argument that came in (a slice of ints, a function of sets) is opened for the walk.
-/
import Derived.Test.YtokeejachclpeaaRows
import Derived.Test.YtokeejachclpeaaCore
import Derived.ProofKit
import Derived.OpenShut
import Derived.ShutString
import Derived.ChangeOld
import Derived.Lib.SmallJoins
namespace Go.Proofs.Ytokeejachclpeaa
open Go.ChangeShapes Go.WideShapes Go.ChangeAt Go.RowKit Go.Joins

theorem own_knob : ownKnob Try.prog.godebug = none := by kernel_rfl
theorem laid_out : laidOutB Try.prog = true := by kernel_rfl
theorem cells_int : Try.prog.cellsOf 3 = 1 := by kernel_rfl

section
variable {H : Type} {enc : TypeId × Value → H} {W : World} {sp : Nat → Bool} {held : Bool} {fuel : Nat}
theorem ints_of_trod {a : Option Addr} {len cap : Nat} {x : DataW H × List MemPlace}
    (hf : DataW.trod enc Try.prog W 0 sp held fuel 24 [.slice a len cap] = some x) : ∃ xs, Ints W a len xs := by
  rcases open_ints Try.underlying24 Try.underlying3 cells_int hf with ⟨hcs, _⟩ | ⟨⟨b, off, spot⟩, l, c, zs, hcs, _, hl, hm, hz, _, hcell, _⟩
  · simp at hcs
    obtain ⟨rfl, rfl, rfl⟩ := hcs
    exact ⟨[], Ints.nil_ _ _⟩
  · simp at hcs
    obtain ⟨rfl, rfl, rfl⟩ := hcs
    have hzl : len ≤ zs.length := by split at hz <;> omega
    refine ⟨zs.take len, by simp; omega, by simp only [maxLen] at hm; omega, fun hn => ⟨b, off, ?_, fun j hj => ?_⟩⟩
    · have hs : spot = none := by simpa [Addr.add] using World.cell?_spot (hcell 0 (by omega))
      rw [hs]
    · have hs : spot = none := by simpa [Addr.add] using World.cell?_spot (hcell 0 (by omega))
      subst hs
      have h1 := hcell j (by omega)
      rw [add_plain] at h1
      rw [h1]
      simp [gv, List.getD, hj]
set_option maxRecDepth 100000 in
theorem open_list {base : Nat} {v : Value} {d : DataW H} {p : List MemPlace} (hv : Value.okWide Try.prog W .any base 24 v) (h : DataW.Trod enc Try.prog W 0 sp held 24 v d p) :
    ∃ A n c xs, v = .slice A n c ∧ Ints W A n xs := by
  obtain ⟨a, l, c, rfl⟩ := okWide_slice Try.underlying24 hv
  obtain ⟨fuel, hf⟩ := h
  obtain ⟨xs, hx⟩ := ints_of_trod (by exact hf)
  exact ⟨a, l, c, xs, rfl, hx⟩
end
end Go.Proofs.Ytokeejachclpeaa
