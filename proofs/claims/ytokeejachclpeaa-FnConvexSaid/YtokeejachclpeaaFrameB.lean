/-
  How a code (a slice of bytes) that came in is opened for the walk.
-/
import Derived.Test.YtokeejachclpeaaFrame
import Derived.Test.YtokeejachclpeaaDrawA
namespace Go.Proofs.Ytokeejachclpeaa
open Go.ChangeShapes Go.WideShapes Go.ChangeAt Go.RowKit Go.Joins

theorem cells_byte : Try.prog.cellsOf 5 = 1 := by kernel_rfl
section
variable {H : Type} {enc : TypeId × Value → H} {W : World} {sp : Nat → Bool} {held : Bool} {fuel : Nat}
theorem byte_wf {z : Int} (h : (Lit.int .u8 z).wf = true) : ∃ x : Nat, x < 256 ∧ z = (x : Int) := by
  have h2 : 0 ≤ z ∧ z < 256 := by
    have e1 : IntKind.u8.min = 0 := by decide
    have e2 : IntKind.u8.max = 255 := by decide
    simp only [Lit.wf, e1, e2, Bool.and_eq_true, decide_eq_true_eq] at h
    omega
  exact ⟨z.toNat, by omega, by omega⟩
theorem byts_of_trod {a : Option Addr} {len cap : Nat} {x : DataW H × List MemPlace}
    (hf : DataW.trod enc Try.prog W 0 sp held fuel 22 [.slice a len cap] = some x) : Byts W a len := by
  rcases open_ints Try.underlying22 Try.underlying5 cells_byte hf with ⟨hcs, _⟩ | ⟨⟨b, off, spot⟩, l, c, zs, hcs, _, hl, hm, hz, _, hcell, hwf⟩
  · simp at hcs
    obtain ⟨rfl, rfl, rfl⟩ := hcs
    exact ⟨by omega, fun h => by omega⟩
  · simp at hcs
    obtain ⟨rfl, rfl, rfl⟩ := hcs
    have hzl : len ≤ zs.length := by split at hz <;> omega
    refine ⟨by simp only [maxLen] at hm; omega, fun hn => ⟨b, off, ?_, fun j hj => ?_⟩⟩
    · have hs : spot = none := by simpa [Addr.add] using World.cell?_spot (hcell 0 (by omega))
      rw [hs]
    · have hs : spot = none := by simpa [Addr.add] using World.cell?_spot (hcell 0 (by omega))
      subst hs
      have h1 := hcell j (by omega)
      rw [add_plain] at h1
      obtain ⟨y, hy, he⟩ := byte_wf (hwf (zs.getD j 0) (by simp [List.getD, List.getElem?_eq_getElem (show j < zs.length by omega)]))
      exact ⟨y, hy, by rw [h1, he]⟩
set_option maxRecDepth 100000 in
theorem open_bytes {base : Nat} {v : Value} {d : DataW H} {p : List MemPlace} (hv : Value.okWide Try.prog W .any base 22 v) (h : DataW.Trod enc Try.prog W 0 sp held 22 v d p) :
    ∃ A n c, v = .slice A n c ∧ Byts W A n := by
  obtain ⟨a, l, c, rfl⟩ := okWide_slice Try.underlying22 hv
  obtain ⟨fuel, hf⟩ := h
  exact ⟨a, l, c, rfl, byts_of_trod (by exact hf)⟩
end
end Go.Proofs.Ytokeejachclpeaa
