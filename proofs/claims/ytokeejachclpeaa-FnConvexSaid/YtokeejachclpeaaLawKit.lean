/-
  Walks: the small functions of package laws: copies, comparisons, sizes, marks.
-/
import Derived.Test.YtokeejachclpeaaProg
import Derived.Test.YtokeejachclpeaaCore
namespace Go.Proofs.Ytokeejachclpeaa
open Go.RowKit

theorem take_set_gv {zs xs : List Int} {k : Nat} (hk : k < zs.length) (hx : k < xs.length) (h : zs.take k = xs.take k) : (zs.set k (gv xs k)).take (k + 1) = xs.take (k + 1) := by
  have h2 : k < (zs.set k (gv xs k)).length := by simpa using hk
  rw [take_gv hx, ← h, take_gv h2, gv_get h2, List.take_set, List.set_eq_of_length_le (by simp; omega)]
  simp



/-- The numbers k0, k0 + 1, .. -/
def marks (k0 : Int) (n : Nat) : List Int := (List.range n).map fun i : Nat => k0 + (i : Int)
theorem marks_len (k0 : Int) (n : Nat) : (marks k0 n).length = n := by simp [marks]
theorem marks_gv {k0 : Int} {n k : Nat} (h : k < n) : gv (marks k0 n) k = k0 + (k : Int) := by
  rw [gv_get (by rw [marks_len]; exact h)]; simp [marks]
theorem marks_snoc (k0 : Int) (k : Nat) : marks k0 (k + 1) = marks k0 k ++ [k0 + (k : Int)] := by simp [marks, List.range_succ]
theorem take_set_marks {zs : List Int} {k : Nat} {k0 : Int} (hk : k < zs.length) (h : zs.take k = marks k0 k) : (zs.set k (k0 + (k : Int))).take (k + 1) = marks k0 (k + 1) := by
  have h2 : k < (zs.set k (k0 + (k : Int))).length := by simpa using hk
  rw [take_gv h2, gv_get h2, List.take_set, List.set_eq_of_length_le (by simp; omega), h, marks_snoc]
  simp

theorem grown_set {w wr : World} {g k : Nat} (h : w.grownBy wr (some g)) (u : Value) : w.grownBy (wr.setCell ⟨g, k, none⟩ u) (some g) :=
  ⟨h.os, h.tape, h.output, by simpa [World.setCell] using h.size, fun i hi hne => (Below.heap_setCell wr ⟨g, k, none⟩ u i (by
    rintro rfl
    exact hne rfl)).trans (h.block i hi hne)⟩

theorem grown_trans {a b c : World} {row : Option Nat} (h : a.grownBy b row) (k : b.grownBy c row) : a.grownBy c row :=
  ⟨k.os.trans h.os, k.tape.trans h.tape, k.output.trans h.output, Nat.le_trans h.size k.size, fun i hi hne => (k.block i (Nat.lt_of_lt_of_le hi h.size) hne).trans (h.block i hi hne)⟩

theorem Own.grown {w w' : World} {B n c : Nat} {A : Option Addr} {xs : List Int} {row : Option Nat} (h : Own w B A n c xs) (hg : w.grownBy w' row) (hne : ∀ g, A = some ⟨g, 0, none⟩ → some g = row → False) : Own w' B A n c xs :=
  h.keep fun g hlt ha => hg.block g hlt (hne g ha)
/-- Between which bounds the row's block lies. -/
theorem Own.range {w : World} {B n c : Nat} {A : Option Addr} {xs : List Int} (h : Own w B A n c xs) : ∀ g, A = some ⟨g, 0, none⟩ → B ≤ g ∧ g < w.heap.size := by
  intro g hA
  rcases h.where_ with h0 | ⟨g', h1, h2, h3⟩
  · rw [h0] at hA; cases hA
  · rw [h1] at hA
    simp at hA
    subst hA
    exact ⟨h2, h3⟩
theorem row_of {w : World} {B n c k : Nat} {A : Option Addr} {xs : List Int} (h : Own w B A n c xs) (hk : A.map (·.block) = some k) : ∃ g, A = some ⟨g, 0, none⟩ ∧ g = k := by
  rcases h.where_ with h0 | ⟨g', h1, h2, h3⟩
  · rw [h0] at hk; cases hk
  · rw [h1] at hk ⊢
    simp at hk
    exact ⟨g', rfl, hk⟩

end Go.Proofs.Ytokeejachclpeaa
