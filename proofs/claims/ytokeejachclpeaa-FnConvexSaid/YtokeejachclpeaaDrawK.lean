/-
  What a draw leaves: the cursor moved, new blocks made, all else as it was.
-/
import Derived.Test.YtokeejachclpeaaDraw3
import Derived.Test.YtokeejachclpeaaSymA
namespace Go.Proofs.Ytokeejachclpeaa
open Go.RowKit

/-- From w to wr only the cursor's block has turned; the cursor still reads. -/
structure DS (w wr : World) (bc : Nat) (A : Option Addr) (n c : Nat) : Prop where
  grew : w.grownBy wr (some bc)
  cur : Cur wr bc A n c
/-- The same, with a result's two cells in the first new block. -/
structure DR (w wr : World) (bc : Nat) (A : Option Addr) (n c : Nat) (x y : Value) : Prop where
  ds : DS w wr bc A n c
  res : Two wr w.heap.size x y
section
variable {w wr w1 : World} {bc n c : Nat} {A : Option Addr} {x y : Value}
theorem Cur.lt (h : Cur w bc A n c) : bc < w.heap.size := by
  obtain ⟨i, h, hi, hc⟩ := h
  exact (Array.getElem?_eq_some_iff.1 hc).1
theorem Cur.same (h : Cur w bc A n c) (he : w1.heap[bc]? = w.heap[bc]?) : Cur w1 bc A n c := by
  obtain ⟨i, h, hi, hc⟩ := h
  exact ⟨i, h, hi, he.trans hc⟩
theorem Cur.below (h : Cur w bc A n c) {B : Nat} (hb : Below B w w1) (hB : bc < B) : Cur w1 bc A n c := h.same (hb.block bc hB)
theorem DS.start (h : Cur w bc A n c) : DS w w bc A n c := ⟨World.grownBy.refl _ _, h⟩
theorem DS.call (h : DS w wr bc A n c) (hg : wr.grownBy w1 (some bc)) (hC : Cur w1 bc A n c) : DS w w1 bc A n c := ⟨draw_trans h.grew hg, hC⟩
theorem DS.below (h : DS w wr bc A n c) (hb : Below wr.heap.size wr w1) : DS w w1 bc A n c := ⟨draw_trans h.grew (draw_below hb), h.cur.below hb h.cur.lt⟩
theorem DS.alloc (h : DS w wr bc A n c) (o : Obj) : DS w (wr.alloc o) bc A n c := h.below ((Below.refl _ _).alloc (Nat.le_refl _) o)
theorem DS.drew (h : DS w wr bc A n c) : DS w wr.drew bc A n c := h.below ((Below.refl wr.heap.size wr).drew)
theorem DS.ds (h : DS w wr bc A n c) : DS w wr bc A n c := h
theorem DS.app {o : Obj} {b0 r cr : Nat} {B : Option Addr} {L : List Int} (h : DS w wr bc A n c) (hown : Own wr b0 B r cr L) (hb : bc < b0) (hw : w.heap.size ≤ b0) (hg : (wr.alloc o).grownBy w1 (B.map (·.block))) : DS w w1 bc A n c := by
  have hne : ∀ k, some k = B.map (·.block) → b0 ≤ k := by
    intro k hk
    rcases hown.where_ with e | ⟨g, e, h1, _⟩
    · rw [e] at hk; cases hk
    · rw [e] at hk; simp at hk; omega
  have h0 := (h.alloc o).grew
  refine ⟨⟨hg.os.trans h0.os, hg.tape.trans h0.tape, hg.output.trans h0.output, Nat.le_trans h0.size hg.size, fun i hi hne' => ?_⟩, ?_⟩
  · rw [hg.block i (Nat.lt_of_lt_of_le hi h0.size) (fun hk => by have := hne i hk; omega)]
    exact h0.block i hi hne'
  · exact (h.alloc o).cur.same (hg.block bc (h.alloc o).cur.lt (fun hk => by have := hne bc hk; omega))
theorem DS.store (h : DS w wr bc A n c) {p : Addr} (hp : w.heap.size ≤ p.block) (hb : bc < w.heap.size) (u : Value) : DS w (wr.setCell p u) bc A n c :=
  ⟨⟨h.grew.os, h.grew.tape, h.grew.output, by simpa [World.setCell] using h.grew.size, fun i hi hne => (Below.heap_setCell wr p u i (by omega)).trans (h.grew.block i hi hne)⟩,
   h.cur.same (Below.heap_setCell wr p u bc (by omega))⟩
theorem DR.call (h : DR w wr bc A n c x y) (hb : bc < w.heap.size) (hg : wr.grownBy w1 (some bc)) (hC : Cur w1 bc A n c) : DR w w1 bc A n c x y :=
  ⟨h.ds.call hg hC, h.res.same (hg.block _ h.res.lt (fun hk => by injection hk with hk; omega))⟩
theorem DR.below (h : DR w wr bc A n c x y) (hb : Below wr.heap.size wr w1) : DR w w1 bc A n c x y := ⟨h.ds.below hb, h.res.below hb h.res.lt⟩
theorem DR.alloc (h : DR w wr bc A n c x y) (o : Obj) : DR w (wr.alloc o) bc A n c x y := h.below ((Below.refl _ _).alloc (Nat.le_refl _) o)
theorem DR.drew (h : DR w wr bc A n c x y) : DR w wr.drew bc A n c x y := h.below ((Below.refl wr.heap.size wr).drew)
theorem DR.app {o : Obj} {b0 r cr : Nat} {B : Option Addr} {L : List Int} (h : DR w wr bc A n c x y) (hown : Own wr b0 B r cr L) (hb : bc < b0) (hw : w.heap.size < b0) (hg : (wr.alloc o).grownBy w1 (B.map (·.block))) : DR w w1 bc A n c x y := by
  refine ⟨h.ds.app hown hb (Nat.le_of_lt hw) hg, (h.alloc o).res.same (hg.block _ (h.alloc o).res.lt (fun hk => ?_))⟩
  rcases hown.where_ with e | ⟨g, e, h1, _⟩
  · rw [e] at hk; cases hk
  · rw [e] at hk; simp at hk; omega
theorem DR.start (h : Cur w bc A n c) (x y : Value) : DR w (w.alloc (.cells #[x, y] 26)) bc A n c x y :=
  ⟨(DS.start h).alloc _, heap_alloc_new w _⟩
theorem DR.store (h : DR w wr bc A n c x y) {p : Addr} (hp : w.heap.size < p.block) (hb : bc < w.heap.size) (u : Value) : DR w (wr.setCell p u) bc A n c x y :=
  ⟨h.ds.store (Nat.le_of_lt hp) hb u, h.res.far (by omega) u⟩
theorem own_call {b0 r cr : Nat} {B : Option Addr} {L : List Int} (hown : Own wr b0 B r cr L) (hg : wr.grownBy w1 (some bc)) (hb : bc < b0) : Own w1 b0 B r cr L :=
  hown.keep fun g hlt hA => hg.block g hlt (fun hk => by
    injection hk with hk
    rcases hown.where_ with h0 | ⟨g', h1, h2, h3⟩
    · rw [h0] at hA; cases hA
    · rw [h1] at hA; injection hA with hA; injection hA with hA _; omega)
theorem own_lt {w : World} {b0 r cr g : Nat} {B : Option Addr} {L : List Int} (hown : Own w b0 B r cr L) (h : B = some ⟨g, 0, none⟩) : g < w.heap.size := by
  rcases hown.where_ with h0 | ⟨g', h1, _, h3⟩
  · rw [h0] at h; cases h
  · rw [h1] at h; injection h with h; injection h with h _; omega
/-- Two rows, one appended to. -/
theorem own_other {o : Obj} {b0 b2 r cr r2 cr2 : Nat} {B B2 : Option Addr} {L L2 : List Int} (hown : Own wr b0 B r cr L) (h2 : Own wr b2 B2 r2 cr2 L2) (hd : ∀ g g', B = some ⟨g, 0, none⟩ → B2 = some ⟨g', 0, none⟩ → g ≠ g') (hg : (wr.alloc o).grownBy w1 (B.map (·.block))) : Own w1 b2 B2 r2 cr2 L2 :=
  (h2.alloc o).keep fun g hlt hA => hg.block g hlt (fun hk => by
    rcases hown.where_ with h1 | ⟨g', h1, _, _⟩
    · rw [h1] at hk; cases hk
    · rw [h1] at hk; simp at hk; exact hd g' g h1 hA hk.symm)
theorem own_apart {o : Obj} {g b2 r2 cr2 : Nat} {B B2 : Option Addr} {L2 : List Int} (h2 : Own wr b2 B2 r2 cr2 L2) (hd : ∀ g g', B = some ⟨g, 0, none⟩ → B2 = some ⟨g', 0, none⟩ → g ≠ g') (hat : B = some ⟨g, 0, none⟩ ∨ g = (wr.alloc o).heap.size) : ∀ g1 g', (some ⟨g, 0, none⟩ : Option Addr) = some ⟨g1, 0, none⟩ → B2 = some ⟨g', 0, none⟩ → g1 ≠ g' := by
  intro g1 g' h1 h3
  injection h1 with h1; injection h1 with h1 _
  subst h1
  rcases hat with h | h
  · exact hd g g' h h3
  · rcases h2.where_ with h4 | ⟨g2, h4, _, h5⟩
    · rw [h4] at h3; cases h3
    · rw [h4] at h3; injection h3 with h3; injection h3 with h3 _
      simp at h; omega
end
end Go.Proofs.Ytokeejachclpeaa
