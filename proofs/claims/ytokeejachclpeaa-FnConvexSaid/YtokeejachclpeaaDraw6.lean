/-
  Walks: what the first laws draw from a code.
-/
import Derived.Test.YtokeejachclpeaaDraw5
import Derived.Test.YtokeejachclpeaaMinz
import Derived.Deep.RegionHeld3
namespace Go.Proofs.Ytokeejachclpeaa
open Go.RowKit

theorem Byts.below {w w1 : World} {A : Option Addr} {n : Nat} (h : Byts w A n) (hb : Below w.heap.size w w1) : Byts w1 A n :=
  ⟨h.1, fun h0 => by
    obtain ⟨b, off, rfl, hc⟩ := h.2 h0
    refine ⟨b, off, rfl, fun j hj => ?_⟩
    obtain ⟨y, hy, hcy⟩ := hc j hj
    exact ⟨y, hy, (hb.cell (p := ⟨b, off + j, none⟩) (World.block_lt_of_cell? _ _ hcy)).trans hcy⟩⟩
theorem Byts.alloc {w : World} {A : Option Addr} {n : Nat} (h : Byts w A n) (o : Obj) : Byts (w.alloc o) A n := h.below ((Below.refl _ _).alloc (Nat.le_refl _) o)
theorem Byts.apart {w : World} {A : Option Addr} {n bc : Nat} (h : Byts w A n) (hb : w.heap.size ≤ bc) : Apart A n bc := fun h0 b off hA => by
  obtain ⟨b', off', hA', hc⟩ := h.2 h0
  rw [hA'] at hA
  injection hA with hA; injection hA with hA _
  obtain ⟨y, _, hcy⟩ := hc 0 h0
  have h1 := World.block_lt_of_cell? _ _ hcy
  have h2 : b' < w.heap.size := h1
  omega
/-- Behind a draw whose cursor is new. -/
theorem below_draw {w w1 w2 : World} {B bc : Nat} (h : Below B w w1) (hg : w1.grownBy w2 (some bc)) (hbc : B ≤ bc) (hB : B ≤ w1.heap.size) : Below B w w2 :=
  h.trans ⟨hg.os, hg.tape, hg.output, hg.size, fun k hk => hg.block k (by omega) (fun he => by injection he with he; omega)⟩
theorem own_draw {w w1 : World} {b0 bc r cr : Nat} {B : Option Addr} {L : List Int} (hown : Own w b0 B r cr L) (hg : w.grownBy w1 (some bc)) (hne : ∀ g, B = some ⟨g, 0, none⟩ → g ≠ bc) : Own w1 b0 B r cr L :=
  hown.keep fun g hlt hA => hg.block g hlt (fun hk => by injection hk with hk; exact hne g hA hk)
/-- What a new cursor leaves. -/
structure Begun (w w1 : World) (bc : Nat) (A : Option Addr) (n c : Nat) : Prop where
  new : w.heap.size ≤ bc
  below : Below w.heap.size w w1
  cur : Cur w1 bc A n c
  orig : Byts w A n
section
variable {w w1 w2 : World} {bc n c : Nat} {A : Option Addr}
theorem Begun.lt (h : Begun w w1 bc A n c) : bc < w1.heap.size := h.cur.lt
theorem Begun.byts (h : Begun w w1 bc A n c) : Byts w1 A n := h.orig.below h.below
theorem Begun.apart (h : Begun w w1 bc A n c) : Apart A n bc := h.orig.apart h.new
theorem Begun.call (h : Begun w w1 bc A n c) (hg : w1.grownBy w2 (some bc)) (hC : Cur w2 bc A n c) : Begun w w2 bc A n c :=
  ⟨h.new, below_draw h.below hg h.new h.below.size, hC, h.orig⟩
theorem Begun.step (h : Begun w w1 bc A n c) (hb : Below w1.heap.size w1 w2) : Begun w w2 bc A n c :=
  ⟨h.new, h.below.trans (hb.mono h.below.size), h.cur.below hb h.lt, h.orig⟩
theorem Begun.alloc (h : Begun w w1 bc A n c) (o : Obj) : Begun w (w1.alloc o) bc A n c := h.step ((Below.refl _ _).alloc (Nat.le_refl _) o)
theorem Begun.drew (h : Begun w w1 bc A n c) : Begun w w1.drew bc A n c := h.step ((Below.refl w1.heap.size w1).drew)
theorem Begun.store (h : Begun w w1 bc A n c) {p : Addr} (hp : p.block ≠ bc) (hp2 : w.heap.size ≤ p.block) (u : Value) : Begun w (w1.setCell p u) bc A n c :=
  ⟨h.new, h.below.setCell hp2 u, h.cur.same (Below.heap_setCell w1 p u bc (fun he => hp he.symm)), h.orig⟩
theorem Begun.app {o : Obj} {b0 r cr : Nat} {B : Option Addr} {L : List Int} (h : Begun w w1 bc A n c) (hown : Own w1 b0 B r cr L) (hb : ∀ g, B = some ⟨g, 0, none⟩ → g ≠ bc) (hw : w.heap.size ≤ b0) (hg : (w1.alloc o).grownBy w2 (B.map (·.block))) : Begun w w2 bc A n c := by
  have ha := h.alloc o
  have hne : ∀ k, some k = B.map (·.block) → b0 ≤ k ∧ k ≠ bc := by
    intro k hk
    rcases hown.where_ with e | ⟨g, e, h1, _⟩
    · rw [e] at hk; cases hk
    · have h2 := hb g e
      rw [e] at hk; simp at hk; omega
  exact ⟨h.new, ha.below.grown hg ha.below.size (fun k hk => by have := hne k hk.symm; omega), ha.cur.same (hg.block bc ha.lt (fun hk => by have := hne bc hk; omega)), h.orig⟩
end
theorem begin_any (A : Option Addr) (n c : Nat) (w : World) (hB : Byts w A n) :
    Calls Try.prog 163 #[.slice A n c] w fun e w' => ∃ bc : Nat, e = .returned (.pointer (some ⟨bc, 0, none⟩)) ∧ Begun w w' bc A n c :=
  (l1New_any A n c w hB).mono fun _ _ ⟨bc, h1, h2, h3, h4⟩ => ⟨bc, h1, h2, h3, h4, hB⟩
/-- A function that was drawn from a code, in new memory; nothing old has turned. -/
def CodeFn (w w' : World) (e : Ending) : Prop :=
  ∃ (E : Int) (r : Nat) (B : Option Addr) (cr : Nat) (L : List Int), e = .returned (.agg #[.int .i64 E, .slice B r cr]) ∧ r ≤ 32 ∧ Own w' w.heap.size B r cr L ∧ Below w.heap.size w w'
/-- The same, with a number. -/
def CodeSet (w w' : World) (e : Ending) : Prop :=
  ∃ (E : Int) (r : Nat) (B : Option Addr) (cr : Nat) (L : List Int) (s : Int), e = .returned (.tuple #[.agg #[.int .i64 E, .slice B r cr], .int .i64 s]) ∧ r ≤ 32 ∧ Own w' w.heap.size B r cr L ∧ Below w.heap.size w w'
/-- The same, with two numbers. -/
def CodeTwo (w w' : World) (e : Ending) : Prop :=
  ∃ (E : Int) (r : Nat) (B : Option Addr) (cr : Nat) (L : List Int) (s t : Int), e = .returned (.tuple #[.agg #[.int .i64 E, .slice B r cr], .int .i64 s, .int .i64 t]) ∧ r ≤ 32 ∧ Own w' w.heap.size B r cr L ∧ Below w.heap.size w w'
set_option maxHeartbeats 4000000 in
theorem l2Set_any (A : Option Addr) (n c : Nat) (w : World) (hB : Byts w A n) :
    Calls Try.prog 192 #[.slice A n c] w fun e w' => CodeSet w w' e := by
  have hT0 : Two (w.alloc (.cells #[.int .i64 0, .slice none 0 0] 26)) w.heap.size (.int .i64 0) (.slice none 0 0) := heap_alloc_new w _
  have hb0 := (Below.refl w.heap.size w).alloc (Nat.le_refl _) (.cells #[.int .i64 0, .slice none 0 0] 26)
  have z0 : (w.alloc (.cells #[.int .i64 0, .slice none 0 0] 26)).heap.size = w.heap.size + 1 := by simp
  go_enter Try.func192, Try.ntmps192
  go_wp2_with fail
  refine (begin_any A n c _ (hB.alloc _)).mono ?_
  rintro e w1 ⟨bc, rfl, hN1⟩
  have hnew := hN1.new
  rw [z0] at hnew
  have hT1 := hT0.below hN1.below (by simp)
  have hB1 := hb0.trans (hN1.below.mono (by simp))
  go_wp2_with fail
  refine (l2Any_any bc A n c w1 hN1.lt hN1.byts hN1.apart hN1.cur).mono ?_
  rintro e w2 ⟨E, r, B, cr, L, rfl, hr, hO2, hg2, hC2⟩
  have hN2 := hN1.call hg2 hC2
  have hT2 := hT1.same (hg2.block _ hT1.lt (fun hk => by injection hk with hk; omega))
  have hB2 := below_draw hB1 hg2 (by omega) hB1.size
  have hlt1 := hT1.lt
  have hlt2 := hT2.lt
  have hsz12 := hg2.size
  have hN3 := (hN2.alloc (.cells #[.int .i64 E, .slice B r cr] 26)).drew
  have hF3 : Two (w2.alloc (.cells #[.int .i64 E, .slice B r cr] 26)) w2.heap.size (.int .i64 E) (.slice B r cr) := heap_alloc_new w2 _
  have hT3 := hT2.below ((Below.refl w2.heap.size w2).alloc (Nat.le_refl _) (.cells #[.int .i64 E, .slice B r cr] 26)) hlt2
  have hO3 := hO2.alloc (.cells #[.int .i64 E, .slice B r cr] 26)
  have hB3 := hB2.alloc hB2.size (.cells #[.int .i64 E, .slice B r cr] 26)
  have hlt := hN1.lt
  obtain ⟨b2, hb2⟩ : ∃ b2, b2 = w2.heap.size := ⟨_, rfl⟩
  obtain ⟨w3, hw3⟩ : ∃ w3, w3 = w2.alloc (.cells #[.int .i64 E, .slice B r cr] 26) := ⟨_, rfl⟩
  have hBl := hide (fun g (hA : B = some ⟨g, 0, none⟩) => show g < b2 from by have := own_lt hO2 hA; omega)
  have hwb : w.heap.size < b2 := by omega
  have hbcb : bc < b2 := by omega
  rw [← hw3] at hN3 hF3 hT3 hO3 hB3
  rw [← hb2] at hF3
  clear hN1 hN2 hT1 hT2 hO2 hg2 hC2 hB1 hB2 hT0 hb0 z0
  have f0 := hF3.cell0
  have f1 := hF3.cell1
  have v0 := hT3.cell0
  have v1 := hT3.cell1
  have q0 := hT3.frozen0
  have q1 := hT3.frozen
  go_wp2
  rw [← hw3, ← hb2]
  clear hw3 hb2
  go_region_held3 (fun w' => w'.cell? ⟨b2, 0, none⟩ = some (.int .i64 E) ∧ w'.cell? ⟨b2, 1, none⟩ = some (.slice B r cr))
    (first
      | go_keep
      | exact ⟨hF4.cell0, hF4.cell1⟩
      | exact ⟨((hF4.far (p := ⟨w.heap.size, 0, none⟩) (by simp; omega) _).far (p := ⟨w.heap.size, 1, none⟩) (by simp; omega) _).cell0, ((hF4.far (p := ⟨w.heap.size, 0, none⟩) (by simp; omega) _).far (p := ⟨w.heap.size, 1, none⟩) (by simp; omega) _).cell1⟩)
    (first
      | (go_at_call 194; refine (l1Below_any bc A n c 18 _ hN3.byts hN3.apart hN3.cur).mono ?_; rintro e w4 ⟨x, rfl, hx, hg4, hC4⟩; have hx18 : x < 18 := (by omega); have hF4 := (show Two w3.drew _ _ _ from hF3).same (hg4.block b2 hF3.lt (fun hk => by injection hk with hk; omega)); have hT4 := (show Two w3.drew _ _ _ from hT3).same (hg4.block _ hT3.lt (fun hk => by injection hk with hk; omega)); have v2 := hT4.cell0; have v3 := hT4.cell1; have q2 := hT4.frozen0; have q3 := hT4.frozen))
  have y := (hT4.set0 (.int .i64 E)).set1 (.slice B r cr)
  have y0 := y.cell0
  have y1 := y.cell1
  have hO4 := own_draw (show Own w3.drew _ _ _ _ _ from hO3) hg4 (fun g hA => by
    have h1 := hO3.where_
    have h2 := hBl.out g hA
    rcases h1 with h0 | ⟨g', h0, h3, _⟩
    · rw [h0] at hA; cases hA
    · rw [h0] at hA; injection hA with hA; injection hA with hA _
      omega)
  have hB4 := below_draw (hB3.drew) hg4 (by omega) hB3.size
  have hwx : IntKind.i64.wrap ((x : Int) - 1) = (x : Int) - 1 := IntWalk.i64_in _ (by omega)
  go_wp2
  refine bodyPost_ret (v := .tuple #[.agg #[.int .i64 E, .slice B r cr], .int .i64 ((x : Int) - 1)]) (by simp [results, Try.results192, go_sem, y0, y1, hwx]) rfl ⟨E, r, B, cr, L, (x : Int) - 1, rfl, by omega, ?_, ?_⟩
  · have hl := fun g (hA : B = some ⟨g, 0, none⟩) => row_low hO4 hA
    exact ((hO4.far (fun g hA => by have := hl g hA; simp; omega) _).far (fun g hA => by have := hl g hA; simp; omega) _).less (by omega)
  · exact (hB4.setCell (Nat.le_refl _) _).setCell (Nat.le_refl _) _
set_option maxHeartbeats 4000000 in
theorem drawMinimizersOf_any (A : Option Addr) (n c : Nat) (w : World) (hB : Byts w A n) :
    Calls Try.prog 90 #[.slice A n c] w fun e w' => CodeFn w w' e := by
  have hT0 : Two (w.alloc (.cells #[.int .i64 0, .slice none 0 0] 26)) w.heap.size (.int .i64 0) (.slice none 0 0) := heap_alloc_new w _
  have hb0 := (Below.refl w.heap.size w).alloc (Nat.le_refl _) (.cells #[.int .i64 0, .slice none 0 0] 26)
  have z0 : (w.alloc (.cells #[.int .i64 0, .slice none 0 0] 26)).heap.size = w.heap.size + 1 := by simp
  go_enter Try.func90, Try.ntmps90
  go_wp2_with fail
  refine (begin_any A n c _ (hB.alloc _)).mono ?_
  rintro e w1 ⟨bc, rfl, hN1⟩
  have hnew := hN1.new
  rw [z0] at hnew
  have hT1 := hT0.below hN1.below (by simp)
  have hB1 := hb0.trans (hN1.below.mono (by simp))
  go_wp2_with fail
  refine (l2Any_any bc A n c w1 hN1.lt hN1.byts hN1.apart hN1.cur).mono ?_
  rintro e w2 ⟨E, r, B, cr, L, rfl, hr, hO2, hg2, hC2⟩
  have hT2 := hT1.same (hg2.block _ hT1.lt (fun hk => by injection hk with hk; omega))
  have hB2 := below_draw hB1 hg2 (by omega) hB1.size
  have hlt1 := hT1.lt
  have v0 := hT2.cell0
  have v1 := hT2.cell1
  have q0 := hT2.frozen0
  have q1 := hT2.frozen
  have y := (hT2.set0 (.int .i64 E)).set1 (.slice B r cr)
  have y0 := y.cell0
  have y1 := y.cell1
  go_wp2
  refine bodyPost_ret (v := .agg #[.int .i64 E, .slice B r cr]) (by simp [results, Try.results90, go_sem, y0, y1]) rfl ⟨E, r, B, cr, L, rfl, by omega, ?_, ?_⟩
  · have hl := fun g (hA : B = some ⟨g, 0, none⟩) => row_low hO2 hA
    exact ((hO2.far (fun g hA => by have := hl g hA; simp; omega) _).far (fun g hA => by have := hl g hA; simp; omega) _).less (by omega)
  · exact (hB2.setCell (Nat.le_refl _) _).setCell (Nat.le_refl _) _
set_option maxHeartbeats 4000000 in
theorem drawMinimumBetween_any (A : Option Addr) (n c : Nat) (w : World) (hB : Byts w A n) :
    Calls Try.prog 87 #[.slice A n c] w fun e w' => CodeTwo w w' e := by
  have hT0 : Two (w.alloc (.cells #[.int .i64 0, .slice none 0 0] 26)) w.heap.size (.int .i64 0) (.slice none 0 0) := heap_alloc_new w _
  have hb0 := (Below.refl w.heap.size w).alloc (Nat.le_refl _) (.cells #[.int .i64 0, .slice none 0 0] 26)
  have z0 : (w.alloc (.cells #[.int .i64 0, .slice none 0 0] 26)).heap.size = w.heap.size + 1 := by simp
  have hnle := hB.1
  go_enter Try.func87, Try.ntmps87
  go_wp2_with fail
  refine (l2Set_any A n c _ (hB.alloc _)).mono ?_
  rintro e w2 ⟨E, r, B, cr, L, s, rfl, hr, hO2, hb2⟩
  have hT2 := hT0.below hb2 (by simp)
  have hB2 := hb0.trans (hb2.mono (by simp))
  have hlt2 := hT2.lt
  have hF3 : Two (w2.alloc (.cells #[.int .i64 E, .slice B r cr] 26)) w2.heap.size (.int .i64 E) (.slice B r cr) := heap_alloc_new w2 _
  have hT3 := hT2.below ((Below.refl w2.heap.size w2).alloc (Nat.le_refl _) (.cells #[.int .i64 E, .slice B r cr] 26)) hlt2
  have hO3 := hO2.alloc (.cells #[.int .i64 E, .slice B r cr] 26)
  have hB3 := hB2.alloc hB2.size (.cells #[.int .i64 E, .slice B r cr] 26)
  obtain ⟨b2, hb2e⟩ : ∃ b2, b2 = w2.heap.size := ⟨_, rfl⟩
  obtain ⟨w3, hw3⟩ : ∃ w3, w3 = w2.alloc (.cells #[.int .i64 E, .slice B r cr] 26) := ⟨_, rfl⟩
  have hBl := hide (fun g (hA : B = some ⟨g, 0, none⟩) => show g < b2 from by have := own_lt hO2 hA; omega)
  have hwb : w.heap.size < b2 := by omega
  rw [← hw3] at hF3 hT3 hO3 hB3
  rw [← hb2e] at hF3
  clear hT2 hO2 hb2 hB2 hT0 hb0
  have f0 := hF3.cell0
  have f1 := hF3.cell1
  have v0 := hT3.cell0
  have v1 := hT3.cell1
  have q0 := hT3.frozen0
  have q1 := hT3.frozen
  obtain ⟨k, hk, hk6⟩ : ∃ k : Nat, (n : Int).tmod 6 = (k : Int) ∧ k < 6 := ⟨n % 6, by rw [Int.tmod_eq_emod_of_nonneg (by omega)]; omega, by omega⟩
  go_wp2
  rw [← hw3, ← hb2e]
  clear hw3 hb2e
  have hcell : ∀ W : World, (W.alloc (.cells #[.int .i64 0, .int .i64 1, .int .i64 2, .int .i64 4, .int .i64 8, .int .i64 (-1)] 3)).cell? ⟨W.heap.size, k, none⟩ = some (.int .i64 (gv [0, 1, 2, 4, 8, -1] k)) := by
    intro W
    have := (ints_six W 0 1 2 4 8 (-1)).2.2 (by omega)
    obtain ⟨b, off, h1, h2⟩ := this
    injection h1 with h1; injection h1 with h1 h3
    have h4 := h2 k hk6
    rw [← h1, ← h3, Nat.zero_add] at h4
    exact h4
  have i0 : (0 : Int) ≤ (k : Int) := by omega
  have i1 : (k : Int) < 6 := by omega
  have hlt3 : w.heap.size ≠ w3.heap.size := by have := hT3.lt; omega
  have hF4 := hF3.below ((Below.refl w3.heap.size w3).alloc (Nat.le_refl _) (.cells #[.int .i64 0, .int .i64 1, .int .i64 2, .int .i64 4, .int .i64 8, .int .i64 (-1)] 3)) hF3.lt
  have hT4 := hT3.below ((Below.refl w3.heap.size w3).alloc (Nat.le_refl _) (.cells #[.int .i64 0, .int .i64 1, .int .i64 2, .int .i64 4, .int .i64 8, .int .i64 (-1)] 3)) hT3.lt
  have hO4 := hO3.alloc (.cells #[.int .i64 0, .int .i64 1, .int .i64 2, .int .i64 4, .int .i64 8, .int .i64 (-1)] 3)
  have hB4 := hB3.alloc hB3.size (.cells #[.int .i64 0, .int .i64 1, .int .i64 2, .int .i64 4, .int .i64 8, .int .i64 (-1)] 3)
  have fa0 := hF4.cell0
  have fa1 := hF4.cell1
  have va0 := hT4.cell0
  have va1 := hT4.cell1
  have qa0 := hT4.frozen0
  have qa1 := hT4.frozen
  have y := (hT4.set0 (.int .i64 E)).set1 (.slice B r cr)
  have y0 := hide y.cell0
  have y1 := hide y.cell1
  have yB := (hT3.set0 (.int .i64 E)).set1 (.slice B r cr)
  have yC := yB.below ((Below.refl _ _).alloc (Nat.le_refl _) (.cells #[.int .i64 0, .int .i64 1, .int .i64 2, .int .i64 4, .int .i64 8, .int .i64 (-1)] 3)) yB.lt
  have yC0 := hide yC.cell0
  have yC1 := hide yC.cell1
  have hl := fun g (hA : B = some ⟨g, 0, none⟩) => row_low hO3 hA
  have hfar : ∀ (g k : Nat), B = some ⟨g, 0, none⟩ → g ≠ (⟨w.heap.size, k, none⟩ : Addr).block := fun g k hA => by have := hl g hA; simp; omega
  have oA := hide ((((hO4.far (p := ⟨w.heap.size, 0, none⟩) (fun g hA => hfar g 0 hA) (.int .i64 E)).far (p := ⟨w.heap.size, 1, none⟩) (fun g hA => hfar g 1 hA) (.slice B r cr)).less (B' := w.heap.size) (by rw [z0]; omega)))
  have oB := hide ((((hO3.far (p := ⟨w.heap.size, 0, none⟩) (fun g hA => hfar g 0 hA) (.int .i64 E)).far (p := ⟨w.heap.size, 1, none⟩) (fun g hA => hfar g 1 hA) (.slice B r cr)).alloc (.cells #[.int .i64 0, .int .i64 1, .int .i64 2, .int .i64 4, .int .i64 8, .int .i64 (-1)] 3)).less (B' := w.heap.size) (by rw [z0]; omega))
  have bA := hide (((hB4.setCell (p := ⟨w.heap.size, 0, none⟩) (Nat.le_refl _) (.int .i64 E)).setCell (p := ⟨w.heap.size, 1, none⟩) (Nat.le_refl _) (.slice B r cr)).drew)
  have bB := hide ((((hB3.setCell (p := ⟨w.heap.size, 0, none⟩) (Nat.le_refl _) (.int .i64 E)).setCell (p := ⟨w.heap.size, 1, none⟩) (Nat.le_refl _) (.slice B r cr)).alloc (by simpa [World.setCell] using hB3.size) (.cells #[.int .i64 0, .int .i64 1, .int .i64 2, .int .i64 4, .int .i64 8, .int .i64 (-1)] 3)).drew)
  clear y yB yC hl hfar
  obtain ⟨t, ht⟩ : ∃ t, t = gv [0, 1, 2, 4, 8, -1] k := ⟨_, rfl⟩
  rw [← ht] at hcell
  have hval := hide (show ∀ h, ([Value.int .i64 0, .int .i64 1, .int .i64 2, .int .i64 4, .int .i64 8, .int .i64 (-1)] : List Value)[k]'h = .int .i64 t from by
    intro h
    rw [ht]
    match k, hk6 with
    | 0, _ => rfl
    | 1, _ => rfl
    | 2, _ => rfl
    | 3, _ => rfl
    | 4, _ => rfl
    | 5, _ => rfl)
  clear ht
  go_region
  all_goals
    go_wp2
    first
      | exact bodyPost_ret (v := .tuple #[.agg #[.int .i64 E, .slice B r cr], .int .i64 s, .int .i64 t]) (by simp [results, Try.results87, go_sem, y0.out, y1.out]) rfl ⟨E, r, B, cr, L, s, t, rfl, by omega, oA.out, bA.out⟩
      | exact bodyPost_ret (v := .tuple #[.agg #[.int .i64 E, .slice B r cr], .int .i64 s, .int .i64 t]) (by simp [results, Try.results87, go_sem, yC0.out, yC1.out, hval.out]) rfl ⟨E, r, B, cr, L, s, t, rfl, by omega, oB.out, bB.out⟩
      | fail
/-- Numbers that were drawn from a code. -/
def CodeList (w w' : World) (e : Ending) : Prop :=
  ∃ (r : Nat) (B : Option Addr) (cr : Nat) (L : List Int), e = .returned (.slice B r cr) ∧ r ≤ 1048576 ∧ Own w' w.heap.size B r cr L ∧ Below w.heap.size w w'
set_option maxHeartbeats 4000000 in
theorem drawIsLattice_any (A : Option Addr) (n c : Nat) (w : World) (hB : Byts w A n) :
    Calls Try.prog 95 #[.slice A n c] w fun e w' => CodeList w w' e := by
  go_enter Try.func95, Try.ntmps95
  go_wp2_with fail
  refine (begin_any A n c _ hB).mono ?_
  rintro e w1 ⟨bc, rfl, hN1⟩
  go_wp2_with fail
  refine (l2Any_any bc A n c w1 hN1.lt hN1.byts hN1.apart hN1.cur).mono ?_
  rintro e w2 ⟨E, r, B, cr, L, rfl, hr, hO2, hg2, hC2⟩
  have hN2 := hN1.call hg2 hC2
  have hsz1 := hN1.below.size
  go_wp2_with fail
  refine (specMinimizersOf_any E B r cr L w2 hO2.ints).mono ?_
  rintro e w3 ⟨B3, r3, c3, rfl, hO3, hr3, hb3⟩
  have hN3 := hN2.step hb3
  have hsz2 := hg2.size
  have hlt := hN2.lt
  have hnew := hN1.new
  clear hN1 hO2 hg2 hC2 hN2
  cases hf : isFn E L
  case true =>
    go_wp2_with fail
    refine (l1Once_any bc A n c 4 w3 hN3.byts hN3.apart hN3.cur).mono ?_
    rintro e w4 ⟨x, rfl, hg4, hC4⟩
    have hN4 := hN3.call hg4 hC4
    have hO4 := own_draw hO3 hg4 (fun g hA => by have := row_low hO3 hA; omega)
    cases x
    · go_wp2
      go_ret
      exact ⟨r3, B3, c3, _, rfl, hr3, hO4.less (by omega), hN4.below⟩
    · have hN := hN4
      have hsz4 := hN4.below.size
      clear hN4 hO4 hg4 hC4 hN3 hO3
      have hO5 := own_zero w4 (Nat.le_refl w4.heap.size)
      have hN5 := hN.alloc (.cells #[] 3)
      have hlt4 := hN.lt
      clear hN
      go_wp2_with fail
      refine (l1Below_any bc A n c 5 _ hN5.byts hN5.apart hN5.cur).mono ?_
      rintro e w6 ⟨k, rfl, hk, hg6, hC6⟩
      have hN6 := hN5.call hg6 hC6
      have hO6 := own_draw hO5 hg6 (fun g hA => by have := row_low hO5 hA; omega)
      have hk5 : k < 5 := by omega
      have hsz6 : w4.heap.size ≤ w6.heap.size := by
        have := hg6.size
        simp at this; omega
      clear hN5 hO5 hg6 hC6 hk
      go_wp2
      go_loopw [6, 7] (fun l t wr => ∃ (j q : Nat) (B6 : Option Addr) (c6 : Nat) (L6 : List Int), t = .int .i64 j ∧ l = .slice B6 q c6 ∧ q + j ≤ 5 ∧ Own wr w4.heap.size B6 q c6 L6 ∧ Begun w wr bc A n c ∧ w4.heap.size ≤ wr.heap.size) (fun _ t _ => (intOf t).toNat)
      case atStart => exact ⟨k, 0, _, 0, _, rfl, rfl, by omega, hO6, hN6, hsz6⟩
      clear hO6 hN6
      case round =>
        obtain ⟨j, q, B6, c6, L6, rfl, rfl, hqj, hO, hN, hszr⟩ := hrel
        by_cases hj : 0 < j
        · go_wp2_with fail
          refine (l1Below_any bc A n c 9 wr hN.byts hN.apart hN.cur).mono ?_
          rintro e w7 ⟨x, rfl, hx, hg7, hC7⟩
          have hN7 := hN.call hg7 hC7
          have hO7 := own_draw hO hg7 (fun g hA => by have := row_low hO hA; omega)
          have hx9 : x < 9 := by omega
          have hsz7 := hg7.size
          clear hx
          go_wp2_with (refine wpl_app (by rfl) _ _ (by rfl) w4.heap.size B6 q c6 w7.heap.size L6 ((x : Int) - 1) (by rfl) (by rfl) (hO7.alloc _) (cell_new w7 _) (by omega) (by simp; omega) ?_; intro g cap w8 hO8 hgrow8 hat8 hlt8)
          have hN8 := hN7.app hO7 (fun g hA => by have := row_low hO7 hA; omega) (by omega) hgrow8
          have hsz8 := hgrow8.size
          go_roundw
          case rel => exact ⟨j - 1, q + 1, _, cap, _, by go_num, rfl, by omega, hO8, hN8, by simp at hsz8; omega⟩
          case measure => simp [intOf]; omega
        · obtain rfl : j = 0 := by omega
          go_wp2
          go_ret
          exact ⟨q, B6, c6, L6, rfl, by omega, hO.less (by omega), hN.below⟩
  case false =>
    have hN := hN3
    obtain ⟨w4, rfl⟩ : ∃ w4 : World, w4 = w3 := ⟨_, rfl⟩
    have hsz4 := hN.below.size
    clear hN3 hO3
    have hO5 := own_zero w4 (Nat.le_refl w4.heap.size)
    have hN5 := hN.alloc (.cells #[] 3)
    have hlt4 := hN.lt
    clear hN
    go_wp2_with fail
    refine (l1Below_any bc A n c 5 _ hN5.byts hN5.apart hN5.cur).mono ?_
    rintro e w6 ⟨k, rfl, hk, hg6, hC6⟩
    have hN6 := hN5.call hg6 hC6
    have hO6 := own_draw hO5 hg6 (fun g hA => by have := row_low hO5 hA; omega)
    have hk5 : k < 5 := by omega
    have hsz6 : w4.heap.size ≤ w6.heap.size := by
      have := hg6.size
      simp at this; omega
    clear hN5 hO5 hg6 hC6 hk
    go_wp2
    go_loopw [6, 7] (fun l t wr => ∃ (j q : Nat) (B6 : Option Addr) (c6 : Nat) (L6 : List Int), t = .int .i64 j ∧ l = .slice B6 q c6 ∧ q + j ≤ 5 ∧ Own wr w4.heap.size B6 q c6 L6 ∧ Begun w wr bc A n c ∧ w4.heap.size ≤ wr.heap.size) (fun _ t _ => (intOf t).toNat)
    case atStart => exact ⟨k, 0, _, 0, _, rfl, rfl, by omega, hO6, hN6, hsz6⟩
    clear hO6 hN6
    case round =>
      obtain ⟨j, q, B6, c6, L6, rfl, rfl, hqj, hO, hN, hszr⟩ := hrel
      by_cases hj : 0 < j
      · go_wp2_with fail
        refine (l1Below_any bc A n c 9 wr hN.byts hN.apart hN.cur).mono ?_
        rintro e w7 ⟨x, rfl, hx, hg7, hC7⟩
        have hN7 := hN.call hg7 hC7
        have hO7 := own_draw hO hg7 (fun g hA => by have := row_low hO hA; omega)
        have hx9 : x < 9 := by omega
        have hsz7 := hg7.size
        clear hx
        go_wp2_with (refine wpl_app (by rfl) _ _ (by rfl) w4.heap.size B6 q c6 w7.heap.size L6 ((x : Int) - 1) (by rfl) (by rfl) (hO7.alloc _) (cell_new w7 _) (by omega) (by simp; omega) ?_; intro g cap w8 hO8 hgrow8 hat8 hlt8)
        have hN8 := hN7.app hO7 (fun g hA => by have := row_low hO7 hA; omega) (by omega) hgrow8
        have hsz8 := hgrow8.size
        go_roundw
        case rel => exact ⟨j - 1, q + 1, _, cap, _, by go_num, rfl, by omega, hO8, hN8, by simp at hsz8; omega⟩
        case measure => simp [intOf]; omega
      · obtain rfl : j = 0 := by omega
        go_wp2
        go_ret
        exact ⟨q, B6, c6, L6, rfl, by omega, hO.less (by omega), hN.below⟩
end Go.Proofs.Ytokeejachclpeaa
