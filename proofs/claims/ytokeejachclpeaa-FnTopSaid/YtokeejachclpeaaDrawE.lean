/-
  Walks: functions with vectors drawn from a code, for the great laws.
-/
import Derived.Test.YtokeejachclpeaaDrawD
import Derived.Test.YtokeejachclpeaaCapM
import Derived.Deep.RegionHeld3
namespace Go.Proofs.Ytokeejachclpeaa
open Go.RowKit

/-- A function and a vector that were drawn from a code, in new memory; nothing old has turned. -/
def CodeFV (w w' : World) (e : Ending) : Prop :=
  ∃ (E : Int) (r : Nat) (B : Option Addr) (cr : Nat) (L : List Int) (k : Nat) (C : Option Addr) (cc : Nat) (x : List Int), e = .returned (.tuple #[.agg #[.int .i64 E, .slice B r cr], .slice C k cc]) ∧ r ≤ 32 ∧ Own w' w.heap.size B r cr L ∧ k ≤ 6 ∧ Own w' w.heap.size C k cc x ∧ Below w.heap.size w w' ∧ Flat L
/-- The same, with a number. -/
def CodeFVI (w w' : World) (e : Ending) : Prop :=
  ∃ (E : Int) (r : Nat) (B : Option Addr) (cr : Nat) (L : List Int) (k : Nat) (C : Option Addr) (cc : Nat) (x : List Int) (s : Int), e = .returned (.tuple #[.agg #[.int .i64 E, .slice B r cr], .slice C k cc, .int .i64 s]) ∧ r ≤ 32 ∧ Own w' w.heap.size B r cr L ∧ k ≤ 6 ∧ Own w' w.heap.size C k cc x ∧ Below w.heap.size w w'
/-- The same, with two numbers. -/
def CodeFVII (w w' : World) (e : Ending) : Prop :=
  ∃ (E : Int) (r : Nat) (B : Option Addr) (cr : Nat) (L : List Int) (k : Nat) (C : Option Addr) (cc : Nat) (x : List Int) (s t : Int), e = .returned (.tuple #[.agg #[.int .i64 E, .slice B r cr], .slice C k cc, .int .i64 s, .int .i64 t]) ∧ r ≤ 32 ∧ Own w' w.heap.size B r cr L ∧ k ≤ 6 ∧ Own w' w.heap.size C k cc x ∧ Below w.heap.size w w'
/-- A function and two vectors. -/
def CodeFVV (w w' : World) (e : Ending) : Prop :=
  ∃ (E : Int) (r : Nat) (B : Option Addr) (cr : Nat) (L : List Int) (k : Nat) (C : Option Addr) (cc : Nat) (x : List Int) (k2 : Nat) (C2 : Option Addr) (cc2 : Nat) (x2 : List Int), e = .returned (.tuple #[.agg #[.int .i64 E, .slice B r cr], .slice C k cc, .slice C2 k2 cc2]) ∧ r ≤ 32 ∧ Own w' w.heap.size B r cr L ∧ k ≤ 6 ∧ Own w' w.heap.size C k cc x ∧ k2 ≤ 6 ∧ Own w' w.heap.size C2 k2 cc2 x2 ∧ Below w.heap.size w w'
set_option maxHeartbeats 4000000 in
theorem l8Both_any (A : Option Addr) (n c : Nat) (w : World) (hB : Byts w A n) :
    Calls Try.prog 132 #[.slice A n c] w fun e w' => CodeFV w w' e := by
  have hT0 : Two (w.alloc (.cells #[.int .i64 0, .slice none 0 0] 26)) w.heap.size (.int .i64 0) (.slice none 0 0) := heap_alloc_new w _
  have hb0 := (Below.refl w.heap.size w).alloc (Nat.le_refl _) (.cells #[.int .i64 0, .slice none 0 0] 26)
  have z0 : (w.alloc (.cells #[.int .i64 0, .slice none 0 0] 26)).heap.size = w.heap.size + 1 := by simp
  go_enter Try.func132, Try.ntmps132
  go_wp2_with fail
  refine (begin_any A n c _ (hB.alloc _)).mono ?_
  rintro e w1 ⟨bc, rfl, hN1⟩
  have hnew := hN1.new
  rw [z0] at hnew
  have hT1 := hT0.below hN1.below (by simp)
  have hB1 := hb0.trans (hN1.below.mono (by simp))
  have hlt1 := hT1.lt
  have hbc1 := hN1.lt
  go_wp2_with fail
  refine (l8Base_any bc A n c w1 hN1.lt hN1.byts hN1.apart hN1.cur).mono ?_
  rintro e w2 ⟨E, r, B, cr, L, k, C, cc, x, rfl, hr, hO2, hk, hC2, hg2, hCur2, hFl⟩
  have HFl := hide hFl
  have hN2 := hN1.call hg2 hCur2
  have hT2 := hT1.same (hg2.block _ hT1.lt (fun hk => by injection hk with hk; omega))
  have hB2 := below_draw hB1 hg2 (by omega) hB1.size
  have hlt2 := hT2.lt
  have hbase : w.heap.size + 1 ≤ w1.heap.size := by omega
  have hs12 := hg2.size
  clear hFl hg2 hCur2 hT1 hB1 hT0 hb0 hN1
  have hF3 : Two (w2.alloc (.cells #[.int .i64 E, .slice B r cr] 26)) w2.heap.size (.int .i64 E) (.slice B r cr) := heap_alloc_new w2 _
  have f0 := hF3.cell0
  have f1 := hF3.cell1
  have v0 := hT2.cell0
  have v1 := hT2.cell1
  have q0 := hT2.frozen0
  have q1 := hT2.frozen
  have y := (hT2.set0 (.int .i64 E)).set1 (.slice B r cr)
  have yC := y.below ((Below.refl _ _).alloc (Nat.le_refl _) (.cells #[.int .i64 E, .slice B r cr] 26)) y.lt
  have yC0 := hide yC.cell0
  have yC1 := hide yC.cell1
  have hfar : ∀ {D : Option Addr} {d e b : Nat} {xs : List Int}, Own w2 b D d e xs → w.heap.size + 1 ≤ b → Own (((w2.setCell ⟨w.heap.size, 0, none⟩ (.int .i64 E)).setCell ⟨w.heap.size, 1, none⟩ (.slice B r cr)).alloc (.cells #[.int .i64 E, .slice B r cr] 26)) w.heap.size D d e xs := fun h hb => by
    have hl := fun g hA => row_low (g := g) h hA
    exact (((h.far (fun g hA => by have := hl g hA; simp; omega) _).far (fun g hA => by have := hl g hA; simp; omega) _).alloc _).less (by omega)
  have oB := hide (hfar hO2 hbase)
  have oC := hide (hfar hC2 hbase)
  have bB := hide (((hB2.setCell (p := ⟨w.heap.size, 0, none⟩) (Nat.le_refl _) (.int .i64 E)).setCell (p := ⟨w.heap.size, 1, none⟩) (Nat.le_refl _) (.slice B r cr)).alloc (by simpa [World.setCell] using hB2.size) (.cells #[.int .i64 E, .slice B r cr] 26))
  have hneq : w.heap.size ≠ w2.heap.size := by omega
  clear y yC hF3 hT2 hO2 hC2 hB2 hfar
  go_wp2
  refine bodyPost_ret (v := .tuple #[.agg #[.int .i64 E, .slice B r cr], .slice C k cc]) ?_ rfl ⟨E, r, B, cr, L, k, C, cc, x, rfl, hr, oB.out, hk, oC.out, bB.out, HFl.out⟩
  simp [results, Try.results132, go_sem, yC0.out, yC1.out]
set_option maxHeartbeats 4000000 in
theorem drawTightSets_any (A : Option Addr) (n c : Nat) (w : World) (hB : Byts w A n) :
    Calls Try.prog 34 #[.slice A n c] w fun e w' => CodeFV w w' e := by
  have hT0 : Two (w.alloc (.cells #[.int .i64 0, .slice none 0 0] 26)) w.heap.size (.int .i64 0) (.slice none 0 0) := heap_alloc_new w _
  have hb0 := (Below.refl w.heap.size w).alloc (Nat.le_refl _) (.cells #[.int .i64 0, .slice none 0 0] 26)
  have z0 : (w.alloc (.cells #[.int .i64 0, .slice none 0 0] 26)).heap.size = w.heap.size + 1 := by simp
  go_enter Try.func34, Try.ntmps34
  go_wp2_with fail
  refine (l8Both_any A n c _ (hB.alloc _)).mono ?_
  rintro e w2 ⟨E, r, B, cr, L, k, C, cc, x, rfl, hr, hO2, hk, hC2, hb2, hFl⟩
  have HFl := hide hFl
  have hT2 := hT0.below hb2 (by simp)
  have hB2 := hb0.trans (hb2.mono (by simp))
  have hlt2 := hT2.lt
  have hbase : w.heap.size + 1 ≤ (w.alloc (.cells #[.int .i64 0, .slice none 0 0] 26)).heap.size := by simp
  have hs12 := hb2.size
  clear hFl hT0 hb0 hb2
  have hF3 : Two (w2.alloc (.cells #[.int .i64 E, .slice B r cr] 26)) w2.heap.size (.int .i64 E) (.slice B r cr) := heap_alloc_new w2 _
  have f0 := hF3.cell0
  have f1 := hF3.cell1
  have v0 := hT2.cell0
  have v1 := hT2.cell1
  have q0 := hT2.frozen0
  have q1 := hT2.frozen
  have y := (hT2.set0 (.int .i64 E)).set1 (.slice B r cr)
  have yC := y.below ((Below.refl _ _).alloc (Nat.le_refl _) (.cells #[.int .i64 E, .slice B r cr] 26)) y.lt
  have yC0 := hide yC.cell0
  have yC1 := hide yC.cell1
  have hfar : ∀ {D : Option Addr} {d e b : Nat} {xs : List Int}, Own w2 b D d e xs → w.heap.size + 1 ≤ b → Own (((w2.setCell ⟨w.heap.size, 0, none⟩ (.int .i64 E)).setCell ⟨w.heap.size, 1, none⟩ (.slice B r cr)).alloc (.cells #[.int .i64 E, .slice B r cr] 26)) w.heap.size D d e xs := fun h hb => by
    have hl := fun g hA => row_low (g := g) h hA
    exact (((h.far (fun g hA => by have := hl g hA; simp; omega) _).far (fun g hA => by have := hl g hA; simp; omega) _).alloc _).less (by omega)
  have oB := hide (hfar hO2 hbase)
  have oC := hide (hfar hC2 hbase)
  have bB := hide (((hB2.setCell (p := ⟨w.heap.size, 0, none⟩) (Nat.le_refl _) (.int .i64 E)).setCell (p := ⟨w.heap.size, 1, none⟩) (Nat.le_refl _) (.slice B r cr)).alloc (by simpa [World.setCell] using hB2.size) (.cells #[.int .i64 E, .slice B r cr] 26))
  have hneq : w.heap.size ≠ w2.heap.size := by omega
  clear y yC hF3 hT2 hO2 hC2 hB2 hfar
  go_wp2
  refine bodyPost_ret (v := .tuple #[.agg #[.int .i64 E, .slice B r cr], .slice C k cc]) ?_ rfl ⟨E, r, B, cr, L, k, C, cc, x, rfl, hr, oB.out, hk, oC.out, bB.out, HFl.out⟩
  simp [results, Try.results34, go_sem, yC0.out, yC1.out]
set_option maxHeartbeats 4000000 in
theorem drawCornersOf_any (A : Option Addr) (n c : Nat) (w : World) (hB : Byts w A n) :
    Calls Try.prog 11 #[.slice A n c] w fun e w' => CodeFn w w' e := by
  have hT0 : Two (w.alloc (.cells #[.int .i64 0, .slice none 0 0] 26)) w.heap.size (.int .i64 0) (.slice none 0 0) := heap_alloc_new w _
  have hb0 := (Below.refl w.heap.size w).alloc (Nat.le_refl _) (.cells #[.int .i64 0, .slice none 0 0] 26)
  have z0 : (w.alloc (.cells #[.int .i64 0, .slice none 0 0] 26)).heap.size = w.heap.size + 1 := by simp
  go_enter Try.func11, Try.ntmps11
  go_wp2_with fail
  refine (l8Both_any A n c _ (hB.alloc _)).mono ?_
  rintro e w2 ⟨E, r, B, cr, L, k, C, cc, x, rfl, hr, hO2, hk, hC2, hb2, hFl⟩
  have HFl := hide hFl
  have hT2 := hT0.below hb2 (by simp)
  have hB2 := hb0.trans (hb2.mono (by simp))
  have hlt2 := hT2.lt
  have hbase : w.heap.size + 1 ≤ (w.alloc (.cells #[.int .i64 0, .slice none 0 0] 26)).heap.size := by simp
  have hs12 := hb2.size
  clear hFl hT0 hb0 hb2
  have hF3 : Two (w2.alloc (.cells #[.int .i64 E, .slice B r cr] 26)) w2.heap.size (.int .i64 E) (.slice B r cr) := heap_alloc_new w2 _
  have f0 := hF3.cell0
  have f1 := hF3.cell1
  have v0 := hT2.cell0
  have v1 := hT2.cell1
  have q0 := hT2.frozen0
  have q1 := hT2.frozen
  have y := (hT2.set0 (.int .i64 E)).set1 (.slice B r cr)
  have yC := y.below ((Below.refl _ _).alloc (Nat.le_refl _) (.cells #[.int .i64 E, .slice B r cr] 26)) y.lt
  have yC0 := hide yC.cell0
  have yC1 := hide yC.cell1
  have hfar : ∀ {D : Option Addr} {d e b : Nat} {xs : List Int}, Own w2 b D d e xs → w.heap.size + 1 ≤ b → Own (((w2.setCell ⟨w.heap.size, 0, none⟩ (.int .i64 E)).setCell ⟨w.heap.size, 1, none⟩ (.slice B r cr)).alloc (.cells #[.int .i64 E, .slice B r cr] 26)) w.heap.size D d e xs := fun h hb => by
    have hl := fun g hA => row_low (g := g) h hA
    exact (((h.far (fun g hA => by have := hl g hA; simp; omega) _).far (fun g hA => by have := hl g hA; simp; omega) _).alloc _).less (by omega)
  have oB := hide (hfar hO2 hbase)
  have oC := hide (hfar hC2 hbase)
  have bB := hide (((hB2.setCell (p := ⟨w.heap.size, 0, none⟩) (Nat.le_refl _) (.int .i64 E)).setCell (p := ⟨w.heap.size, 1, none⟩) (Nat.le_refl _) (.slice B r cr)).alloc (by simpa [World.setCell] using hB2.size) (.cells #[.int .i64 E, .slice B r cr] 26))
  have hneq : w.heap.size ≠ w2.heap.size := by omega
  clear y yC hF3 hT2 hO2 hC2 hB2 hfar
  go_wp2
  refine bodyPost_ret (v := .agg #[.int .i64 E, .slice B r cr]) ?_ rfl ⟨E, r, B, cr, L, rfl, hr, oB.out, bB.out⟩
  simp [results, Try.results11, go_sem, yC0.out, yC1.out]
set_option maxHeartbeats 4000000 in
theorem drawCapacityOf_any (A : Option Addr) (n c : Nat) (w : World) (hB : Byts w A n) :
    Calls Try.prog 39 #[.slice A n c] w fun e w' => CodeFVI w w' e := by
  have hT0 : Two (w.alloc (.cells #[.int .i64 0, .slice none 0 0] 26)) w.heap.size (.int .i64 0) (.slice none 0 0) := heap_alloc_new w _
  have hb0 := (Below.refl w.heap.size w).alloc (Nat.le_refl _) (.cells #[.int .i64 0, .slice none 0 0] 26)
  have z0 : (w.alloc (.cells #[.int .i64 0, .slice none 0 0] 26)).heap.size = w.heap.size + 1 := by simp
  go_enter Try.func39, Try.ntmps39
  have hle := hB.1
  go_wp2_with fail
  refine (l8Both_any A n c _ (hB.alloc _)).mono ?_
  rintro e w2 ⟨E, r, B, cr, L, k, C, cc, x, rfl, hr, hO2, hk, hC2, hb2, hFl⟩
  have HFl := hide hFl
  have hT2 := hT0.below hb2 (by simp)
  have hB2 := hb0.trans (hb2.mono (by simp))
  have hlt2 := hT2.lt
  have hbase : w.heap.size + 1 ≤ (w.alloc (.cells #[.int .i64 0, .slice none 0 0] 26)).heap.size := by simp
  have hs12 := hb2.size
  clear hFl hT0 hb0 hb2
  have hF3 : Two (w2.alloc (.cells #[.int .i64 E, .slice B r cr] 26)) w2.heap.size (.int .i64 E) (.slice B r cr) := heap_alloc_new w2 _
  have f0 := hF3.cell0
  have f1 := hF3.cell1
  have v0 := hT2.cell0
  have v1 := hT2.cell1
  have q0 := hT2.frozen0
  have q1 := hT2.frozen
  have y := (hT2.set0 (.int .i64 E)).set1 (.slice B r cr)
  have yC := y.below ((Below.refl _ _).alloc (Nat.le_refl _) (.cells #[.int .i64 E, .slice B r cr] 26)) y.lt
  have yC0 := hide yC.cell0
  have yC1 := hide yC.cell1
  have hfar : ∀ {D : Option Addr} {d e b : Nat} {xs : List Int}, Own w2 b D d e xs → w.heap.size + 1 ≤ b → Own (((w2.setCell ⟨w.heap.size, 0, none⟩ (.int .i64 E)).setCell ⟨w.heap.size, 1, none⟩ (.slice B r cr)).alloc (.cells #[.int .i64 E, .slice B r cr] 26)) w.heap.size D d e xs := fun h hb => by
    have hl := fun g hA => row_low (g := g) h hA
    exact (((h.far (fun g hA => by have := hl g hA; simp; omega) _).far (fun g hA => by have := hl g hA; simp; omega) _).alloc _).less (by omega)
  have oB := hide (hfar hO2 hbase)
  have oC := hide (hfar hC2 hbase)
  have bB := hide (((hB2.setCell (p := ⟨w.heap.size, 0, none⟩) (Nat.le_refl _) (.int .i64 E)).setCell (p := ⟨w.heap.size, 1, none⟩) (Nat.le_refl _) (.slice B r cr)).alloc (by simpa [World.setCell] using hB2.size) (.cells #[.int .i64 E, .slice B r cr] 26))
  have hneq : w.heap.size ≠ w2.heap.size := by omega
  clear y yC hF3 hT2 hO2 hC2 hB2 hfar
  go_wp2
  refine bodyPost_ret (v := .tuple #[.agg #[.int .i64 E, .slice B r cr], .slice C k cc, .int .i64 ((n : Int) % 6 - 1)]) ?_ rfl ⟨E, r, B, cr, L, k, C, cc, x, _, rfl, hr, oB.out, hk, oC.out, bB.out⟩
  simp [results, Try.results39, go_sem, yC0.out, yC1.out]
set_option maxHeartbeats 4000000 in
theorem drawExchangeCapacity_any (A : Option Addr) (n c : Nat) (w : World) (hB : Byts w A n) :
    Calls Try.prog 42 #[.slice A n c] w fun e w' => CodeFVII w w' e := by
  have hT0 : Two (w.alloc (.cells #[.int .i64 0, .slice none 0 0] 26)) w.heap.size (.int .i64 0) (.slice none 0 0) := heap_alloc_new w _
  have hb0 := (Below.refl w.heap.size w).alloc (Nat.le_refl _) (.cells #[.int .i64 0, .slice none 0 0] 26)
  have z0 : (w.alloc (.cells #[.int .i64 0, .slice none 0 0] 26)).heap.size = w.heap.size + 1 := by simp
  go_enter Try.func42, Try.ntmps42
  have hle := hB.1
  go_wp2_with fail
  refine (l8Both_any A n c _ (hB.alloc _)).mono ?_
  rintro e w2 ⟨E, r, B, cr, L, k, C, cc, x, rfl, hr, hO2, hk, hC2, hb2, hFl⟩
  have HFl := hide hFl
  have hT2 := hT0.below hb2 (by simp)
  have hB2 := hb0.trans (hb2.mono (by simp))
  have hlt2 := hT2.lt
  have hbase : w.heap.size + 1 ≤ (w.alloc (.cells #[.int .i64 0, .slice none 0 0] 26)).heap.size := by simp
  have hs12 := hb2.size
  clear hFl hT0 hb0 hb2
  have hF3 : Two (w2.alloc (.cells #[.int .i64 E, .slice B r cr] 26)) w2.heap.size (.int .i64 E) (.slice B r cr) := heap_alloc_new w2 _
  have f0 := hF3.cell0
  have f1 := hF3.cell1
  have v0 := hT2.cell0
  have v1 := hT2.cell1
  have q0 := hT2.frozen0
  have q1 := hT2.frozen
  have y := (hT2.set0 (.int .i64 E)).set1 (.slice B r cr)
  have yC := y.below ((Below.refl _ _).alloc (Nat.le_refl _) (.cells #[.int .i64 E, .slice B r cr] 26)) y.lt
  have yC0 := hide yC.cell0
  have yC1 := hide yC.cell1
  have hfar : ∀ {D : Option Addr} {d e b : Nat} {xs : List Int}, Own w2 b D d e xs → w.heap.size + 1 ≤ b → Own (((w2.setCell ⟨w.heap.size, 0, none⟩ (.int .i64 E)).setCell ⟨w.heap.size, 1, none⟩ (.slice B r cr)).alloc (.cells #[.int .i64 E, .slice B r cr] 26)) w.heap.size D d e xs := fun h hb => by
    have hl := fun g hA => row_low (g := g) h hA
    exact (((h.far (fun g hA => by have := hl g hA; simp; omega) _).far (fun g hA => by have := hl g hA; simp; omega) _).alloc _).less (by omega)
  have oB := hide (hfar hO2 hbase)
  have oC := hide (hfar hC2 hbase)
  have bB := hide (((hB2.setCell (p := ⟨w.heap.size, 0, none⟩) (Nat.le_refl _) (.int .i64 E)).setCell (p := ⟨w.heap.size, 1, none⟩) (Nat.le_refl _) (.slice B r cr)).alloc (by simpa [World.setCell] using hB2.size) (.cells #[.int .i64 E, .slice B r cr] 26))
  have hneq : w.heap.size ≠ w2.heap.size := by omega
  clear y yC hF3 hT2 hO2 hC2 hB2 hfar
  go_wp2
  refine bodyPost_ret (v := .tuple #[.agg #[.int .i64 E, .slice B r cr], .slice C k cc, .int .i64 ((n : Int) % 5), .int .i64 ((n : Int) % 3 + (n : Int) % 2)]) ?_ rfl ⟨E, r, B, cr, L, k, C, cc, x, _, _, rfl, hr, oB.out, hk, oC.out, bB.out⟩
  simp [results, Try.results42, go_sem, yC0.out, yC1.out]
set_option maxHeartbeats 4000000 in
theorem l9Draw_any (A : Option Addr) (n c : Nat) (w : World) (hB : Byts w A n) :
    Calls Try.prog 173 #[.slice A n c] w fun e w' => CodeFV w w' e := by
  have hT0 : Two (w.alloc (.cells #[.int .i64 0, .slice none 0 0] 26)) w.heap.size (.int .i64 0) (.slice none 0 0) := heap_alloc_new w _
  have hb0 := (Below.refl w.heap.size w).alloc (Nat.le_refl _) (.cells #[.int .i64 0, .slice none 0 0] 26)
  have z0 : (w.alloc (.cells #[.int .i64 0, .slice none 0 0] 26)).heap.size = w.heap.size + 1 := by simp
  go_enter Try.func173, Try.ntmps173
  go_wp2_with fail
  refine (begin_any A n c _ (hB.alloc _)).mono ?_
  rintro e w1 ⟨bc, rfl, hN1⟩
  have hnew := hN1.new
  rw [z0] at hnew
  have hT1 := hT0.below hN1.below (by simp)
  have hB1 := hb0.trans (hN1.below.mono (by simp))
  have hlt1 := hT1.lt
  have hbc1 := hN1.lt
  go_wp2_with fail
  refine (l8Base_any bc A n c w1 hN1.lt hN1.byts hN1.apart hN1.cur).mono ?_
  rintro e w2 ⟨E, r, B, cr, L, k, C, cc, x, rfl, hr, hO2, hk, hC2, hg2, hCur2, hFl⟩
  have HFl := hide hFl
  have hN2 := hN1.call hg2 hCur2
  have hT2 := hT1.same (hg2.block _ hT1.lt (fun hk => by injection hk with hk; omega))
  have hB2 := below_draw hB1 hg2 (by omega) hB1.size
  have hlt2 := hT2.lt
  have hbase : w.heap.size + 1 ≤ w1.heap.size := by omega
  have hs12 := hg2.size
  clear hFl hg2 hCur2 hT1 hB1 hT0 hb0 hN1
  have hm5 := mn5_if E
  have hc5 := cl5_if E
  have hO2' := hO2.less (B' := bc + 1) (by omega)
  have hF3 : Two (w2.alloc (.cells #[.int .i64 E, .slice B r cr] 26)) w2.heap.size (.int .i64 E) (.slice B r cr) := heap_alloc_new w2 _
  have hN3 := (hN2.alloc (.cells #[.int .i64 E, .slice B r cr] 26))
  have hT3 := hT2.below ((Below.refl w2.heap.size w2).alloc (Nat.le_refl _) (.cells #[.int .i64 E, .slice B r cr] 26)) hlt2
  have hO3 := hO2'.alloc (.cells #[.int .i64 E, .slice B r cr] 26)
  have hB3 := hB2.alloc hB2.size (.cells #[.int .i64 E, .slice B r cr] 26)
  have hwb : w.heap.size < w2.heap.size := by omega
  have hbcb : bc < w2.heap.size := by omega
  obtain ⟨b2, hb2⟩ : ∃ b2, b2 = w2.heap.size := ⟨_, rfl⟩
  obtain ⟨w3, hw3⟩ : ∃ w3, w3 = w2.alloc (.cells #[.int .i64 E, .slice B r cr] 26) := ⟨_, rfl⟩
  rw [← hw3] at hN3 hF3 hT3 hO3 hB3
  rw [← hb2] at hF3 hwb hbcb
  have HW := hide (And.intro hw3 hb2)
  clear hT2 hO2 hO2' hN2 hB2
  have f0 := hF3.cell0
  have f1 := hF3.cell1
  have hN4 := hN3.drew
  have hB4 := hB3.drew
  have hF4 : Two w3.drew b2 (.int .i64 E) (.slice B r cr) := hF3
  have hT4 : Two w3.drew w.heap.size (.int .i64 0) (.slice none 0 0) := hT3
  have hO4 : Own w3.drew (bc + 1) B r cr L := hO3
  go_wp2
  rw [← HW.out.1, ← HW.out.2]
  clear HW hw3 hb2
  go_region_held3 (fun w' => w'.cell? ⟨b2, 0, none⟩ = some (.int .i64 E) ∧ w'.cell? ⟨b2, 1, none⟩ = some (.slice B r cr))
    (first
      | go_keep
      | exact ⟨hF5.cell0, hF5.cell1⟩
      | exact ⟨((hF5.far (p := ⟨w.heap.size, 0, none⟩) (by simp; omega) _).far (p := ⟨w.heap.size, 1, none⟩) (by simp; omega) _).cell0, ((hF5.far (p := ⟨w.heap.size, 0, none⟩) (by simp; omega) _).far (p := ⟨w.heap.size, 1, none⟩) (by simp; omega) _).cell1⟩
      | fail)
    (first
      | (go_at_call 171; refine (l7Draw_int bc A n c _ _ (cl5_bd E).1 (by have := (cl5_bd E).2; omega) hN4.lt hN4.byts hN4.apart hN4.cur).mono ?_; rintro e w5 ⟨k9, C9, c9, x9, rfl, hk9, hO9, hg9, hC9⟩; have hF5 := hF4.same (hg9.block b2 hF4.lt (fun hk => by injection hk with hk; omega)); have hT5 := hT4.same (hg9.block _ hT4.lt (fun hk => by injection hk with hk; omega)); have v2 := hT5.cell0; have v3 := hT5.cell1; have q2 := hT5.frozen0; have q3 := hT5.frozen; have f6 := hF5.cell0; have f7 := hF5.cell1)
      | fail)
  have hO5 := own_call hO4 hg9 (by omega)
  have hO9' := hO9.less (B' := bc + 1) (by have := hN4.lt; omega)
  have hB5 := below_draw hB4 hg9 (by omega) hB4.size
  have y' := (hT5.set0 (.int .i64 E)).set1 (.slice B r cr)
  have y0 := y'.cell0
  have y1 := y'.cell1
  go_wp2
  have hfar : ∀ {W : World} {D : Option Addr} {d e : Nat} {xs : List Int}, Own W (bc + 1) D d e xs → Own ((W.setCell ⟨w.heap.size, 0, none⟩ (.int .i64 E)).setCell ⟨w.heap.size, 1, none⟩ (.slice B r cr)) w.heap.size D d e xs := fun h => by
    have hl := fun g hA => row_low (g := g) h hA
    exact ((h.far (fun g hA => by have := hl g hA; simp; omega) _).far (fun g hA => by have := hl g hA; simp; omega) _).less (by omega)
  have hbl := (hB5.setCell (p := ⟨w.heap.size, 0, none⟩) (Nat.le_refl _) (.int .i64 E)).setCell (p := ⟨w.heap.size, 1, none⟩) (Nat.le_refl _) (.slice B r cr)
  exact bodyPost_ret (v := .tuple #[.agg #[.int .i64 E, .slice B r cr], .slice C9 k9 c9]) (by simp [results, Try.results173, go_sem, y0, y1]) rfl ⟨E, r, B, cr, L, k9, C9, c9, x9, rfl, hr, hfar hO5, hk9, hfar hO9', hbl, HFl.out⟩
set_option maxHeartbeats 4000000 in
theorem drawMaximumFor_any (A : Option Addr) (n c : Nat) (w : World) (hB : Byts w A n) :
    Calls Try.prog 67 #[.slice A n c] w fun e w' => CodeFV w w' e := by
  have hT0 : Two (w.alloc (.cells #[.int .i64 0, .slice none 0 0] 26)) w.heap.size (.int .i64 0) (.slice none 0 0) := heap_alloc_new w _
  have hb0 := (Below.refl w.heap.size w).alloc (Nat.le_refl _) (.cells #[.int .i64 0, .slice none 0 0] 26)
  have z0 : (w.alloc (.cells #[.int .i64 0, .slice none 0 0] 26)).heap.size = w.heap.size + 1 := by simp
  go_enter Try.func67, Try.ntmps67
  go_wp2_with fail
  refine (l9Draw_any A n c _ (hB.alloc _)).mono ?_
  rintro e w2 ⟨E, r, B, cr, L, k, C, cc, x, rfl, hr, hO2, hk, hC2, hb2, hFl⟩
  have HFl := hide hFl
  have hT2 := hT0.below hb2 (by simp)
  have hB2 := hb0.trans (hb2.mono (by simp))
  have hlt2 := hT2.lt
  have hbase : w.heap.size + 1 ≤ (w.alloc (.cells #[.int .i64 0, .slice none 0 0] 26)).heap.size := by simp
  have hs12 := hb2.size
  clear hFl hT0 hb0 hb2
  have hF3 : Two (w2.alloc (.cells #[.int .i64 E, .slice B r cr] 26)) w2.heap.size (.int .i64 E) (.slice B r cr) := heap_alloc_new w2 _
  have f0 := hF3.cell0
  have f1 := hF3.cell1
  have v0 := hT2.cell0
  have v1 := hT2.cell1
  have q0 := hT2.frozen0
  have q1 := hT2.frozen
  have y := (hT2.set0 (.int .i64 E)).set1 (.slice B r cr)
  have yC := y.below ((Below.refl _ _).alloc (Nat.le_refl _) (.cells #[.int .i64 E, .slice B r cr] 26)) y.lt
  have yC0 := hide yC.cell0
  have yC1 := hide yC.cell1
  have hfar : ∀ {D : Option Addr} {d e b : Nat} {xs : List Int}, Own w2 b D d e xs → w.heap.size + 1 ≤ b → Own (((w2.setCell ⟨w.heap.size, 0, none⟩ (.int .i64 E)).setCell ⟨w.heap.size, 1, none⟩ (.slice B r cr)).alloc (.cells #[.int .i64 E, .slice B r cr] 26)) w.heap.size D d e xs := fun h hb => by
    have hl := fun g hA => row_low (g := g) h hA
    exact (((h.far (fun g hA => by have := hl g hA; simp; omega) _).far (fun g hA => by have := hl g hA; simp; omega) _).alloc _).less (by omega)
  have oB := hide (hfar hO2 hbase)
  have oC := hide (hfar hC2 hbase)
  have bB := hide (((hB2.setCell (p := ⟨w.heap.size, 0, none⟩) (Nat.le_refl _) (.int .i64 E)).setCell (p := ⟨w.heap.size, 1, none⟩) (Nat.le_refl _) (.slice B r cr)).alloc (by simpa [World.setCell] using hB2.size) (.cells #[.int .i64 E, .slice B r cr] 26))
  have hneq : w.heap.size ≠ w2.heap.size := by omega
  clear y yC hF3 hT2 hO2 hC2 hB2 hfar
  go_wp2
  refine bodyPost_ret (v := .tuple #[.agg #[.int .i64 E, .slice B r cr], .slice C k cc]) ?_ rfl ⟨E, r, B, cr, L, k, C, cc, x, rfl, hr, oB.out, hk, oC.out, bB.out, HFl.out⟩
  simp [results, Try.results67, go_sem, yC0.out, yC1.out]
set_option maxHeartbeats 4000000 in
theorem drawRankOfVector_any (A : Option Addr) (n c : Nat) (w : World) (hB : Byts w A n) :
    Calls Try.prog 52 #[.slice A n c] w fun e w' => CodeFV w w' e := by
  have hT0 : Two (w.alloc (.cells #[.int .i64 0, .slice none 0 0] 26)) w.heap.size (.int .i64 0) (.slice none 0 0) := heap_alloc_new w _
  have hb0 := (Below.refl w.heap.size w).alloc (Nat.le_refl _) (.cells #[.int .i64 0, .slice none 0 0] 26)
  have z0 : (w.alloc (.cells #[.int .i64 0, .slice none 0 0] 26)).heap.size = w.heap.size + 1 := by simp
  go_enter Try.func52, Try.ntmps52
  go_wp2_with fail
  refine (l9Draw_any A n c _ (hB.alloc _)).mono ?_
  rintro e w2 ⟨E, r, B, cr, L, k, C, cc, x, rfl, hr, hO2, hk, hC2, hb2, hFl⟩
  have HFl := hide hFl
  have hT2 := hT0.below hb2 (by simp)
  have hB2 := hb0.trans (hb2.mono (by simp))
  have hlt2 := hT2.lt
  have hbase : w.heap.size + 1 ≤ (w.alloc (.cells #[.int .i64 0, .slice none 0 0] 26)).heap.size := by simp
  have hs12 := hb2.size
  clear hFl hT0 hb0 hb2
  have hF3 : Two (w2.alloc (.cells #[.int .i64 E, .slice B r cr] 26)) w2.heap.size (.int .i64 E) (.slice B r cr) := heap_alloc_new w2 _
  have f0 := hF3.cell0
  have f1 := hF3.cell1
  have v0 := hT2.cell0
  have v1 := hT2.cell1
  have q0 := hT2.frozen0
  have q1 := hT2.frozen
  have y := (hT2.set0 (.int .i64 E)).set1 (.slice B r cr)
  have yC := y.below ((Below.refl _ _).alloc (Nat.le_refl _) (.cells #[.int .i64 E, .slice B r cr] 26)) y.lt
  have yC0 := hide yC.cell0
  have yC1 := hide yC.cell1
  have hfar : ∀ {D : Option Addr} {d e b : Nat} {xs : List Int}, Own w2 b D d e xs → w.heap.size + 1 ≤ b → Own (((w2.setCell ⟨w.heap.size, 0, none⟩ (.int .i64 E)).setCell ⟨w.heap.size, 1, none⟩ (.slice B r cr)).alloc (.cells #[.int .i64 E, .slice B r cr] 26)) w.heap.size D d e xs := fun h hb => by
    have hl := fun g hA => row_low (g := g) h hA
    exact (((h.far (fun g hA => by have := hl g hA; simp; omega) _).far (fun g hA => by have := hl g hA; simp; omega) _).alloc _).less (by omega)
  have oB := hide (hfar hO2 hbase)
  have oC := hide (hfar hC2 hbase)
  have bB := hide (((hB2.setCell (p := ⟨w.heap.size, 0, none⟩) (Nat.le_refl _) (.int .i64 E)).setCell (p := ⟨w.heap.size, 1, none⟩) (Nat.le_refl _) (.slice B r cr)).alloc (by simpa [World.setCell] using hB2.size) (.cells #[.int .i64 E, .slice B r cr] 26))
  have hneq : w.heap.size ≠ w2.heap.size := by omega
  clear y yC hF3 hT2 hO2 hC2 hB2 hfar
  go_wp2
  refine bodyPost_ret (v := .tuple #[.agg #[.int .i64 E, .slice B r cr], .slice C k cc]) ?_ rfl ⟨E, r, B, cr, L, k, C, cc, x, rfl, hr, oB.out, hk, oC.out, bB.out, HFl.out⟩
  simp [results, Try.results52, go_sem, yC0.out, yC1.out]
set_option maxHeartbeats 4000000 in
theorem drawExtensionAt_any (A : Option Addr) (n c : Nat) (w : World) (hB : Byts w A n) :
    Calls Try.prog 59 #[.slice A n c] w fun e w' => CodeFV w w' e := by
  have hT0 : Two (w.alloc (.cells #[.int .i64 0, .slice none 0 0] 26)) w.heap.size (.int .i64 0) (.slice none 0 0) := heap_alloc_new w _
  have hb0 := (Below.refl w.heap.size w).alloc (Nat.le_refl _) (.cells #[.int .i64 0, .slice none 0 0] 26)
  have z0 : (w.alloc (.cells #[.int .i64 0, .slice none 0 0] 26)).heap.size = w.heap.size + 1 := by simp
  go_enter Try.func59, Try.ntmps59
  go_wp2_with fail
  refine (begin_any A n c _ (hB.alloc _)).mono ?_
  rintro e w1 ⟨bc, rfl, hN1⟩
  have hnew := hN1.new
  rw [z0] at hnew
  have hT1 := hT0.below hN1.below (by simp)
  have hB1 := hb0.trans (hN1.below.mono (by simp))
  have hlt1 := hT1.lt
  have hbc1 := hN1.lt
  go_wp2_with fail
  refine (l2AnyT_any bc A n c w1 hN1.lt hN1.byts hN1.apart hN1.cur).mono ?_
  rintro e w2 ⟨E, r, B, cr, L, rfl, hr, hO2, hg2, hCur2, hFl⟩
  have HFl := hide hFl.flat
  have hN2 := hN1.call hg2 hCur2
  have hT2 := hT1.same (hg2.block _ hT1.lt (fun hk => by injection hk with hk; omega))
  have hB2 := below_draw hB1 hg2 (by omega) hB1.size
  have hlt2 := hT2.lt
  have hbase : w.heap.size + 1 ≤ w1.heap.size := by omega
  have hs12 := hg2.size
  clear hFl hg2 hCur2 hT1 hB1 hT0 hb0 hN1
  have hm5 := mn5_if E
  have hc5 := cl5_if E
  have hO2' := hO2.less (B' := bc + 1) (by omega)
  have hF3 : Two (w2.alloc (.cells #[.int .i64 E, .slice B r cr] 26)) w2.heap.size (.int .i64 E) (.slice B r cr) := heap_alloc_new w2 _
  have hN3 := (hN2.alloc (.cells #[.int .i64 E, .slice B r cr] 26))
  have hT3 := hT2.below ((Below.refl w2.heap.size w2).alloc (Nat.le_refl _) (.cells #[.int .i64 E, .slice B r cr] 26)) hlt2
  have hO3 := hO2'.alloc (.cells #[.int .i64 E, .slice B r cr] 26)
  have hB3 := hB2.alloc hB2.size (.cells #[.int .i64 E, .slice B r cr] 26)
  have hwb : w.heap.size < w2.heap.size := by omega
  have hbcb : bc < w2.heap.size := by omega
  obtain ⟨b2, hb2⟩ : ∃ b2, b2 = w2.heap.size := ⟨_, rfl⟩
  obtain ⟨w3, hw3⟩ : ∃ w3, w3 = w2.alloc (.cells #[.int .i64 E, .slice B r cr] 26) := ⟨_, rfl⟩
  rw [← hw3] at hN3 hF3 hT3 hO3 hB3
  rw [← hb2] at hF3 hwb hbcb
  have HW := hide (And.intro hw3 hb2)
  clear hT2 hO2 hO2' hN2 hB2
  have f0 := hF3.cell0
  have f1 := hF3.cell1
  have hN4 := hN3.drew
  have hB4 := hB3.drew
  have hF4 : Two w3.drew b2 (.int .i64 E) (.slice B r cr) := hF3
  have hT4 : Two w3.drew w.heap.size (.int .i64 0) (.slice none 0 0) := hT3
  have hO4 : Own w3.drew (bc + 1) B r cr L := hO3
  go_wp2
  rw [← HW.out.1, ← HW.out.2]
  clear HW hw3 hb2
  go_region_held3 (fun w' => w'.cell? ⟨b2, 0, none⟩ = some (.int .i64 E) ∧ w'.cell? ⟨b2, 1, none⟩ = some (.slice B r cr))
    (first
      | go_keep
      | exact ⟨hF5.cell0, hF5.cell1⟩
      | exact ⟨((hF5.far (p := ⟨w.heap.size, 0, none⟩) (by simp; omega) _).far (p := ⟨w.heap.size, 1, none⟩) (by simp; omega) _).cell0, ((hF5.far (p := ⟨w.heap.size, 0, none⟩) (by simp; omega) _).far (p := ⟨w.heap.size, 1, none⟩) (by simp; omega) _).cell1⟩
      | fail)
    (first
      | (go_at_call 171; refine (l7Draw_int bc A n c _ _ (cl5_bd E).1 (by have := (cl5_bd E).2; omega) hN4.lt hN4.byts hN4.apart hN4.cur).mono ?_; rintro e w5 ⟨k9, C9, c9, x9, rfl, hk9, hO9, hg9, hC9⟩; have hF5 := hF4.same (hg9.block b2 hF4.lt (fun hk => by injection hk with hk; omega)); have hT5 := hT4.same (hg9.block _ hT4.lt (fun hk => by injection hk with hk; omega)); have v2 := hT5.cell0; have v3 := hT5.cell1; have q2 := hT5.frozen0; have q3 := hT5.frozen; have f6 := hF5.cell0; have f7 := hF5.cell1)
      | fail)
  have hO5 := own_call hO4 hg9 (by omega)
  have hO9' := hO9.less (B' := bc + 1) (by have := hN4.lt; omega)
  have hB5 := below_draw hB4 hg9 (by omega) hB4.size
  have y' := (hT5.set0 (.int .i64 E)).set1 (.slice B r cr)
  have y0 := y'.cell0
  have y1 := y'.cell1
  go_wp2
  have hfar : ∀ {W : World} {D : Option Addr} {d e : Nat} {xs : List Int}, Own W (bc + 1) D d e xs → Own ((W.setCell ⟨w.heap.size, 0, none⟩ (.int .i64 E)).setCell ⟨w.heap.size, 1, none⟩ (.slice B r cr)) w.heap.size D d e xs := fun h => by
    have hl := fun g hA => row_low (g := g) h hA
    exact ((h.far (fun g hA => by have := hl g hA; simp; omega) _).far (fun g hA => by have := hl g hA; simp; omega) _).less (by omega)
  have hbl := (hB5.setCell (p := ⟨w.heap.size, 0, none⟩) (Nat.le_refl _) (.int .i64 E)).setCell (p := ⟨w.heap.size, 1, none⟩) (Nat.le_refl _) (.slice B r cr)
  exact bodyPost_ret (v := .tuple #[.agg #[.int .i64 E, .slice B r cr], .slice C9 k9 c9]) (by simp [results, Try.results59, go_sem, y0, y1]) rfl ⟨E, r, B, cr, L, k9, C9, c9, x9, rfl, by omega, hfar hO5, hk9, hfar hO9', hbl, HFl.out⟩
set_option maxHeartbeats 4000000 in
theorem drawRaiseVector_any (A : Option Addr) (n c : Nat) (w : World) (hB : Byts w A n) :
    Calls Try.prog 48 #[.slice A n c] w fun e w' => CodeFVV w w' e := by
  have hT0 : Two (w.alloc (.cells #[.int .i64 0, .slice none 0 0] 26)) w.heap.size (.int .i64 0) (.slice none 0 0) := heap_alloc_new w _
  have hb0 := (Below.refl w.heap.size w).alloc (Nat.le_refl _) (.cells #[.int .i64 0, .slice none 0 0] 26)
  have z0 : (w.alloc (.cells #[.int .i64 0, .slice none 0 0] 26)).heap.size = w.heap.size + 1 := by simp
  go_enter Try.func48, Try.ntmps48
  go_wp2_with fail
  refine (begin_any A n c _ (hB.alloc _)).mono ?_
  rintro e w1 ⟨bc, rfl, hN1⟩
  have hnew := hN1.new
  rw [z0] at hnew
  have hT1 := hT0.below hN1.below (by simp)
  have hB1 := hb0.trans (hN1.below.mono (by simp))
  have hlt1 := hT1.lt
  have hbc1 := hN1.lt
  go_wp2_with fail
  refine (l8Base_any bc A n c w1 hN1.lt hN1.byts hN1.apart hN1.cur).mono ?_
  rintro e w2 ⟨E, r, B, cr, L, k, C, cc, x, rfl, hr, hO2, hk, hC2, hg2, hCur2, hFl⟩
  have HFl := hide hFl
  have hN2 := hN1.call hg2 hCur2
  have hT2 := hT1.same (hg2.block _ hT1.lt (fun hk => by injection hk with hk; omega))
  have hB2 := below_draw hB1 hg2 (by omega) hB1.size
  have hlt2 := hT2.lt
  have hbase : w.heap.size + 1 ≤ w1.heap.size := by omega
  have hs12 := hg2.size
  clear hFl hg2 hCur2 hT1 hB1 hT0 hb0 hN1
  have hC2' := hC2.less (B' := bc + 1) (by omega)
  have hC3 := hC2'.alloc (.cells #[.int .i64 E, .slice B r cr] 26)
  have hm5 := mn5_if E
  have hc5 := cl5_if E
  have hO2' := hO2.less (B' := bc + 1) (by omega)
  have hF3 : Two (w2.alloc (.cells #[.int .i64 E, .slice B r cr] 26)) w2.heap.size (.int .i64 E) (.slice B r cr) := heap_alloc_new w2 _
  have hN3 := (hN2.alloc (.cells #[.int .i64 E, .slice B r cr] 26))
  have hT3 := hT2.below ((Below.refl w2.heap.size w2).alloc (Nat.le_refl _) (.cells #[.int .i64 E, .slice B r cr] 26)) hlt2
  have hO3 := hO2'.alloc (.cells #[.int .i64 E, .slice B r cr] 26)
  have hB3 := hB2.alloc hB2.size (.cells #[.int .i64 E, .slice B r cr] 26)
  have hwb : w.heap.size < w2.heap.size := by omega
  have hbcb : bc < w2.heap.size := by omega
  obtain ⟨b2, hb2⟩ : ∃ b2, b2 = w2.heap.size := ⟨_, rfl⟩
  obtain ⟨w3, hw3⟩ : ∃ w3, w3 = w2.alloc (.cells #[.int .i64 E, .slice B r cr] 26) := ⟨_, rfl⟩
  rw [← hw3] at hC3 hN3 hF3 hT3 hO3 hB3
  rw [← hb2] at hF3 hwb hbcb
  have HW := hide (And.intro hw3 hb2)
  clear hC2 hC2' hT2 hO2 hO2' hN2 hB2
  have f0 := hF3.cell0
  have f1 := hF3.cell1
  have hN4 := hN3.drew
  have hB4 := hB3.drew
  have hF4 : Two w3.drew b2 (.int .i64 E) (.slice B r cr) := hF3
  have hT4 : Two w3.drew w.heap.size (.int .i64 0) (.slice none 0 0) := hT3
  have hO4 : Own w3.drew (bc + 1) B r cr L := hO3
  have hC4 : Own w3.drew (bc + 1) C k cc x := hC3
  go_wp2
  rw [← HW.out.1, ← HW.out.2]
  clear HW hw3 hb2
  go_region_held3 (fun w' => w'.cell? ⟨b2, 0, none⟩ = some (.int .i64 E) ∧ w'.cell? ⟨b2, 1, none⟩ = some (.slice B r cr))
    (first
      | go_keep
      | exact ⟨hF5.cell0, hF5.cell1⟩
      | exact ⟨((hF5.far (p := ⟨w.heap.size, 0, none⟩) (by simp; omega) _).far (p := ⟨w.heap.size, 1, none⟩) (by simp; omega) _).cell0, ((hF5.far (p := ⟨w.heap.size, 0, none⟩) (by simp; omega) _).far (p := ⟨w.heap.size, 1, none⟩) (by simp; omega) _).cell1⟩
      | fail)
    (first
      | (go_at_call 171; refine (l7Draw_any bc A n c k _ hk hN4.lt hN4.byts hN4.apart hN4.cur).mono ?_; rintro e w5 ⟨C9, c9, x9, rfl, hO9, hg9, hC9⟩; have hF5 := hF4.same (hg9.block b2 hF4.lt (fun hk => by injection hk with hk; omega)); have hT5 := hT4.same (hg9.block _ hT4.lt (fun hk => by injection hk with hk; omega)); have v2 := hT5.cell0; have v3 := hT5.cell1; have q2 := hT5.frozen0; have q3 := hT5.frozen; have f6 := hF5.cell0; have f7 := hF5.cell1)
      | fail)
  have hO5 := own_call hO4 hg9 (by omega)
  have hO9' := hO9.less (B' := bc + 1) (by have := hN4.lt; omega)
  have hB5 := below_draw hB4 hg9 (by omega) hB4.size
  have hC5 := own_call hC4 hg9 (by omega)
  have y' := (hT5.set0 (.int .i64 E)).set1 (.slice B r cr)
  have y0 := y'.cell0
  have y1 := y'.cell1
  go_wp2
  have hfar : ∀ {W : World} {D : Option Addr} {d e : Nat} {xs : List Int}, Own W (bc + 1) D d e xs → Own ((W.setCell ⟨w.heap.size, 0, none⟩ (.int .i64 E)).setCell ⟨w.heap.size, 1, none⟩ (.slice B r cr)) w.heap.size D d e xs := fun h => by
    have hl := fun g hA => row_low (g := g) h hA
    exact ((h.far (fun g hA => by have := hl g hA; simp; omega) _).far (fun g hA => by have := hl g hA; simp; omega) _).less (by omega)
  have hbl := (hB5.setCell (p := ⟨w.heap.size, 0, none⟩) (Nat.le_refl _) (.int .i64 E)).setCell (p := ⟨w.heap.size, 1, none⟩) (Nat.le_refl _) (.slice B r cr)
  exact bodyPost_ret (v := .tuple #[.agg #[.int .i64 E, .slice B r cr], .slice C k cc, .slice C9 k c9]) (by simp [results, Try.results48, go_sem, y0, y1]) rfl ⟨E, r, B, cr, L, k, C, cc, x, k, C9, c9, x9, rfl, hr, hfar hO5, hk, hfar hC5, hk, hfar hO9', hbl⟩
end Go.Proofs.Ytokeejachclpeaa
