/-
  Walks: a function with its dual vector drawn, a function with an order drawn.
-/
import Derived.Test.YtokeejachclpeaaDrawE
import Derived.Test.YtokeejachclpeaaCapM
import Derived.Deep.RegionHeld3
namespace Go.Proofs.Ytokeejachclpeaa
open Go.RowKit

/-- A function and a vector that were drawn from a code, in new memory; nothing old has turned. -/
def CodeFVx (w w' : World) (e : Ending) : Prop :=
  ∃ (E : Int) (r : Nat) (B : Option Addr) (cr : Nat) (L : List Int) (k : Nat) (C : Option Addr) (cc : Nat) (x : List Int), e = .returned (.tuple #[.agg #[.int .i64 E, .slice B r cr], .slice C k cc]) ∧ r ≤ 32 ∧ Own w' w.heap.size B r cr L ∧ Own w' w.heap.size C k cc x ∧ Below w.heap.size w w'
set_option maxHeartbeats 4000000 in
theorem drawIsDualVector_any (A : Option Addr) (n c : Nat) (w : World) (hB : Byts w A n) :
    Calls Try.prog 51 #[.slice A n c] w fun e w' => CodeFVx w w' e := by
  have hT0 : Two (w.alloc (.cells #[.int .i64 0, .slice none 0 0] 26)) w.heap.size (.int .i64 0) (.slice none 0 0) := heap_alloc_new w _
  have hb0 := (Below.refl w.heap.size w).alloc (Nat.le_refl _) (.cells #[.int .i64 0, .slice none 0 0] 26)
  have z0 : (w.alloc (.cells #[.int .i64 0, .slice none 0 0] 26)).heap.size = w.heap.size + 1 := by simp
  go_enter Try.func51, Try.ntmps51
  go_wp2_with fail
  refine (l8Both_any A n c _ (hB.alloc _)).mono ?_
  rintro e w2 ⟨E, r, B, cr, L, k, C, cc, x, rfl, hr, hO2, hk, hC2, hb2, hFl⟩
  have HFl := hide hFl
  have hT2 := hT0.below hb2 (by simp)
  have hB2 := hb0.trans (hb2.mono (by simp))
  have hlt2 := hT2.lt
  have hbase : w.heap.size + 1 ≤ (w.alloc (.cells #[.int .i64 0, .slice none 0 0] 26)).heap.size := by simp
  have hs12 := hb2.size
  clear hFl hT0 hb0 hb2
  have hF3 : Two (w2.alloc (.cells #[.int .i64 E, .slice B r cr] 26)) w2.heap.size (.int .i64 E) (.slice B r cr) := heap_alloc_new w2 _
  have hT3 := hT2.below ((Below.refl w2.heap.size w2).alloc (Nat.le_refl _) (.cells #[.int .i64 E, .slice B r cr] 26)) hlt2
  have hO3 := hO2.alloc (.cells #[.int .i64 E, .slice B r cr] 26)
  have hC3 := hC2.alloc (.cells #[.int .i64 E, .slice B r cr] 26)
  have hB3 := hB2.alloc hB2.size (.cells #[.int .i64 E, .slice B r cr] 26)
  obtain ⟨b2, hb2⟩ : ∃ b2, b2 = w2.heap.size := ⟨_, rfl⟩
  obtain ⟨w3, hw3⟩ : ∃ w3, w3 = w2.alloc (.cells #[.int .i64 E, .slice B r cr] 26) := ⟨_, rfl⟩
  rw [← hw3] at hF3 hT3 hO3 hC3 hB3
  rw [← hb2] at hF3
  have HW := hide (And.intro hw3 hb2)
  have f0 := hF3.cell0
  have f1 := hF3.cell1
  have hle := hB.1
  clear hT2 hO2 hC2 hB2 hw3 hb2
  go_wp2_with fail
  rw [← HW.out.1, ← HW.out.2]
  refine (specDualVector_any E B r cr L w3 hO3.ints).mono ?_
  rintro e w5 ⟨D, rd, cd, rfl, hD5, hrd, hb5⟩
  have hF5 := hF3.below hb5 hF3.lt
  have hT5 := hT3.below hb5 hT3.lt
  have hO5 := hO3.below hb5 (Nat.le_refl _)
  have hC5 := hC3.below hb5 (Nat.le_refl _)
  have hB5 := hB3.trans (hb5.mono hB3.size)
  have hs3 := hT3.lt
  clear f0 f1 hF3 hT3 hO3 hC3 hB3 hb5 HW
  cases hdv : dvOk E L
  · clear hdv hD5
    have f0 := hF5.cell0
    have f1 := hF5.cell1
    have v0 := hT5.cell0
    have v1 := hT5.cell1
    have q0 := hT5.frozen0
    have q1 := hT5.frozen
    have y := (hT5.set0 (.int .i64 E)).set1 (.slice B r cr)
    have y0 := y.cell0
    have y1 := y.cell1
    have hfar : ∀ {W : World} {D : Option Addr} {d e b : Nat} {xs : List Int}, Own W b D d e xs → w.heap.size + 1 ≤ b → Own ((W.setCell ⟨w.heap.size, 0, none⟩ (.int .i64 E)).setCell ⟨w.heap.size, 1, none⟩ (.slice B r cr)) w.heap.size D d e xs := fun h hb => by
      have hl := fun g hA => row_low (g := g) h hA
      exact ((h.far (fun g hA => by have := hl g hA; simp; omega) _).far (fun g hA => by have := hl g hA; simp; omega) _).less (by omega)
    have oB := hide (hfar hO5 (by omega))
    have oC := hide (hfar hC5 (by omega))
    have bB := hide ((hB5.setCell (p := ⟨w.heap.size, 0, none⟩) (Nat.le_refl _) (.int .i64 E)).setCell (p := ⟨w.heap.size, 1, none⟩) (Nat.le_refl _) (.slice B r cr))
    clear y hfar hO5 hT5 hF5
    go_wp2
    exact bodyPost_ret (v := .tuple #[.agg #[.int .i64 E, .slice B r cr], .slice C k cc]) (by simp [results, Try.results51, go_sem, y0, y1]) rfl ⟨E, r, B, cr, L, k, C, cc, x, rfl, hr, oB.out, oC.out, bB.out⟩
  · clear hdv
    by_cases h3 : (0 : Int) < (n : Int) % 3
    · clear hC5
      have f0 := hF5.cell0
      have f1 := hF5.cell1
      have v0 := hT5.cell0
      have v1 := hT5.cell1
      have q0 := hT5.frozen0
      have q1 := hT5.frozen
      have y := (hT5.set0 (.int .i64 E)).set1 (.slice B r cr)
      have y0 := y.cell0
      have y1 := y.cell1
      have hfar : ∀ {W : World} {D : Option Addr} {d e b : Nat} {xs : List Int}, Own W b D d e xs → w.heap.size + 1 ≤ b → Own ((W.setCell ⟨w.heap.size, 0, none⟩ (.int .i64 E)).setCell ⟨w.heap.size, 1, none⟩ (.slice B r cr)) w.heap.size D d e xs := fun h hb => by
        have hl := fun g hA => row_low (g := g) h hA
        exact ((h.far (fun g hA => by have := hl g hA; simp; omega) _).far (fun g hA => by have := hl g hA; simp; omega) _).less (by omega)
      have oB := hide (hfar hO5 (by omega))
      have oC := hide (hfar hD5 (by omega))
      have bB := hide ((hB5.setCell (p := ⟨w.heap.size, 0, none⟩) (Nat.le_refl _) (.int .i64 E)).setCell (p := ⟨w.heap.size, 1, none⟩) (Nat.le_refl _) (.slice B r cr))
      clear y hfar hO5 hT5 hF5
      go_wp2
      exact bodyPost_ret (v := .tuple #[.agg #[.int .i64 E, .slice B r cr], .slice D rd cd]) (by simp [results, Try.results51, go_sem, y0, y1]) rfl ⟨E, r, B, cr, L, rd, D, cd, _, rfl, hr, oB.out, oC.out, bB.out⟩
    · clear hD5
      have f0 := hF5.cell0
      have f1 := hF5.cell1
      have v0 := hT5.cell0
      have v1 := hT5.cell1
      have q0 := hT5.frozen0
      have q1 := hT5.frozen
      have y := (hT5.set0 (.int .i64 E)).set1 (.slice B r cr)
      have y0 := y.cell0
      have y1 := y.cell1
      have hfar : ∀ {W : World} {D : Option Addr} {d e b : Nat} {xs : List Int}, Own W b D d e xs → w.heap.size + 1 ≤ b → Own ((W.setCell ⟨w.heap.size, 0, none⟩ (.int .i64 E)).setCell ⟨w.heap.size, 1, none⟩ (.slice B r cr)) w.heap.size D d e xs := fun h hb => by
        have hl := fun g hA => row_low (g := g) h hA
        exact ((h.far (fun g hA => by have := hl g hA; simp; omega) _).far (fun g hA => by have := hl g hA; simp; omega) _).less (by omega)
      have oB := hide (hfar hO5 (by omega))
      have oC := hide (hfar hC5 (by omega))
      have bB := hide ((hB5.setCell (p := ⟨w.heap.size, 0, none⟩) (Nat.le_refl _) (.int .i64 E)).setCell (p := ⟨w.heap.size, 1, none⟩) (Nat.le_refl _) (.slice B r cr))
      clear y hfar hO5 hT5 hF5
      go_wp2
      exact bodyPost_ret (v := .tuple #[.agg #[.int .i64 E, .slice B r cr], .slice C k cc]) (by simp [results, Try.results51, go_sem, y0, y1]) rfl ⟨E, r, B, cr, L, k, C, cc, x, rfl, hr, oB.out, oC.out, bB.out⟩
set_option maxHeartbeats 4000000 in
theorem drawCornerOf_any (A : Option Addr) (n c : Nat) (w : World) (hB : Byts w A n) :
    Calls Try.prog 45 #[.slice A n c] w fun e w' => CodeFV w w' e := by
  have hT0 : Two (w.alloc (.cells #[.int .i64 0, .slice none 0 0] 26)) w.heap.size (.int .i64 0) (.slice none 0 0) := heap_alloc_new w _
  have hb0 := (Below.refl w.heap.size w).alloc (Nat.le_refl _) (.cells #[.int .i64 0, .slice none 0 0] 26)
  have z0 : (w.alloc (.cells #[.int .i64 0, .slice none 0 0] 26)).heap.size = w.heap.size + 1 := by simp
  go_enter Try.func45, Try.ntmps45
  go_wp2_with fail
  refine (begin_any A n c _ (hB.alloc _)).mono ?_
  rintro e w1 ⟨bc, rfl, hN1⟩
  have hnew := hN1.new
  rw [z0] at hnew
  have hT1 := hT0.below hN1.below (by simp)
  have hB1 := hb0.trans (hN1.below.mono (by simp))
  have hlt1 := hT1.lt
  have hbc1 := hN1.lt
  go_wp2_with fail
  refine (l2AnyT_any bc A n c w1 hN1.lt hN1.byts hN1.apart hN1.cur).mono ?_
  rintro e w2 ⟨E, r, B, cr, L, rfl, hr, hO2, hg2, hCur2, hFl⟩
  have HT := hide hFl
  have hN2 := hN1.call hg2 hCur2
  have hT2 := hT1.same (hg2.block _ hT1.lt (fun hk => by injection hk with hk; omega))
  have hB2 := below_draw hB1 hg2 (by omega) hB1.size
  have hlt2 := hT2.lt
  have hbase : w.heap.size + 1 ≤ w1.heap.size := by omega
  have hs12 := hg2.size
  clear hFl hg2 hCur2 hT1 hB1 hT0 hb0 hN1
  have hm5 := mn5_if E
  have hc5 := cl5_if E
  have hO2' := hO2.less (B' := bc + 1) (by omega)
  have hF3 : Two (w2.alloc (.cells #[.int .i64 E, .slice B r cr] 26)) w2.heap.size (.int .i64 E) (.slice B r cr) := heap_alloc_new w2 _
  have hN3 := (hN2.alloc (.cells #[.int .i64 E, .slice B r cr] 26))
  have hT3 := hT2.below ((Below.refl w2.heap.size w2).alloc (Nat.le_refl _) (.cells #[.int .i64 E, .slice B r cr] 26)) hlt2
  have hO3 := hO2'.alloc (.cells #[.int .i64 E, .slice B r cr] 26)
  have hB3 := hB2.alloc hB2.size (.cells #[.int .i64 E, .slice B r cr] 26)
  have hwb : w.heap.size < w2.heap.size := by omega
  have hbcb : bc < w2.heap.size := by omega
  obtain ⟨b2, hb2⟩ : ∃ b2, b2 = w2.heap.size := ⟨_, rfl⟩
  obtain ⟨w3, hw3⟩ : ∃ w3, w3 = w2.alloc (.cells #[.int .i64 E, .slice B r cr] 26) := ⟨_, rfl⟩
  rw [← hw3] at hN3 hF3 hT3 hO3 hB3
  rw [← hb2] at hF3 hwb hbcb
  have HW := hide (And.intro hw3 hb2)
  clear hT2 hO2 hO2' hN2 hB2
  have f0 := hF3.cell0
  have f1 := hF3.cell1
  have hb2lt := hF3.lt
  go_wp2_with fail
  rw [← HW.out.1, ← HW.out.2]
  clear HW hw3 hb2
  refine (specLower_any E B r cr L w3 hO3.ints).mono ?_
  rintro e w4 (⟨hlow, rfl, hb4⟩ | ⟨hlow, r3, B3, cr3, rfl, hr3, hO4x, hb4⟩)
  · have hG := (Below.refl w4.heap.size w4).alloc (Nat.le_refl _) (.cells #[.int .i64 0, .slice none 0 0] 26)
    have hN6 := (hN3.step hb4).step hG
    have hT6 := (hT3.below hb4 hT3.lt).below hG (hT3.below hb4 hT3.lt).lt
    have hF6 := (hF3.below hb4 hF3.lt).below hG (hF3.below hb4 hF3.lt).lt
    have hO6 := (hO3.below hb4 (Nat.le_refl _)).alloc (.cells #[.int .i64 0, .slice none 0 0] 26)
    have hB6 := (hB3.trans (hb4.mono hB3.size)).alloc (hB3.trans (hb4.mono hB3.size)).size (.cells #[.int .i64 0, .slice none 0 0] 26)
    obtain ⟨w6, hw6⟩ : ∃ W, W = w4.alloc (.cells #[.int .i64 0, .slice none 0 0] 26) := ⟨_, rfl⟩
    rw [← hw6] at hN6 hT6 hF6 hO6 hB6
    have HW6 := hide hw6
    clear f0 f1 hN3 hT3 hF3 hO3 hB3 hb4 hw6 hG
    have HFl := hide (HT.out.flat)
    have hN4 := hN6.drew
    have hB4 := hB6.drew
    have hF4 : Two w6.drew b2 (.int .i64 E) (.slice B r cr) := hF6
    have hT4 : Two w6.drew w.heap.size (.int .i64 0) (.slice none 0 0) := hT6
    have hO4 : Own w6.drew (bc + 1) B r cr L := hO6
    have f0 := hF6.cell0
    have f1 := hF6.cell1
    go_wp2
    rw [← HW6.out]
    go_region_held3 (fun w' => w'.cell? ⟨b2, 0, none⟩ = some (.int .i64 E) ∧ w'.cell? ⟨b2, 1, none⟩ = some (.slice B r cr))
      (first
        | go_keep
        | exact ⟨hF5.cell0, hF5.cell1⟩
        | exact ⟨((hF5.far (p := ⟨w.heap.size, 0, none⟩) (by simp; omega) _).far (p := ⟨w.heap.size, 1, none⟩) (by simp; omega) _).cell0, ((hF5.far (p := ⟨w.heap.size, 0, none⟩) (by simp; omega) _).far (p := ⟨w.heap.size, 1, none⟩) (by simp; omega) _).cell1⟩
        | fail)
      (first
        | (go_at_call 167; refine (l8Order_int bc A n c _ _ (cl5_bd E).1 (by have := (cl5_bd E).2; omega) hN4.lt hN4.byts hN4.apart hN4.cur).mono ?_; rintro e w5 ⟨k9, C9, c9, x9, rfl, hk9, hO9, hg9, hC9⟩; have hF5 := hF4.same (hg9.block b2 hF4.lt (fun hk => by injection hk with hk; omega)); have hT5 := hT4.same (hg9.block _ hT4.lt (fun hk => by injection hk with hk; omega)); have v2 := hT5.cell0; have v3 := hT5.cell1; have q2 := hT5.frozen0; have q3 := hT5.frozen; have f6 := hF5.cell0; have f7 := hF5.cell1)
        | fail)
    have hO5 := own_call hO4 hg9 (by omega)
    have hO9' := hO9.less (B' := bc + 1) (by have := hN4.lt; omega)
    have hB5 := below_draw hB4 hg9 (by omega) hB4.size
    have y' := (hT5.set0 (.int .i64 E)).set1 (.slice B r cr)
    have y0 := y'.cell0
    have y1 := y'.cell1
    go_wp2
    have hfar : ∀ {W : World} {D : Option Addr} {d e : Nat} {xs : List Int}, Own W (bc + 1) D d e xs → Own ((W.setCell ⟨w.heap.size, 0, none⟩ (.int .i64 E)).setCell ⟨w.heap.size, 1, none⟩ (.slice B r cr)) w.heap.size D d e xs := fun h => by
      have hl := fun g hA => row_low (g := g) h hA
      exact ((h.far (fun g hA => by have := hl g hA; simp; omega) _).far (fun g hA => by have := hl g hA; simp; omega) _).less (by omega)
    have hbl := (hB5.setCell (p := ⟨w.heap.size, 0, none⟩) (Nat.le_refl _) (.int .i64 E)).setCell (p := ⟨w.heap.size, 1, none⟩) (Nat.le_refl _) (.slice B r cr)
    exact bodyPost_ret (v := .tuple #[.agg #[.int .i64 E, .slice B r cr], .slice C9 k9 c9]) (by simp [results, Try.results45, go_sem, y0, y1]) rfl ⟨E, r, B, cr, L, k9, C9, c9, x9, rfl, by omega, hfar hO5, hk9, hfar hO9', hbl, HFl.out⟩
  · have HFlow := hide HT.out.lower
    obtain ⟨L3, hL3⟩ : ∃ X, X = valL (lowerV L) L.length := ⟨_, rfl⟩
    rw [← hL3] at HFlow hO4x
    have hsz3 := hN3.lt
    have hO4y := hO4x.less (B' := bc + 1) (by omega)
    have hG := (Below.refl w4.heap.size w4).alloc (Nat.le_refl _) (.cells #[.int .i64 E, .slice B3 r3 cr3] 26)
    have hN6 := (hN3.step hb4).step hG
    have hT6 := (hT3.below hb4 hT3.lt).below hG (hT3.below hb4 hT3.lt).lt
    have hF6 := (hF3.below hb4 hF3.lt).below hG (hF3.below hb4 hF3.lt).lt
    have hO6 := (hO3.below hb4 (Nat.le_refl _)).alloc (.cells #[.int .i64 E, .slice B3 r3 cr3] 26)
    have hP6 := hO4y.alloc (.cells #[.int .i64 E, .slice B3 r3 cr3] 26)
    have hPl := hide (fun g (hA : B3 = some ⟨g, 0, none⟩) => row_low hO4x hA)
    have hB6 := (hB3.trans (hb4.mono hB3.size)).alloc (hB3.trans (hb4.mono hB3.size)).size (.cells #[.int .i64 E, .slice B3 r3 cr3] 26)
    have hG6 : Two (w4.alloc (.cells #[.int .i64 E, .slice B3 r3 cr3] 26)) w4.heap.size (.int .i64 E) (.slice B3 r3 cr3) := heap_alloc_new w4 _
    have hsz4 := hb4.size
    obtain ⟨b6, hb6⟩ : ∃ b, b = w4.heap.size := ⟨_, rfl⟩
    obtain ⟨w6, hw6⟩ : ∃ W, W = w4.alloc (.cells #[.int .i64 E, .slice B3 r3 cr3] 26) := ⟨_, rfl⟩
    rw [← hw6] at hN6 hT6 hF6 hO6 hP6 hB6 hG6
    rw [← hb6] at hG6 hsz4
    have HW6 := hide (And.intro hw6 hb6)
    clear f0 f1 hN3 hT3 hF3 hO3 hB3 hb4 hw6 hb6 hG hL3 hO4x hO4y
    go_wp2_with fail
    rw [← HW6.out.1, ← HW6.out.2]
    clear HW6
    refine (l1Once_any bc A n c 6 w6 hN6.byts hN6.apart hN6.cur).mono ?_
    rintro e w7 ⟨b, rfl, hg7, hC7⟩
    have hN7 := hN6.call hg7 hC7
    have hT7 := hT6.same (hg7.block _ hT6.lt (fun hk => by injection hk with hk; omega))
    have hF7 := hF6.same (hg7.block _ hF6.lt (fun hk => by injection hk with hk; omega))
    have hG7 := hG6.same (hg7.block _ hG6.lt (fun hk => by injection hk with hk; omega))
    have hO7 := own_call hO6 hg7 (by omega)
    have hP7 := own_call hP6 hg7 (by omega)
    have hB7 := below_draw hB6 hg7 (by omega) hB6.size
    clear hN6 hT6 hF6 hG6 hO6 hP6 hB6 hg7 hC7
    cases b
    · have g0 := hG7.cell0
      have g1 := hG7.cell1
      have p0 := hF7.frozen0
      have p1 := hF7.frozen
      have p2 := hF7.cell0
      have p3 := hF7.cell1
      have hF8 := (hF7.set0 (.int .i64 E)).set1 (.slice B3 r3 cr3)
      have hT8 := (hT7.far (p := ⟨b2, 0, none⟩) (by simp; omega) (.int .i64 E)).far (p := ⟨b2, 1, none⟩) (by simp; omega) (.slice B3 r3 cr3)
      have hN8 := (hN7.store (p := ⟨b2, 0, none⟩) (by simp; omega) (by simp; omega) (.int .i64 E)).store (p := ⟨b2, 1, none⟩) (by simp; omega) (by simp; omega) (.slice B3 r3 cr3)
      have hP8 := (hP7.far (p := ⟨b2, 0, none⟩) (fun g hA => by have := hPl.out g hA; simp; omega) (.int .i64 E)).far (p := ⟨b2, 1, none⟩) (fun g hA => by have := hPl.out g hA; simp; omega) (.slice B3 r3 cr3)
      have hB8 := (hB7.setCell (p := ⟨b2, 0, none⟩) (by simp; omega) (.int .i64 E)).setCell (p := ⟨b2, 1, none⟩) (by simp; omega) (.slice B3 r3 cr3)
      obtain ⟨w8, hw8⟩ : ∃ W, W = (w7.setCell ⟨b2, 0, none⟩ (.int .i64 E)).setCell ⟨b2, 1, none⟩ (.slice B3 r3 cr3) := ⟨_, rfl⟩
      rw [← hw8] at hF8 hT8 hN8 hP8 hB8
      have HW8 := hide hw8
      clear hw8 hN7 hT7 hF7 hG7 hO7 hP7 hB7
      have HFl := hide (HFlow.out)
      have hN4 := hN8.drew
      have hB4 := hB8.drew
      have hF4 : Two w8.drew b2 (.int .i64 E) (.slice B3 r3 cr3) := hF8
      have hT4 : Two w8.drew w.heap.size (.int .i64 0) (.slice none 0 0) := hT8
      have hO4 : Own w8.drew (bc + 1) B3 r3 cr3 L3 := hP8
      go_wp2
      rw [← HW8.out]
      clear g0 g1 p0 p1 p2 p3
      have f0 := hF8.cell0
      have f1 := hF8.cell1
      go_region_held3 (fun w' => w'.cell? ⟨b2, 0, none⟩ = some (.int .i64 E) ∧ w'.cell? ⟨b2, 1, none⟩ = some (.slice B3 r3 cr3))
        (first
          | go_keep
          | exact ⟨hF5.cell0, hF5.cell1⟩
          | exact ⟨((hF5.far (p := ⟨w.heap.size, 0, none⟩) (by simp; omega) _).far (p := ⟨w.heap.size, 1, none⟩) (by simp; omega) _).cell0, ((hF5.far (p := ⟨w.heap.size, 0, none⟩) (by simp; omega) _).far (p := ⟨w.heap.size, 1, none⟩) (by simp; omega) _).cell1⟩
          | fail)
        (first
          | (go_at_call 167; refine (l8Order_int bc A n c _ _ (cl5_bd E).1 (by have := (cl5_bd E).2; omega) hN4.lt hN4.byts hN4.apart hN4.cur).mono ?_; rintro e w5 ⟨k9, C9, c9, x9, rfl, hk9, hO9, hg9, hC9⟩; have hF5 := hF4.same (hg9.block b2 hF4.lt (fun hk => by injection hk with hk; omega)); have hT5 := hT4.same (hg9.block _ hT4.lt (fun hk => by injection hk with hk; omega)); have v2 := hT5.cell0; have v3 := hT5.cell1; have q2 := hT5.frozen0; have q3 := hT5.frozen; have f6 := hF5.cell0; have f7 := hF5.cell1)
          | fail)
      have hO5 := own_call hO4 hg9 (by omega)
      have hO9' := hO9.less (B' := bc + 1) (by have := hN4.lt; omega)
      have hB5 := below_draw hB4 hg9 (by omega) hB4.size
      have y' := (hT5.set0 (.int .i64 E)).set1 (.slice B3 r3 cr3)
      have y0 := y'.cell0
      have y1 := y'.cell1
      go_wp2
      have hfar : ∀ {W : World} {D : Option Addr} {d e : Nat} {xs : List Int}, Own W (bc + 1) D d e xs → Own ((W.setCell ⟨w.heap.size, 0, none⟩ (.int .i64 E)).setCell ⟨w.heap.size, 1, none⟩ (.slice B3 r3 cr3)) w.heap.size D d e xs := fun h => by
        have hl := fun g hA => row_low (g := g) h hA
        exact ((h.far (fun g hA => by have := hl g hA; simp; omega) _).far (fun g hA => by have := hl g hA; simp; omega) _).less (by omega)
      have hbl := (hB5.setCell (p := ⟨w.heap.size, 0, none⟩) (Nat.le_refl _) (.int .i64 E)).setCell (p := ⟨w.heap.size, 1, none⟩) (Nat.le_refl _) (.slice B3 r3 cr3)
      exact bodyPost_ret (v := .tuple #[.agg #[.int .i64 E, .slice B3 r3 cr3], .slice C9 k9 c9]) (by simp [results, Try.results45, go_sem, y0, y1]) rfl ⟨E, r3, B3, cr3, L3, k9, C9, c9, x9, rfl, by omega, hfar hO5, hk9, hfar hO9', hbl, HFl.out⟩
    · clear hG7
      have HFl := hide (HT.out.flat)
      have hN4 := hN7.drew
      have hB4 := hB7.drew
      have hF4 : Two w7.drew b2 (.int .i64 E) (.slice B r cr) := hF7
      have hT4 : Two w7.drew w.heap.size (.int .i64 0) (.slice none 0 0) := hT7
      have hO4 : Own w7.drew (bc + 1) B r cr L := hO7
      have f0 := hF7.cell0
      have f1 := hF7.cell1
      go_wp2
      skip
      go_region_held3 (fun w' => w'.cell? ⟨b2, 0, none⟩ = some (.int .i64 E) ∧ w'.cell? ⟨b2, 1, none⟩ = some (.slice B r cr))
        (first
          | go_keep
          | exact ⟨hF5.cell0, hF5.cell1⟩
          | exact ⟨((hF5.far (p := ⟨w.heap.size, 0, none⟩) (by simp; omega) _).far (p := ⟨w.heap.size, 1, none⟩) (by simp; omega) _).cell0, ((hF5.far (p := ⟨w.heap.size, 0, none⟩) (by simp; omega) _).far (p := ⟨w.heap.size, 1, none⟩) (by simp; omega) _).cell1⟩
          | fail)
        (first
          | (go_at_call 167; refine (l8Order_int bc A n c _ _ (cl5_bd E).1 (by have := (cl5_bd E).2; omega) hN4.lt hN4.byts hN4.apart hN4.cur).mono ?_; rintro e w5 ⟨k9, C9, c9, x9, rfl, hk9, hO9, hg9, hC9⟩; have hF5 := hF4.same (hg9.block b2 hF4.lt (fun hk => by injection hk with hk; omega)); have hT5 := hT4.same (hg9.block _ hT4.lt (fun hk => by injection hk with hk; omega)); have v2 := hT5.cell0; have v3 := hT5.cell1; have q2 := hT5.frozen0; have q3 := hT5.frozen; have f6 := hF5.cell0; have f7 := hF5.cell1)
          | fail)
      have hO5 := own_call hO4 hg9 (by omega)
      have hO9' := hO9.less (B' := bc + 1) (by have := hN4.lt; omega)
      have hB5 := below_draw hB4 hg9 (by omega) hB4.size
      have y' := (hT5.set0 (.int .i64 E)).set1 (.slice B r cr)
      have y0 := y'.cell0
      have y1 := y'.cell1
      go_wp2
      have hfar : ∀ {W : World} {D : Option Addr} {d e : Nat} {xs : List Int}, Own W (bc + 1) D d e xs → Own ((W.setCell ⟨w.heap.size, 0, none⟩ (.int .i64 E)).setCell ⟨w.heap.size, 1, none⟩ (.slice B r cr)) w.heap.size D d e xs := fun h => by
        have hl := fun g hA => row_low (g := g) h hA
        exact ((h.far (fun g hA => by have := hl g hA; simp; omega) _).far (fun g hA => by have := hl g hA; simp; omega) _).less (by omega)
      have hbl := (hB5.setCell (p := ⟨w.heap.size, 0, none⟩) (Nat.le_refl _) (.int .i64 E)).setCell (p := ⟨w.heap.size, 1, none⟩) (Nat.le_refl _) (.slice B r cr)
      exact bodyPost_ret (v := .tuple #[.agg #[.int .i64 E, .slice B r cr], .slice C9 k9 c9]) (by simp [results, Try.results45, go_sem, y0, y1]) rfl ⟨E, r, B, cr, L, k9, C9, c9, x9, rfl, by omega, hfar hO5, hk9, hfar hO9', hbl, HFl.out⟩
end Go.Proofs.Ytokeejachclpeaa
