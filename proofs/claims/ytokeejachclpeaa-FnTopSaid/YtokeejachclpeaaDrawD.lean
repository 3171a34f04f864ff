/-
  Walks: a function with a vector drawn from a code: a corner of it, or any.
-/
import Derived.Test.YtokeejachclpeaaDrawC
import Derived.Test.YtokeejachclpeaaDrawT
import Derived.Test.YtokeejachclpeaaCorner
namespace Go.Proofs.Ytokeejachclpeaa
open Go.RowKit

/-- A number pulled into 0 to 5. -/
def cl5 (E : Int) : Int := if E ≤ 0 then 0 else if E < 5 then E else 5
theorem cl5_bd (E : Int) : 0 ≤ cl5 E ∧ cl5 E ≤ 5 := by unfold cl5; split <;> (try split) <;> omega
def mn5 (E : Int) : Int := if E < 5 then E else 5
theorem mn5_if (E : Int) : (if E < 5 then E else 5) = mn5 E := rfl
theorem cl5_if (E : Int) : (if 0 < mn5 E then mn5 E else 0) = cl5 E := by
  unfold cl5 mn5
  by_cases h1 : E ≤ 0
  · have h2 : E < 5 := by omega
    rw [if_pos h2, if_pos h1, if_neg (by omega)]
  · rw [if_neg h1]
    by_cases h2 : E < 5
    · rw [if_pos h2, if_pos (by omega)]
    · rw [if_neg h2]; rfl
/-- All values but the first lie within 15 of some number. -/
def Flat (L : List Int) : Prop := ∃ d : Int, ∀ k, 0 < k → k < L.length → d - 15 ≤ gv L k ∧ gv L k ≤ d + 15
theorem TameL.flat {L : List Int} (h : TameL L) : Flat L := ⟨0, fun k h0 _ => by have := h k h0; omega⟩
theorem TameL.lower {L : List Int} (h : TameL L) : Flat (valL (lowerV L) L.length) := ⟨- gv L 0, fun k h0 hk => by
  rw [valL_len] at hk
  have := h k h0
  have e : gv (valL (lowerV L) L.length) k = gv L k - gv L 0 := by
    rw [gv_get (by rw [valL_len]; exact hk)]
    simp [valL, lowerV]
  rw [e]; omega⟩
/-- A function and a vector that were drawn, in new memory; the function's values but the first lie close together. -/
def BaseDrawn (w w' : World) (bc : Nat) (A : Option Addr) (n c : Nat) (e : Ending) : Prop :=
  ∃ (E : Int) (r : Nat) (B : Option Addr) (cr : Nat) (L : List Int) (k : Nat) (C : Option Addr) (cc : Nat) (x : List Int), e = .returned (.tuple #[.agg #[.int .i64 E, .slice B r cr], .slice C k cc]) ∧ r ≤ 32 ∧ Own w' w.heap.size B r cr L ∧ k ≤ 6 ∧ Own w' w.heap.size C k cc x ∧ w.grownBy w' (some bc) ∧ Cur w' bc A n c ∧ Flat L
theorem cornL_short {E : Int} {v x : List Int} : (cornL E v x).length ≤ 5 := by
  unfold cornL
  split
  · rename_i h
    simp only [cornOk, grdB, Bool.and_eq_true] at h
    obtain ⟨N, rfl, hN, _, _⟩ := isFn_true h.1.1
    have : ∀ k, (cornT (N : Int).toNat v x k).length = N := by
      intro k
      induction k with
      | zero => simp [cornT]
      | succ k ih => unfold cornT; rw [List.length_set]; exact ih
    rw [this]; exact hN
  · simp
theorem l8Order_int (bc : Nat) (A : Option Addr) (n c : Nat) (K : Int) (w : World) (h0 : 0 ≤ K) (h6 : K ≤ 6) (hb : bc < w.heap.size) (hB : Byts w A n) (hne : Apart A n bc) (hC : Cur w bc A n c) :
    Calls Try.prog 167 #[.pointer (some ⟨bc, 0, none⟩), .int .i64 K] w fun e w' => AnyVec w w' bc A n c e := by
  obtain ⟨k, rfl⟩ := Int.eq_ofNat_of_zero_le h0
  exact (l8Order_any bc A n c k w (by omega) hb hB hne hC).mono fun _ _ ⟨B, cr, L, h1, h2, h3, h4⟩ => ⟨k, B, cr, L, h1, by omega, h2, h3, h4⟩
set_option maxHeartbeats 8000000 in
theorem l8Base_any (bc : Nat) (A : Option Addr) (n c : Nat) (w : World) (hb : bc < w.heap.size) (hB : Byts w A n) (hne : Apart A n bc) (hC : Cur w bc A n c) :
    Calls Try.prog 170 #[.pointer (some ⟨bc, 0, none⟩)] w fun e w' => BaseDrawn w w' bc A n c e := by
  have HBel := hide (fun (k : Int) W (h : w.grownBy W (some bc)) (hc : Cur W bc A n c) => l1Below_any bc A n c k W (byts_grown hB h hne) hne hc)
  have HOnce := hide (fun (k : Int) W (h : w.grownBy W (some bc)) (hc : Cur W bc A n c) => l1Once_any bc A n c k W (byts_grown hB h hne) hne hc)
  have HPick := hide (fun (B : Option Addr) (r cr : Nat) (L : List Int) W (hL : Ints W B r L) (hr : 0 < r) (h : w.grownBy W (some bc)) (h2 : ∀ b off, B = some ⟨b, off, none⟩ → b ≠ bc) (hc : Cur W bc A n c) => l1PickInt_any bc A n c B r cr L W hL hr (byts_grown hB h hne) hne h2 hc)
  have HAny := hide (fun W (hb : bc < W.heap.size) (h : w.grownBy W (some bc)) (hc : Cur W bc A n c) => l2AnyT_any bc A n c W hb (byts_grown hB h hne) hne hc)
  have HOrd := hide (fun (k : Int) (h0 : 0 ≤ k) (h6 : k ≤ 6) W (hb : bc < W.heap.size) (h : w.grownBy W (some bc)) (hc : Cur W bc A n c) => l8Order_int bc A n c k W h0 h6 hb (byts_grown hB h hne) hne hc)
  have HVec := hide (fun (k : Int) (h0 : 0 ≤ k) (h6 : k ≤ 6) W (hb : bc < W.heap.size) (h : w.grownBy W (some bc)) (hc : Cur W bc A n c) => l7Draw_int bc A n c k W h0 h6 hb (byts_grown hB h hne) hne hc)
  have hR0 := DR.start hC (.int .i64 0) (.slice none 0 0)
  clear hB hne hC
  go_enter Try.func170, Try.ntmps170
  go_wp2_with fail
  refine (HAny.out _ (by simp; omega) hR0.ds.grew hR0.ds.cur).mono ?_
  rintro e w1 ⟨E, r, B, cr, L, rfl, hr, hO1, hg1, hC1, hT⟩
  have HT := hide hT; clear hT
  have hR1 := hR0.call hb hg1 hC1
  have hO1' : Own w1 (w.heap.size + 1) B r cr L := by simpa using hO1
  have hF2 : Two (w1.alloc (.cells #[.int .i64 E, .slice B r cr] 26)) w1.heap.size (.int .i64 E) (.slice B r cr) := heap_alloc_new w1 _
  have hR2 := hR1.alloc (.cells #[.int .i64 E, .slice B r cr] 26)
  have hO2 := hO1'.alloc (.cells #[.int .i64 E, .slice B r cr] 26)
  have hwb : w.heap.size < w1.heap.size := hR1.res.lt
  have hBl := hide (fun g (hA : B = some ⟨g, 0, none⟩) => own_lt hO1' hA)
  obtain ⟨b4, hb4⟩ : ∃ b, b = w1.heap.size := ⟨_, rfl⟩
  obtain ⟨w2, hw2⟩ : ∃ W, W = w1.alloc (.cells #[.int .i64 E, .slice B r cr] 26) := ⟨_, rfl⟩
  rw [← hw2] at hF2 hR2 hO2
  rw [← hb4] at hF2 hwb hBl
  have HW2 := hide (And.intro hw2 hb4)
  clear hw2 hb4 hR0 hg1 hC1 hO1 hO1' hR1
  have f0 := hF2.cell0
  have f1 := hF2.cell1
  go_wp2_with fail
  rw [← HW2.out.1, ← HW2.out.2]
  refine (specLower_any E B r cr L w2 hO2.ints).mono ?_
  rintro e w3 (⟨hlow, rfl, hb3⟩ | ⟨hlow, r3, B3, cr3, rfl, hr3, hO3, hb3⟩)
  · have hF3 := (hF2.below hb3 hF2.lt).below ((Below.refl w3.heap.size w3).alloc (Nat.le_refl _) (.cells #[.int .i64 0, .slice none 0 0] 26)) (hF2.below hb3 hF2.lt).lt
    have hR3 := (hR2.below hb3).alloc (.cells #[.int .i64 0, .slice none 0 0] 26)
    have hO3 := (hO2.below hb3 (Nat.le_refl _)).alloc (.cells #[.int .i64 0, .slice none 0 0] 26)
    clear hF2 hR2 hO2 f0 f1 hb3
    obtain ⟨wc, hwc⟩ : ∃ W, W = w3.alloc (.cells #[.int .i64 0, .slice none 0 0] 26) := ⟨_, rfl⟩
    rw [← hwc] at hF3 hR3 hO3
    have HWC := hide hwc
    clear hwc
    go_wp2
    rw [← HWC.out]
    have HFl := hide HT.out.flat
    have hr3 : r ≤ 32 := by omega
    clear HT HWC HW2 hBl hlow hr
    obtain ⟨r3, rfl⟩ : ∃ x, x = r := ⟨_, rfl⟩
    obtain ⟨B3, rfl⟩ : ∃ x, x = B := ⟨_, rfl⟩
    obtain ⟨cr3, rfl⟩ : ∃ x, x = cr := ⟨_, rfl⟩
    obtain ⟨L3, rfl⟩ : ∃ x, x = L := ⟨_, rfl⟩
    obtain ⟨q0, q5⟩ := cl5_bd E
    have hm5 := mn5_if E
    have hc5 := cl5_if E
    have hR4 := hR3.drew
    have hF4 : Two wc.drew b4 (.int .i64 E) (.slice B3 r3 cr3) := hF3
    have hO4 : Own wc.drew (w.heap.size + 1) B3 r3 cr3 L3 := hO3
    have f0 := hF3.cell0
    have f1 := hF3.cell1
    clear hF3 hR3 hO3
    go_region_held3 (fun w' => w'.cell? ⟨b4, 0, none⟩ = some (.int .i64 E) ∧ w'.cell? ⟨b4, 1, none⟩ = some (.slice B3 r3 cr3))
      (first
        | go_keep
        | exact ⟨hF7.cell0, hF7.cell1⟩
        | exact ⟨hF6.cell0, hF6.cell1⟩
        | fail)
      (first
        | (go_at_call 167; refine (HOrd.out _ q0 (by omega) _ (by have := hR4.ds.cur.lt; exact this) hR4.ds.grew hR4.ds.cur).mono ?_; rintro e w6 ⟨k, C, cc, o, rfl, hk6, hO6, hg6, hC6⟩; have hF6 := hF4.same (hg6.block b4 hF4.lt (fun hk => by injection hk with hk; omega)); have hR6 := hR4.call hb hg6 hC6; have hO6f := own_call hO4 hg6 (by omega); have f6 := hF6.cell0; have f7 := hF6.cell1)
        | (go_at_call 47; refine (specCornerOf_any E B3 r3 cr3 L3 C k cc o w6 hO6f.ints hO6.ints).mono ?_; rintro e w7 ⟨D, rd, cd, rfl, hO7, hrd, hb7⟩; have hF7 := hF6.below hb7 hF6.lt; have hR7 := hR6.below hb7; have hO7f := hO6f.below hb7 (Nat.le_refl _); have f8 := hF7.cell0; have f9 := hF7.cell1)
        | fail)
    have hrd5 : rd ≤ 5 := by
      have h1 := hO7.len
      have h2 := cornL_short (E := E) (v := L3) (x := o)
      omega
    have hBl := hide (fun g (hA : B3 = some ⟨g, 0, none⟩) => own_lt hO6f hA)
    have hbD4 := hF6.lt
    have hbDw := hR6.res.lt
    have hbDc := hR6.ds.cur.lt
    obtain ⟨bD, hbD⟩ : ∃ b, b = w6.heap.size := ⟨_, rfl⟩
    rw [← hbD] at hBl hbD4 hbDw hbDc hO7
    have hO7a := hO7
    clear hbD
    obtain ⟨z, hz⟩ : ∃ z, z = cornL E L3 o := ⟨_, rfl⟩
    rw [← hz] at hO7a
    clear hz hO7 hF4 hR4 hO4 hF6 hR6 hO6f f0 f1 hO6 hg6 hC6 hb7 hrd
    cases hc : cornOk E L3 o
    · have f0 := hF7.cell0
      have f1 := hF7.cell1
      have hR8 := hR7.drew
      have hF8 : Two w7.drew b4 (.int .i64 E) (.slice B3 r3 cr3) := hF7
      have hO8 : Own w7.drew (w.heap.size + 1) B3 r3 cr3 L3 := hO7f
      clear hc
      go_wp2
      go_region_held3 (fun w' => w'.cell? ⟨b4, 0, none⟩ = some (.int .i64 E) ∧ w'.cell? ⟨b4, 1, none⟩ = some (.slice B3 r3 cr3))
        (first
          | go_keep
          | exact ⟨hF9.cell0, hF9.cell1⟩
          | exact ⟨((hF9.far (p := ⟨w.heap.size, 0, none⟩) (by simp; omega) _).far (p := ⟨w.heap.size, 1, none⟩) (by simp; omega) _).cell0, ((hF9.far (p := ⟨w.heap.size, 0, none⟩) (by simp; omega) _).far (p := ⟨w.heap.size, 1, none⟩) (by simp; omega) _).cell1⟩
          | fail)
        (first
          | (go_at_call 171; refine (HVec.out _ q0 (by omega) _ (by have := hR8.ds.cur.lt; exact this) hR8.ds.grew hR8.ds.cur).mono ?_; rintro e w9 ⟨k9, C9, c9, x9, rfl, hk9, hO9, hg9, hC9⟩; have hF9 := hF8.same (hg9.block b4 hF8.lt (fun hk => by injection hk with hk; omega)); have hR9 := hR8.call hb hg9 hC9; have hO9f := own_call hO8 hg9 (by omega); have f6 := hF9.cell0; have f7 := hF9.cell1; have v2 := hR9.res.cell0; have v3 := hR9.res.cell1; have q2 := hR9.res.frozen0; have q3 := hR9.res.frozen)
          | fail)
      have y := (hR9.res.set0 (.int .i64 E)).set1 (.slice B3 r3 cr3)
      have y0 := y.cell0
      have y1 := y.cell1
      have hO9a := hO9.less (B' := w.heap.size + 1) (by have := hR8.res.lt; omega)
      have hbb := hb
      clear hb
      go_wp2
      have hfar : ∀ {W : World} {D : Option Addr} {d e : Nat} {xs : List Int}, Own W (w.heap.size + 1) D d e xs → Own ((W.setCell ⟨w.heap.size, 0, none⟩ (.int .i64 E)).setCell ⟨w.heap.size, 1, none⟩ (.slice B3 r3 cr3)) w.heap.size D d e xs := fun h => by
        have hl := fun g hA => row_low (g := g) h hA
        exact ((h.far (fun g hA => by have := hl g hA; simp; omega) _).far (fun g hA => by have := hl g hA; simp; omega) _).less (by omega)
      have hd := (hR9.ds.store (p := ⟨w.heap.size, 0, none⟩) (Nat.le_refl _) hbb (.int .i64 E)).store (p := ⟨w.heap.size, 1, none⟩) (Nat.le_refl _) hbb (.slice B3 r3 cr3)
      exact bodyPost_ret (v := .tuple #[.agg #[.int .i64 E, .slice B3 r3 cr3], .slice C9 k9 c9]) (by simp [results, Try.results170, go_sem, y0, y1]) rfl ⟨E, r3, B3, cr3, L3, k9, C9, c9, x9, rfl, hr3, hfar hO9f, hk9, hfar hO9a, hd.grew, hd.cur, HFl.out⟩
    · clear hc
      by_cases hrd0 : 0 < rd
      · have HA := hide (HOnce.out 2 w7 hR7.ds.grew hR7.ds.cur)
        have hgt : (0 : Int) < (rd : Int) := by omega
        go_wp2_with fail
        refine HA.out.mono ?_
        rintro e w8 ⟨b, rfl, hg8, hC8⟩
        have hR8 := hR7.call hb hg8 hC8
        have hF8 := hF7.same (hg8.block b4 hF7.lt (fun hk => by injection hk with hk; omega))
        have hO8 := own_call hO7f hg8 (by omega)
        have hD8 := own_call hO7a hg8 (by omega)
        clear hR7 hF7 hO7f hO7a hg8 hC8 HA f6 f7 f8 f9
        cases b
        · have f0 := hF8.cell0
          have f1 := hF8.cell1
          have v2 := hR8.res.cell0
          have v3 := hR8.res.cell1
          have q2 := hR8.res.frozen0
          have q3 := hR8.res.frozen
          have y := (hR8.res.set0 (.int .i64 E)).set1 (.slice B3 r3 cr3)
          have y0 := y.cell0
          have y1 := y.cell1
          have hbb := hb
          clear hb
          go_wp2
          have hfar : ∀ {W : World} {D : Option Addr} {d e : Nat} {xs : List Int}, Own W (w.heap.size + 1) D d e xs → Own ((W.setCell ⟨w.heap.size, 0, none⟩ (.int .i64 E)).setCell ⟨w.heap.size, 1, none⟩ (.slice B3 r3 cr3)) w.heap.size D d e xs := fun h => by
            have hl := fun g hA => row_low (g := g) h hA
            exact ((h.far (fun g hA => by have := hl g hA; simp; omega) _).far (fun g hA => by have := hl g hA; simp; omega) _).less (by omega)
          have hd := (hR8.ds.store (p := ⟨w.heap.size, 0, none⟩) (Nat.le_refl _) hbb (.int .i64 E)).store (p := ⟨w.heap.size, 1, none⟩) (Nat.le_refl _) hbb (.slice B3 r3 cr3)
          exact bodyPost_ret (v := .tuple #[.agg #[.int .i64 E, .slice B3 r3 cr3], .slice D rd cd]) (by simp [results, Try.results170, go_sem, y0, y1]) rfl ⟨E, r3, B3, cr3, L3, rd, D, cd, z, rfl, hr3, hfar hO8, by omega, hfar (hD8.less (by omega)), hd.grew, hd.cur, HFl.out⟩
        · have HA := hide (HBel.out (rd : Int) w8 hR8.ds.grew hR8.ds.cur)
          obtain ⟨gD, rfl, hgD1, hgD2⟩ := hD8.form hrd0
          go_wp2_with fail
          refine HA.out.mono ?_
          rintro e w9 ⟨t, rfl, ht, hg9, hC9⟩
          have htr : t < rd := by omega
          have hR9 := hR8.call hb hg9 hC9
          have hF9 := hF8.same (hg9.block b4 hF8.lt (fun hk => by injection hk with hk; omega))
          have hO9 := own_call hO8 hg9 (by omega)
          have hD9 := own_call hD8 hg9 (by omega)
          have hI := ints_six w9 0 1 (-1) (-3) 5001 (-9223372036854775808)
          have hRa := hR9.alloc (.cells #[.int .i64 0, .int .i64 1, .int .i64 (-1), .int .i64 (-3), .int .i64 5001, .int .i64 (-9223372036854775808)] 3)
          have hOa := hO9.alloc (.cells #[.int .i64 0, .int .i64 1, .int .i64 (-1), .int .i64 (-3), .int .i64 5001, .int .i64 (-9223372036854775808)] 3)
          have hDa := hD9.alloc (.cells #[.int .i64 0, .int .i64 1, .int .i64 (-1), .int .i64 (-3), .int .i64 5001, .int .i64 (-9223372036854775808)] 3)
          have hFa := hF9.below ((Below.refl w9.heap.size w9).alloc (Nat.le_refl _) (.cells #[.int .i64 0, .int .i64 1, .int .i64 (-1), .int .i64 (-3), .int .i64 5001, .int .i64 (-9223372036854775808)] 3)) hF9.lt
          have HP := hide (HPick.out _ 6 6 _ _ hI (by omega) hRa.ds.grew (by intro b off h; injection h with h; injection h with h _; have := hR9.ds.cur.lt; omega) hRa.ds.cur)
          clear hI ht HA hR8 hF8 hO8 hD8 hg9 hC9 hR9 hF9 hO9 hD9
          go_wp2_with fail
          refine HP.out.mono ?_
          rintro e wa ⟨y, hy, rfl, hga, hCa⟩
          have hRb := hRa.call hb hga hCa
          have hFb := hFa.same (hga.block b4 hFa.lt (fun hk => by injection hk with hk; omega))
          have hOb := own_call hOa hga (by omega)
          have hDb := own_call hDa hga (by omega)
          have qd := hDb.cell (k := t) htr
          have fd := hDb.frozen t
          obtain ⟨u, hu⟩ : ∃ u, u = gv [0, 1, -1, -3, 5001, -9223372036854775808] y := ⟨_, rfl⟩
          rw [← hu]
          clear hu
          have i0 : (0 : Int) ≤ (t : Int) := by omega
          have i1 : (t : Int) < (rd : Int) := by omega
          have hne4 : gD ≠ b4 := by omega
          have hDg := row_low hDb rfl
          have hRc := hRb.store (p := ⟨gD, t, none⟩) (by simp; omega) hb (.int .i64 u)
          have hFc := hFb.far (p := ⟨gD, t, none⟩) (fun h => hne4 h.symm) (.int .i64 u)
          have hDc := hDb.set_ t u
          have hOc := hOb.far (p := ⟨gD, t, none⟩) (fun g hA => by have := hBl.out g hA; simp; omega) (.int .i64 u)
          have f0 := hFc.cell0
          have f1 := hFc.cell1
          have v2 := hRc.res.cell0
          have v3 := hRc.res.cell1
          have q2 := hRc.res.frozen0
          have q3 := hRc.res.frozen
          have y' := (hRc.res.set0 (.int .i64 E)).set1 (.slice B3 r3 cr3)
          have y0 := y'.cell0
          have y1 := y'.cell1
          have hbb := hb
          clear hb
          go_wp2
          have hfar : ∀ {W : World} {D : Option Addr} {d e : Nat} {xs : List Int}, Own W (w.heap.size + 1) D d e xs → Own ((W.setCell ⟨w.heap.size, 0, none⟩ (.int .i64 E)).setCell ⟨w.heap.size, 1, none⟩ (.slice B3 r3 cr3)) w.heap.size D d e xs := fun h => by
            have hl := fun g hA => row_low (g := g) h hA
            exact ((h.far (fun g hA => by have := hl g hA; simp; omega) _).far (fun g hA => by have := hl g hA; simp; omega) _).less (by omega)
          have hd := (hRc.ds.store (p := ⟨w.heap.size, 0, none⟩) (Nat.le_refl _) hbb (.int .i64 E)).store (p := ⟨w.heap.size, 1, none⟩) (Nat.le_refl _) hbb (.slice B3 r3 cr3)
          exact bodyPost_ret (v := .tuple #[.agg #[.int .i64 E, .slice B3 r3 cr3], .slice (some ⟨gD, 0, none⟩) rd cd]) (by simp [results, Try.results170, go_sem, y0, y1]) rfl ⟨E, r3, B3, cr3, L3, rd, _, cd, z.set t u, rfl, hr3, hfar hOc, by omega, hfar (hDc.less (by omega)), hd.grew, hd.cur, HFl.out⟩
      · have hgt : ¬ (0 : Int) < (rd : Int) := by omega
        clear f6 f7 f8 f9
        have f0 := hF7.cell0
        have f1 := hF7.cell1
        have v2 := hR7.res.cell0
        have v3 := hR7.res.cell1
        have q2 := hR7.res.frozen0
        have q3 := hR7.res.frozen
        have y := (hR7.res.set0 (.int .i64 E)).set1 (.slice B3 r3 cr3)
        have y0 := y.cell0
        have y1 := y.cell1
        have hbb := hb
        clear hb
        go_wp2
        have hfar : ∀ {W : World} {D : Option Addr} {d e : Nat} {xs : List Int}, Own W (w.heap.size + 1) D d e xs → Own ((W.setCell ⟨w.heap.size, 0, none⟩ (.int .i64 E)).setCell ⟨w.heap.size, 1, none⟩ (.slice B3 r3 cr3)) w.heap.size D d e xs := fun h => by
          have hl := fun g hA => row_low (g := g) h hA
          exact ((h.far (fun g hA => by have := hl g hA; simp; omega) _).far (fun g hA => by have := hl g hA; simp; omega) _).less (by omega)
        have hd := (hR7.ds.store (p := ⟨w.heap.size, 0, none⟩) (Nat.le_refl _) hbb (.int .i64 E)).store (p := ⟨w.heap.size, 1, none⟩) (Nat.le_refl _) hbb (.slice B3 r3 cr3)
        exact bodyPost_ret (v := .tuple #[.agg #[.int .i64 E, .slice B3 r3 cr3], .slice D rd cd]) (by simp [results, Try.results170, go_sem, y0, y1]) rfl ⟨E, r3, B3, cr3, L3, rd, D, cd, z, rfl, hr3, hfar hO7f, by omega, hfar (hO7a.less (by omega)), hd.grew, hd.cur, HFl.out⟩
  · have hF3 := (hF2.below hb3 hF2.lt).below ((Below.refl w3.heap.size w3).alloc (Nat.le_refl _) (.cells #[.int .i64 E, .slice B3 r3 cr3] 26)) (hF2.below hb3 hF2.lt).lt
    have hR3 := (hR2.below hb3).alloc (.cells #[.int .i64 E, .slice B3 r3 cr3] 26)
    have hO3a := hO3.alloc (.cells #[.int .i64 E, .slice B3 r3 cr3] 26)
    have hG3 : Two (w3.alloc (.cells #[.int .i64 E, .slice B3 r3 cr3] 26)) w3.heap.size (.int .i64 E) (.slice B3 r3 cr3) := heap_alloc_new w3 _
    have HFl := hide HT.out.lower
    obtain ⟨L3, hL3⟩ : ∃ X, X = valL (lowerV L) L.length := ⟨_, rfl⟩
    rw [← hL3] at HFl hO3a
    have hl2 := hF2.lt
    clear hL3 hO3
    have g0 := hG3.cell0
    have g1 := hG3.cell1
    have p0 := hF3.frozen0
    have p1 := hF3.frozen
    have p2 := hF3.cell0
    have p3 := hF3.cell1
    have hF3a := (hF3.set0 (.int .i64 E)).set1 (.slice B3 r3 cr3)
    have hR3a := (hR3.store (p := ⟨b4, 0, none⟩) hwb hb (.int .i64 E)).store (p := ⟨b4, 1, none⟩) hwb hb (.slice B3 r3 cr3)
    have hO3b := ((hO3a.far (p := ⟨b4, 0, none⟩) (fun g hA => by have := row_low hO3a hA; simp; omega) (.int .i64 E)).far (p := ⟨b4, 1, none⟩) (fun g hA => by have := row_low hO3a hA; simp; omega) (.slice B3 r3 cr3)).less (B' := w.heap.size + 1) (by omega)
    clear hF2 hR2 hO2 f0 f1 hb3
    obtain ⟨wc, hwc⟩ : ∃ W, W = ((w3.alloc (.cells #[.int .i64 E, .slice B3 r3 cr3] 26)).setCell ⟨b4, 0, none⟩ (.int .i64 E)).setCell ⟨b4, 1, none⟩ (.slice B3 r3 cr3) := ⟨_, rfl⟩
    rw [← hwc] at hF3a hR3a hO3b
    have HWC := hide hwc
    clear hwc
    go_wp2
    rw [← HWC.out]
    clear HT HWC HW2 hBl hlow hr hl2 p0 p1 p2 p3 g0 g1 hG3 hF3 hR3 hO3a
    have hF3 := hF3a
    have hR3 := hR3a
    have hO3 := hO3b
    clear hF3a hR3a hO3b
    obtain ⟨q0, q5⟩ := cl5_bd E
    have hm5 := mn5_if E
    have hc5 := cl5_if E
    have hR4 := hR3.drew
    have hF4 : Two wc.drew b4 (.int .i64 E) (.slice B3 r3 cr3) := hF3
    have hO4 : Own wc.drew (w.heap.size + 1) B3 r3 cr3 L3 := hO3
    have f0 := hF3.cell0
    have f1 := hF3.cell1
    clear hF3 hR3 hO3
    go_region_held3 (fun w' => w'.cell? ⟨b4, 0, none⟩ = some (.int .i64 E) ∧ w'.cell? ⟨b4, 1, none⟩ = some (.slice B3 r3 cr3))
      (first
        | go_keep
        | exact ⟨hF7.cell0, hF7.cell1⟩
        | exact ⟨hF6.cell0, hF6.cell1⟩
        | fail)
      (first
        | (go_at_call 167; refine (HOrd.out _ q0 (by omega) _ (by have := hR4.ds.cur.lt; exact this) hR4.ds.grew hR4.ds.cur).mono ?_; rintro e w6 ⟨k, C, cc, o, rfl, hk6, hO6, hg6, hC6⟩; have hF6 := hF4.same (hg6.block b4 hF4.lt (fun hk => by injection hk with hk; omega)); have hR6 := hR4.call hb hg6 hC6; have hO6f := own_call hO4 hg6 (by omega); have f6 := hF6.cell0; have f7 := hF6.cell1)
        | (go_at_call 47; refine (specCornerOf_any E B3 r3 cr3 L3 C k cc o w6 hO6f.ints hO6.ints).mono ?_; rintro e w7 ⟨D, rd, cd, rfl, hO7, hrd, hb7⟩; have hF7 := hF6.below hb7 hF6.lt; have hR7 := hR6.below hb7; have hO7f := hO6f.below hb7 (Nat.le_refl _); have f8 := hF7.cell0; have f9 := hF7.cell1)
        | fail)
    have hrd5 : rd ≤ 5 := by
      have h1 := hO7.len
      have h2 := cornL_short (E := E) (v := L3) (x := o)
      omega
    have hBl := hide (fun g (hA : B3 = some ⟨g, 0, none⟩) => own_lt hO6f hA)
    have hbD4 := hF6.lt
    have hbDw := hR6.res.lt
    have hbDc := hR6.ds.cur.lt
    obtain ⟨bD, hbD⟩ : ∃ b, b = w6.heap.size := ⟨_, rfl⟩
    rw [← hbD] at hBl hbD4 hbDw hbDc hO7
    have hO7a := hO7
    clear hbD
    obtain ⟨z, hz⟩ : ∃ z, z = cornL E L3 o := ⟨_, rfl⟩
    rw [← hz] at hO7a
    clear hz hO7 hF4 hR4 hO4 hF6 hR6 hO6f f0 f1 hO6 hg6 hC6 hb7 hrd
    cases hc : cornOk E L3 o
    · have f0 := hF7.cell0
      have f1 := hF7.cell1
      have hR8 := hR7.drew
      have hF8 : Two w7.drew b4 (.int .i64 E) (.slice B3 r3 cr3) := hF7
      have hO8 : Own w7.drew (w.heap.size + 1) B3 r3 cr3 L3 := hO7f
      clear hc
      go_wp2
      go_region_held3 (fun w' => w'.cell? ⟨b4, 0, none⟩ = some (.int .i64 E) ∧ w'.cell? ⟨b4, 1, none⟩ = some (.slice B3 r3 cr3))
        (first
          | go_keep
          | exact ⟨hF9.cell0, hF9.cell1⟩
          | exact ⟨((hF9.far (p := ⟨w.heap.size, 0, none⟩) (by simp; omega) _).far (p := ⟨w.heap.size, 1, none⟩) (by simp; omega) _).cell0, ((hF9.far (p := ⟨w.heap.size, 0, none⟩) (by simp; omega) _).far (p := ⟨w.heap.size, 1, none⟩) (by simp; omega) _).cell1⟩
          | fail)
        (first
          | (go_at_call 171; refine (HVec.out _ q0 (by omega) _ (by have := hR8.ds.cur.lt; exact this) hR8.ds.grew hR8.ds.cur).mono ?_; rintro e w9 ⟨k9, C9, c9, x9, rfl, hk9, hO9, hg9, hC9⟩; have hF9 := hF8.same (hg9.block b4 hF8.lt (fun hk => by injection hk with hk; omega)); have hR9 := hR8.call hb hg9 hC9; have hO9f := own_call hO8 hg9 (by omega); have f6 := hF9.cell0; have f7 := hF9.cell1; have v2 := hR9.res.cell0; have v3 := hR9.res.cell1; have q2 := hR9.res.frozen0; have q3 := hR9.res.frozen)
          | fail)
      have y := (hR9.res.set0 (.int .i64 E)).set1 (.slice B3 r3 cr3)
      have y0 := y.cell0
      have y1 := y.cell1
      have hO9a := hO9.less (B' := w.heap.size + 1) (by have := hR8.res.lt; omega)
      have hbb := hb
      clear hb
      go_wp2
      have hfar : ∀ {W : World} {D : Option Addr} {d e : Nat} {xs : List Int}, Own W (w.heap.size + 1) D d e xs → Own ((W.setCell ⟨w.heap.size, 0, none⟩ (.int .i64 E)).setCell ⟨w.heap.size, 1, none⟩ (.slice B3 r3 cr3)) w.heap.size D d e xs := fun h => by
        have hl := fun g hA => row_low (g := g) h hA
        exact ((h.far (fun g hA => by have := hl g hA; simp; omega) _).far (fun g hA => by have := hl g hA; simp; omega) _).less (by omega)
      have hd := (hR9.ds.store (p := ⟨w.heap.size, 0, none⟩) (Nat.le_refl _) hbb (.int .i64 E)).store (p := ⟨w.heap.size, 1, none⟩) (Nat.le_refl _) hbb (.slice B3 r3 cr3)
      exact bodyPost_ret (v := .tuple #[.agg #[.int .i64 E, .slice B3 r3 cr3], .slice C9 k9 c9]) (by simp [results, Try.results170, go_sem, y0, y1]) rfl ⟨E, r3, B3, cr3, L3, k9, C9, c9, x9, rfl, hr3, hfar hO9f, hk9, hfar hO9a, hd.grew, hd.cur, HFl.out⟩
    · clear hc
      by_cases hrd0 : 0 < rd
      · have HA := hide (HOnce.out 2 w7 hR7.ds.grew hR7.ds.cur)
        have hgt : (0 : Int) < (rd : Int) := by omega
        go_wp2_with fail
        refine HA.out.mono ?_
        rintro e w8 ⟨b, rfl, hg8, hC8⟩
        have hR8 := hR7.call hb hg8 hC8
        have hF8 := hF7.same (hg8.block b4 hF7.lt (fun hk => by injection hk with hk; omega))
        have hO8 := own_call hO7f hg8 (by omega)
        have hD8 := own_call hO7a hg8 (by omega)
        clear hR7 hF7 hO7f hO7a hg8 hC8 HA f6 f7 f8 f9
        cases b
        · have f0 := hF8.cell0
          have f1 := hF8.cell1
          have v2 := hR8.res.cell0
          have v3 := hR8.res.cell1
          have q2 := hR8.res.frozen0
          have q3 := hR8.res.frozen
          have y := (hR8.res.set0 (.int .i64 E)).set1 (.slice B3 r3 cr3)
          have y0 := y.cell0
          have y1 := y.cell1
          have hbb := hb
          clear hb
          go_wp2
          have hfar : ∀ {W : World} {D : Option Addr} {d e : Nat} {xs : List Int}, Own W (w.heap.size + 1) D d e xs → Own ((W.setCell ⟨w.heap.size, 0, none⟩ (.int .i64 E)).setCell ⟨w.heap.size, 1, none⟩ (.slice B3 r3 cr3)) w.heap.size D d e xs := fun h => by
            have hl := fun g hA => row_low (g := g) h hA
            exact ((h.far (fun g hA => by have := hl g hA; simp; omega) _).far (fun g hA => by have := hl g hA; simp; omega) _).less (by omega)
          have hd := (hR8.ds.store (p := ⟨w.heap.size, 0, none⟩) (Nat.le_refl _) hbb (.int .i64 E)).store (p := ⟨w.heap.size, 1, none⟩) (Nat.le_refl _) hbb (.slice B3 r3 cr3)
          exact bodyPost_ret (v := .tuple #[.agg #[.int .i64 E, .slice B3 r3 cr3], .slice D rd cd]) (by simp [results, Try.results170, go_sem, y0, y1]) rfl ⟨E, r3, B3, cr3, L3, rd, D, cd, z, rfl, hr3, hfar hO8, by omega, hfar (hD8.less (by omega)), hd.grew, hd.cur, HFl.out⟩
        · have HA := hide (HBel.out (rd : Int) w8 hR8.ds.grew hR8.ds.cur)
          obtain ⟨gD, rfl, hgD1, hgD2⟩ := hD8.form hrd0
          go_wp2_with fail
          refine HA.out.mono ?_
          rintro e w9 ⟨t, rfl, ht, hg9, hC9⟩
          have htr : t < rd := by omega
          have hR9 := hR8.call hb hg9 hC9
          have hF9 := hF8.same (hg9.block b4 hF8.lt (fun hk => by injection hk with hk; omega))
          have hO9 := own_call hO8 hg9 (by omega)
          have hD9 := own_call hD8 hg9 (by omega)
          have hI := ints_six w9 0 1 (-1) (-3) 5001 (-9223372036854775808)
          have hRa := hR9.alloc (.cells #[.int .i64 0, .int .i64 1, .int .i64 (-1), .int .i64 (-3), .int .i64 5001, .int .i64 (-9223372036854775808)] 3)
          have hOa := hO9.alloc (.cells #[.int .i64 0, .int .i64 1, .int .i64 (-1), .int .i64 (-3), .int .i64 5001, .int .i64 (-9223372036854775808)] 3)
          have hDa := hD9.alloc (.cells #[.int .i64 0, .int .i64 1, .int .i64 (-1), .int .i64 (-3), .int .i64 5001, .int .i64 (-9223372036854775808)] 3)
          have hFa := hF9.below ((Below.refl w9.heap.size w9).alloc (Nat.le_refl _) (.cells #[.int .i64 0, .int .i64 1, .int .i64 (-1), .int .i64 (-3), .int .i64 5001, .int .i64 (-9223372036854775808)] 3)) hF9.lt
          have HP := hide (HPick.out _ 6 6 _ _ hI (by omega) hRa.ds.grew (by intro b off h; injection h with h; injection h with h _; have := hR9.ds.cur.lt; omega) hRa.ds.cur)
          clear hI ht HA hR8 hF8 hO8 hD8 hg9 hC9 hR9 hF9 hO9 hD9
          go_wp2_with fail
          refine HP.out.mono ?_
          rintro e wa ⟨y, hy, rfl, hga, hCa⟩
          have hRb := hRa.call hb hga hCa
          have hFb := hFa.same (hga.block b4 hFa.lt (fun hk => by injection hk with hk; omega))
          have hOb := own_call hOa hga (by omega)
          have hDb := own_call hDa hga (by omega)
          have qd := hDb.cell (k := t) htr
          have fd := hDb.frozen t
          obtain ⟨u, hu⟩ : ∃ u, u = gv [0, 1, -1, -3, 5001, -9223372036854775808] y := ⟨_, rfl⟩
          rw [← hu]
          clear hu
          have i0 : (0 : Int) ≤ (t : Int) := by omega
          have i1 : (t : Int) < (rd : Int) := by omega
          have hne4 : gD ≠ b4 := by omega
          have hDg := row_low hDb rfl
          have hRc := hRb.store (p := ⟨gD, t, none⟩) (by simp; omega) hb (.int .i64 u)
          have hFc := hFb.far (p := ⟨gD, t, none⟩) (fun h => hne4 h.symm) (.int .i64 u)
          have hDc := hDb.set_ t u
          have hOc := hOb.far (p := ⟨gD, t, none⟩) (fun g hA => by have := hBl.out g hA; simp; omega) (.int .i64 u)
          have f0 := hFc.cell0
          have f1 := hFc.cell1
          have v2 := hRc.res.cell0
          have v3 := hRc.res.cell1
          have q2 := hRc.res.frozen0
          have q3 := hRc.res.frozen
          have y' := (hRc.res.set0 (.int .i64 E)).set1 (.slice B3 r3 cr3)
          have y0 := y'.cell0
          have y1 := y'.cell1
          have hbb := hb
          clear hb
          go_wp2
          have hfar : ∀ {W : World} {D : Option Addr} {d e : Nat} {xs : List Int}, Own W (w.heap.size + 1) D d e xs → Own ((W.setCell ⟨w.heap.size, 0, none⟩ (.int .i64 E)).setCell ⟨w.heap.size, 1, none⟩ (.slice B3 r3 cr3)) w.heap.size D d e xs := fun h => by
            have hl := fun g hA => row_low (g := g) h hA
            exact ((h.far (fun g hA => by have := hl g hA; simp; omega) _).far (fun g hA => by have := hl g hA; simp; omega) _).less (by omega)
          have hd := (hRc.ds.store (p := ⟨w.heap.size, 0, none⟩) (Nat.le_refl _) hbb (.int .i64 E)).store (p := ⟨w.heap.size, 1, none⟩) (Nat.le_refl _) hbb (.slice B3 r3 cr3)
          exact bodyPost_ret (v := .tuple #[.agg #[.int .i64 E, .slice B3 r3 cr3], .slice (some ⟨gD, 0, none⟩) rd cd]) (by simp [results, Try.results170, go_sem, y0, y1]) rfl ⟨E, r3, B3, cr3, L3, rd, _, cd, z.set t u, rfl, hr3, hfar hOc, by omega, hfar (hDc.less (by omega)), hd.grew, hd.cur, HFl.out⟩
      · have hgt : ¬ (0 : Int) < (rd : Int) := by omega
        clear f6 f7 f8 f9
        have f0 := hF7.cell0
        have f1 := hF7.cell1
        have v2 := hR7.res.cell0
        have v3 := hR7.res.cell1
        have q2 := hR7.res.frozen0
        have q3 := hR7.res.frozen
        have y := (hR7.res.set0 (.int .i64 E)).set1 (.slice B3 r3 cr3)
        have y0 := y.cell0
        have y1 := y.cell1
        have hbb := hb
        clear hb
        go_wp2
        have hfar : ∀ {W : World} {D : Option Addr} {d e : Nat} {xs : List Int}, Own W (w.heap.size + 1) D d e xs → Own ((W.setCell ⟨w.heap.size, 0, none⟩ (.int .i64 E)).setCell ⟨w.heap.size, 1, none⟩ (.slice B3 r3 cr3)) w.heap.size D d e xs := fun h => by
          have hl := fun g hA => row_low (g := g) h hA
          exact ((h.far (fun g hA => by have := hl g hA; simp; omega) _).far (fun g hA => by have := hl g hA; simp; omega) _).less (by omega)
        have hd := (hR7.ds.store (p := ⟨w.heap.size, 0, none⟩) (Nat.le_refl _) hbb (.int .i64 E)).store (p := ⟨w.heap.size, 1, none⟩) (Nat.le_refl _) hbb (.slice B3 r3 cr3)
        exact bodyPost_ret (v := .tuple #[.agg #[.int .i64 E, .slice B3 r3 cr3], .slice D rd cd]) (by simp [results, Try.results170, go_sem, y0, y1]) rfl ⟨E, r3, B3, cr3, L3, rd, D, cd, z, rfl, hr3, hfar hO7f, by omega, hfar (hO7a.less (by omega)), hd.grew, hd.cur, HFl.out⟩
end Go.Proofs.Ytokeejachclpeaa
