/-
  Walks: vectors drawn from a code; a function lowered; an order drawn.
-/
import Derived.Test.YtokeejachclpeaaDrawB
import Derived.Test.YtokeejachclpeaaOrdM
import Derived.Test.YtokeejachclpeaaSymA
namespace Go.Proofs.Ytokeejachclpeaa
open Go.RowKit

/-- Two vectors that were drawn from a code, in new memory; nothing old has turned. -/
def CodeLL (w w' : World) (e : Ending) : Prop :=
  ∃ (r1 : Nat) (B1 : Option Addr) (c1 : Nat) (x : List Int) (r2 : Nat) (B2 : Option Addr) (c2 : Nat) (y : List Int), e = .returned (.tuple #[.slice B1 r1 c1, .slice B2 r2 c2]) ∧ r1 ≤ 6 ∧ Own w' w.heap.size B1 r1 c1 x ∧ r2 ≤ 6 ∧ Own w' w.heap.size B2 r2 c2 y ∧ Below w.heap.size w w'
/-- One vector. -/
def CodeL (w w' : World) (e : Ending) : Prop :=
  ∃ (r1 : Nat) (B1 : Option Addr) (c1 : Nat) (x : List Int), e = .returned (.slice B1 r1 c1) ∧ r1 ≤ 6 ∧ Own w' w.heap.size B1 r1 c1 x ∧ Below w.heap.size w w'
set_option maxHeartbeats 2000000 in
theorem l7Both_any (A : Option Addr) (n c : Nat) (w : World) (hB : Byts w A n) :
    Calls Try.prog 176 #[.slice A n c] w fun e w' => CodeLL w w' e := by
  go_enter Try.func176, Try.ntmps176
  go_wp2_with fail
  refine (begin_any A n c w hB).mono ?_
  rintro e w1 ⟨bc, rfl, hN1⟩
  have hnew := hN1.new
  go_wp2_with fail
  refine (l1Below_any bc A n c 7 w1 hN1.byts hN1.apart hN1.cur).mono ?_
  rintro e w2 ⟨k, rfl, hk, hg2, hC2⟩
  have hk6 : k ≤ 6 := by omega
  have hN2 := hN1.call hg2 hC2
  clear hk hN1 hg2 hC2
  go_wp2_with fail
  refine (l7Draw_any bc A n c k w2 hk6 hN2.lt hN2.byts hN2.apart hN2.cur).mono ?_
  rintro e w3 ⟨B3, c3, x, rfl, hO3, hg3, hC3⟩
  have hN3 := hN2.call hg3 hC3
  have hO3' := hO3.less (B' := bc + 1) (by have := hN2.lt; omega)
  clear hO3 hg3 hC3 hN2
  go_wp2_with fail
  refine (l1Once_any bc A n c 10 w3 hN3.byts hN3.apart hN3.cur).mono ?_
  rintro e w4 ⟨b, rfl, hg4, hC4⟩
  have hN4 := hN3.call hg4 hC4
  have hO4 := own_call hO3' hg4 (by omega)
  clear hO3' hg4 hC4 hN3
  cases b
  · go_wp2_with fail
    refine (l7Draw_any bc A n c k w4 hk6 hN4.lt hN4.byts hN4.apart hN4.cur).mono ?_
    rintro e w5 ⟨B5, c5, y, rfl, hO5, hg5, hC5⟩
    have hN5 := hN4.call hg5 hC5
    have hO4' := own_call hO4 hg5 (by omega)
    go_wp2
    go_ret2
    exact ⟨k, B3, c3, x, k, B5, c5, y, rfl, hk6, hO4'.less (by omega), hk6, hO5.less hN4.below.size, hN5.below⟩
  · go_wp2_with fail
    refine (l1Below_any bc A n c 5 w4 hN4.byts hN4.apart hN4.cur).mono ?_
    rintro e w5 ⟨j, rfl, hj, hg5, hC5⟩
    have hj6 : j ≤ 6 := by omega
    have hN5 := hN4.call hg5 hC5
    have hO5 := own_call hO4 hg5 (by omega)
    clear hj hN4 hg5 hC5 hO4
    go_wp2_with fail
    refine (l7Draw_any bc A n c j w5 hj6 hN5.lt hN5.byts hN5.apart hN5.cur).mono ?_
    rintro e w6 ⟨B6, c6, y, rfl, hO6, hg6, hC6⟩
    have hN6 := hN5.call hg6 hC6
    have hO5' := own_call hO5 hg6 (by omega)
    go_wp2
    go_ret2
    exact ⟨k, B3, c3, x, j, B6, c6, y, rfl, hk6, hO5'.less (by omega), hj6, hO6.less hN5.below.size, hN6.below⟩
theorem drawLeastVector_any (A : Option Addr) (n c : Nat) (w : World) (hB : Byts w A n) :
    Calls Try.prog 74 #[.slice A n c] w fun e w' => CodeLL w w' e := by
  go_enter Try.func74, Try.ntmps74
  go_wp2_with fail
  refine (l7Both_any A n c w hB).mono ?_
  rintro e w1 ⟨r1, B1, c1, x, r2, B2, c2, y, rfl, h1, h2, h3, h4, h5⟩
  go_wp2
  go_ret2
  exact ⟨r1, B1, c1, x, r2, B2, c2, y, rfl, h1, h2, h3, h4, h5⟩
theorem drawPairingOf_any (A : Option Addr) (n c : Nat) (w : World) (hB : Byts w A n) :
    Calls Try.prog 82 #[.slice A n c] w fun e w' => CodeLL w w' e := by
  go_enter Try.func82, Try.ntmps82
  go_wp2_with fail
  refine (l7Both_any A n c w hB).mono ?_
  rintro e w1 ⟨r1, B1, c1, x, r2, B2, c2, y, rfl, h1, h2, h3, h4, h5⟩
  go_wp2
  go_ret2
  exact ⟨r1, B1, c1, x, r2, B2, c2, y, rfl, h1, h2, h3, h4, h5⟩
theorem drawOrderFor_any (A : Option Addr) (n c : Nat) (w : World) (hB : Byts w A n) :
    Calls Try.prog 79 #[.slice A n c] w fun e w' => CodeL w w' e := by
  go_enter Try.func79, Try.ntmps79
  go_wp2_with fail
  refine (l7Both_any A n c w hB).mono ?_
  rintro e w1 ⟨r1, B1, c1, x, r2, B2, c2, y, rfl, h1, h2, h3, h4, h5⟩
  go_wp2
  go_ret
  exact ⟨r1, B1, c1, x, rfl, h1, h2, h5⟩
theorem drawLevelSets_any (A : Option Addr) (n c : Nat) (w : World) (hB : Byts w A n) :
    Calls Try.prog 84 #[.slice A n c] w fun e w' => CodeL w w' e := by
  go_enter Try.func84, Try.ntmps84
  go_wp2_with fail
  refine (l7Both_any A n c w hB).mono ?_
  rintro e w1 ⟨r1, B1, c1, x, r2, B2, c2, y, rfl, h1, h2, h3, h4, h5⟩
  go_wp2
  go_ret
  exact ⟨r1, B1, c1, x, rfl, h1, h2, h5⟩
theorem drawNegativePart_any (A : Option Addr) (n c : Nat) (w : World) (hB : Byts w A n) :
    Calls Try.prog 55 #[.slice A n c] w fun e w' => CodeL w w' e := by
  go_enter Try.func55, Try.ntmps55
  go_wp2_with fail
  refine (l7Both_any A n c w hB).mono ?_
  rintro e w1 ⟨r1, B1, c1, x, r2, B2, c2, y, rfl, h1, h2, h3, h4, h5⟩
  go_wp2
  go_ret
  exact ⟨r1, B1, c1, x, rfl, h1, h2, h5⟩
theorem l2Made_yes (E : Int) (A : Option Addr) (n c : Nat) (v : List Int) (w : World) (hv : Ints w A n v) (hf : isFn E v = true) :
    Calls Try.prog 213 #[.int .i64 E, .slice A n c] w fun e w' => e = .returned (.tuple #[.agg #[.int .i64 E, .slice A n c], .bool true]) ∧ Below w.heap.size w w' := by
  have t0 := two_start w (.int .i64 0) (.slice none 0 0) (.int .i64 E) (.slice A n c)
  have t1 := two_start2 w (.int .i64 0) (.slice none 0 0) (.int .i64 E) (.slice A n c)
  have hb0 := ((Below.refl w.heap.size w).alloc (Nat.le_refl _) (.cells #[.int .i64 0, .slice none 0 0] 26)).alloc (by simp) (.cells #[.int .i64 E, .slice A n c] 26)
  have x0 := t1.cell0
  have x1 := t1.cell1
  have HC := hide (specIsFunction_any E A n c v ((w.alloc (.cells #[.int .i64 0, .slice none 0 0] 26)).alloc (.cells #[.int .i64 E, .slice A n c] 26)) ((hv.alloc _).alloc _))
  have Hf := hide hf
  clear hf
  go_enter Try.func213, Try.ntmps213
  go_wp2_with fail
  refine HC.out.mono ?_
  rintro e w1 ⟨rfl, hb1⟩
  rw [Hf.out]
  have u0 := t0.below hb1 (by simp; omega)
  have u1 := t1.below hb1 (by simp)
  have a0 := u0.cell0
  have a1 := u0.cell1
  have a2 := u0.frozen0
  have a3 := u0.frozen
  have a4 := u1.cell0
  have a5 := u1.cell1
  have y := (u0.set0 (.int .i64 E)).set1 (.slice A n c)
  have y0 := y.cell0
  have y1 := y.cell1
  have hb2 := (hb0.trans (hb1.mono (by simp; omega)))
  clear x0 x1
  go_wp2
  refine bodyPost_ret (v := .tuple #[.agg #[.int .i64 E, .slice A n c], .bool true]) (by simp [results, Try.results213, go_sem, y0, y1]) rfl ⟨rfl, ?_⟩
  exact (hb2.setCell (Nat.le_refl _) _).setCell (Nat.le_refl _) _
theorem l2Made_no (E : Int) (A : Option Addr) (n c : Nat) (v : List Int) (w : World) (hv : Ints w A n v) (hf : isFn E v = false) :
    Calls Try.prog 213 #[.int .i64 E, .slice A n c] w fun e w' => e = .returned (.tuple #[.agg #[.int .i64 0, .slice none 0 0], .bool false]) ∧ Below w.heap.size w w' := by
  have t0 := two_start w (.int .i64 0) (.slice none 0 0) (.int .i64 E) (.slice A n c)
  have t1 := two_start2 w (.int .i64 0) (.slice none 0 0) (.int .i64 E) (.slice A n c)
  have hb0 := ((Below.refl w.heap.size w).alloc (Nat.le_refl _) (.cells #[.int .i64 0, .slice none 0 0] 26)).alloc (by simp) (.cells #[.int .i64 E, .slice A n c] 26)
  have x0 := t1.cell0
  have x1 := t1.cell1
  have HC := hide (specIsFunction_any E A n c v ((w.alloc (.cells #[.int .i64 0, .slice none 0 0] 26)).alloc (.cells #[.int .i64 E, .slice A n c] 26)) ((hv.alloc _).alloc _))
  have Hf := hide hf
  clear hf
  go_enter Try.func213, Try.ntmps213
  go_wp2_with fail
  refine HC.out.mono ?_
  rintro e w1 ⟨rfl, hb1⟩
  rw [Hf.out]
  have u0 := t0.below hb1 (by simp; omega)
  have a0 := u0.cell0
  have a1 := u0.cell1
  have a2 := u0.frozen0
  have a3 := u0.frozen
  have y := (u0.set0 (.int .i64 0)).set1 (.slice none 0 0)
  have y0 := y.cell0
  have y1 := y.cell1
  have hb2 := (hb0.trans (hb1.mono (by simp; omega)))
  clear x0 x1
  go_wp2
  refine bodyPost_ret (v := .tuple #[.agg #[.int .i64 0, .slice none 0 0], .bool false]) (by simp [results, Try.results213, go_sem, y0, y1]) rfl ⟨rfl, ?_⟩
  exact (hb2.setCell (Nat.le_refl _) _).setCell (Nat.le_refl _) _
/-- The values less the first one. -/
def lowerV (v : List Int) (s : Nat) : Int := gv v s - gv v 0
def lowerB (E : Int) (v : List Int) : Bool := isFn E v && isFn E (valL (lowerV v) v.length)
/-- A lowered function, or none. -/
def Lowered (w w' : World) (E : Int) (v : List Int) (e : Ending) : Prop :=
  (lowerB E v = false ∧ e = .returned (.tuple #[.agg #[.int .i64 0, .slice none 0 0], .bool false]) ∧ Below w.heap.size w w') ∨
  (lowerB E v = true ∧ ∃ (r : Nat) (B : Option Addr) (cr : Nat), e = .returned (.tuple #[.agg #[.int .i64 E, .slice B r cr], .bool true]) ∧ r ≤ 32 ∧ Own w' w.heap.size B r cr (valL (lowerV v) v.length) ∧ Below w.heap.size w w')
set_option maxHeartbeats 4000000 in
theorem specLower_any (E : Int) (A : Option Addr) (n c : Nat) (v : List Int) (w : World) (hv : Ints w A n v) :
    Calls Try.prog 165 #[.agg #[.int .i64 E, .slice A n c]] w fun e w' => Lowered w w' E v e := by
  have t1 := two_start w (.int .i64 E) (.slice A n c) (.int .i64 0) (.slice none 0 0)
  have t2 := two_start2 w (.int .i64 E) (.slice A n c) (.int .i64 0) (.slice none 0 0)
  have hb0 := ((Below.refl w.heap.size w).alloc (Nat.le_refl _) (.cells #[.int .i64 E, .slice A n c] 26)).alloc (by simp) (.cells #[.int .i64 0, .slice none 0 0] 26)
  obtain ⟨w0, hw0⟩ : ∃ W, W = (w.alloc (.cells #[.int .i64 E, .slice A n c] 26)).alloc (.cells #[.int .i64 0, .slice none 0 0] 26) := ⟨_, rfl⟩
  have hv0 : Ints w0 A n v := by rw [hw0]; exact (hv.alloc _).alloc _
  have hsz0 : w0.heap.size = w.heap.size + 2 := by rw [hw0]; simp
  rw [← hw0] at t1 t2 hb0
  have HW0 := hide hw0
  clear hw0
  have hO := own_zero w0 (B := w.heap.size + 2) (by omega)
  have u1 := t1.below ((Below.refl w0.heap.size w0).alloc (Nat.le_refl _) (.cells #[] 3)) t1.lt
  have u2 := t2.below ((Below.refl w0.heap.size w0).alloc (Nat.le_refl _) (.cells #[] 3)) t2.lt
  have hb1 := hb0.alloc hb0.size (.cells #[] 3)
  have hv1 := hv0.alloc (.cells #[] 3)
  have hsz1 : (w0.alloc (.cells #[] 3)).heap.size = w.heap.size + 3 := by simp; omega
  obtain ⟨w1, hw1⟩ : ∃ W, W = w0.alloc (.cells #[] 3) := ⟨_, rfl⟩
  rw [← hw1] at u1 u2 hb1 hv1 hO hsz1
  have HC := hide (specIsFunction_any E A n c v w1 hv1)
  have HW1 := hide hw1
  clear hw1 t1 t2 hb0
  have x0 := u1.cell0
  have x1 := u1.cell1
  have q0 := hide hsz0
  clear hsz0
  cases hf : isFn E v
  · have e0 := hide (show lowerB E v = false by simp [lowerB, hf])
    rw [hf] at HC
    clear hf
    go_enter Try.func165, Try.ntmps165
    go_wp2_with fail
    rw [← HW0.out, ← HW1.out]
    refine HC.out.mono ?_
    rintro e w2 ⟨rfl, hb2⟩
    have s2 := u2.below hb2 u2.lt
    have a0 := s2.cell0
    have a1 := s2.cell1
    have a2 := s2.frozen0
    have a3 := s2.frozen
    have y := (s2.set0 (.int .i64 0)).set1 (.slice none 0 0)
    have y0 := y.cell0
    have y1 := y.cell1
    have hb3 := (hb1.trans (hb2.mono hb1.size))
    clear x0 x1
    go_wp2
    refine bodyPost_ret (v := .tuple #[.agg #[.int .i64 0, .slice none 0 0], .bool false]) (by simp [results, Try.results165, go_sem, y0, y1]) rfl (.inl ⟨e0.out, rfl, ?_⟩)
    exact (hb3.setCell (by simp) _).setCell (by simp) _
  have Hf := hide hf
  have hvl := hide hv.len
  rw [hf] at HC
  obtain ⟨N, rfl, fo⟩ := FnOk.of hf hv
  clear hf
  have n32 := fo.n32
  have n0 := fo.n0
  obtain ⟨b, off, rfl, hbb, hc⟩ := hv.all_ n0
  have HCell := hide hc
  have Hbd := hide (fun s (hs : s < n) => fo.bd hs)
  clear hc
  go_enter Try.func165, Try.ntmps165
  go_wp2_with fail
  rw [← HW0.out, ← HW1.out]
  refine HC.out.mono ?_
  rintro e w2 ⟨rfl, hb2⟩
  have s1 := u1.below hb2 u1.lt
  have s2 := u2.below hb2 u2.lt
  have hO2 := hO.below hb2 (Nat.le_refl _)
  have hb3 := hb1.trans (hb2.mono hb1.size)
  rw [q0.out] at hO2
  clear x0 x1 u1 u2 hO hb1 hv1 hb2 hv0 HC
  go_wp2
  go_loopw [4, 5] (fun l t wr => ∃ (k : Nat) (B : Option Addr) (cr : Nat), k ≤ n ∧ t = .int .i64 k ∧ l = .slice B k cr ∧ Own wr (w.heap.size + 2) B k cr (valL (lowerV v) k) ∧ Two wr w.heap.size (.int .i64 (N : Int)) (.slice (some ⟨b, off, none⟩) n c) ∧ Two wr (w.heap.size + 1) (.int .i64 0) (.slice none 0 0) ∧ Below w.heap.size w wr) (fun _ t _ => n - (intOf t).toNat)
  case atStart => exact ⟨0, _, 0, Nat.zero_le _, rfl, rfl, hO2, s1, s2, hb3⟩
  clear hO2 s1 s2 hb3
  case round =>
    obtain ⟨k, B, cr, hk, rfl, rfl, hO, s1, s2, hbel⟩ := hrel
    have m0 := s1.cell0
    have m1 := s1.cell1
    have hl2 := s2.lt
    by_cases hlt : k < n
    · have HV := hide (valL_snoc (lowerV v) k)
      have c0 : wr.cell? ⟨b, off, none⟩ = some (.int .i64 (gv v 0)) := (hbel.cell (p := ⟨b, off, none⟩) hbb).trans (HCell.out 0 n0)
      have c1 : wr.cell? ⟨b, off + k, none⟩ = some (.int .i64 (gv v k)) := (hbel.cell (p := ⟨b, off + k, none⟩) hbb).trans (HCell.out k hlt)
      have b0 := Hbd.out 0 n0
      have b1 := Hbd.out k hlt
      have i0 : (0 : Int) < (n : Int) := by omega
      have i1 : (0 : Int) ≤ (k : Int) := by omega
      have i2 : (k : Int) < (n : Int) := by omega
      have t1 : IntKind.i64.wrap (gv v k - gv v 0) = gv v k - gv v 0 := IntWalk.i64_in _ (by omega)
      have hlv := hide (show gv v k - gv v 0 = lowerV v k from rfl)
      go_wp2
      go_region_law (first
        | (refine step_app (by rfl) _ _ (by rfl) (w.heap.size + 2) B k cr wr.heap.size (valL (lowerV v) k) (gv v k - gv v 0) (by rfl) (by rfl) ((show Own wr.drew _ _ _ _ _ from hO).alloc _) (cell_new _ _) (by omega) (by simp; omega) ?_; intro g cap w3 hown3 hgrow hat hlt3; have hbl3 := app_block hO hgrow rfl (show w.heap.size + 1 < w.heap.size + 2 by omega) (by omega); have hbl4 := app_block hO hgrow rfl (show w.heap.size < w.heap.size + 2 by omega) (by omega))
        | fail)
      all_goals
        go_wp2
        go_roundw
        case rel => exact ⟨k + 1, _, cap, by omega, by go_num, rfl, by rw [HV.out, ← hlv.out]; exact hown3, s1.same hbl4, s2.same hbl3, hbel.trans (((Below.refl w.heap.size wr).drew).trans (below_app (wr := wr.drew) (show Own wr.drew _ _ _ _ _ from hO) hgrow rfl (by omega) (by simp; omega)))⟩
        case measure => simp [intOf]; omega
    · obtain rfl : k = n := by omega
      have hge : ¬ (k : Int) < (k : Int) := by omega
      cases hf2 : isFn N (valL (lowerV v) k)
      · have e0 := hide (show lowerB N v = false by simp [lowerB, hvl.out, hf2])
        have HM := hide (l2Made_no (N : Int) B k cr _ wr hO.ints hf2)
        clear hf2
        go_wp2_with fail
        refine HM.out.mono ?_
        rintro e w3 ⟨rfl, hb3⟩
        have z2 := s2.below hb3 hl2
        have hb4 := hbel.trans (hb3.mono hbel.size)
        have ht3 := heap_alloc_new w3 (.cells #[.int .i64 0, .slice none 0 0] 26)
        have z3 := z2.below ((Below.refl w3.heap.size w3).alloc (Nat.le_refl _) (.cells #[.int .i64 0, .slice none 0 0] 26)) z2.lt
        have ht3' : Two _ w3.heap.size (.int .i64 0) (.slice none 0 0) := ht3
        have a0 := z3.cell0
        have a1 := z3.cell1
        have a2 := z3.frozen0
        have a3 := z3.frozen
        have a4 := ht3'.cell0
        have a5 := ht3'.cell1
        have y := (z3.set0 (.int .i64 0)).set1 (.slice none 0 0)
        have y0 := y.cell0
        have y1 := y.cell1
        clear m0 m1 ht3
        go_wp2
        refine bodyPost_ret (v := .tuple #[.agg #[.int .i64 0, .slice none 0 0], .bool false]) (by simp [results, Try.results165, go_sem, y0, y1]) rfl (.inl ⟨e0.out, rfl, ?_⟩)
        exact ((hb4.alloc hb4.size _).setCell (by simp) _).setCell (by simp) _
      · have e0 := hide (show lowerB N v = true by simp [lowerB, hvl.out, hf2, Hf.out])
        have HM := hide (l2Made_yes (N : Int) B k cr _ wr hO.ints hf2)
        clear hf2
        go_wp2_with fail
        refine HM.out.mono ?_
        rintro e w3 ⟨rfl, hb3⟩
        have z2 := s2.below hb3 hl2
        have hb4 := hbel.trans (hb3.mono hbel.size)
        have ht3 := heap_alloc_new w3 (.cells #[.int .i64 (N : Int), .slice B k cr] 26)
        have z3 := z2.below ((Below.refl w3.heap.size w3).alloc (Nat.le_refl _) (.cells #[.int .i64 (N : Int), .slice B k cr] 26)) z2.lt
        have ht3' : Two _ w3.heap.size (.int .i64 (N : Int)) (.slice B k cr) := ht3
        have hO3 := (hO.below hb3 (Nat.le_refl _)).alloc (.cells #[.int .i64 (N : Int), .slice B k cr] 26)
        have a0 := z3.cell0
        have a1 := z3.cell1
        have a2 := z3.frozen0
        have a3 := z3.frozen
        have a4 := ht3'.cell0
        have a5 := ht3'.cell1
        have y := (z3.set0 (.int .i64 (N : Int))).set1 (.slice B k cr)
        have y0 := y.cell0
        have y1 := y.cell1
        clear m0 m1 ht3
        go_wp2
        refine bodyPost_ret (v := .tuple #[.agg #[.int .i64 (N : Int), .slice B k cr], .bool true]) (by simp [results, Try.results165, go_sem, y0, y1]) rfl (.inr ⟨e0.out, k, B, cr, rfl, by omega, ?_, ?_⟩)
        · rw [hvl.out]
          have hl := fun g (hA : B = some ⟨g, 0, none⟩) => row_low hO hA
          exact ((hO3.far (fun g hA => by have := hl g hA; simp; omega) _).far (fun g hA => by have := hl g hA; simp; omega) _).less (by omega)
        · exact ((hb4.alloc hb4.size _).setCell (by simp) _).setCell (by simp) _
theorem own_zeroD (W : World) {B : Nat} (hB : B ≤ W.heap.size) : Own (W.alloc (.cells #[] 3)).drew B (some ⟨W.heap.size, 0, none⟩) 0 0 [] := own_zero W hB
theorem own_zeroDA (W : World) (o : Obj) {B : Nat} (hB : B ≤ W.heap.size) : Own ((W.alloc (.cells #[] 3)).alloc o).drew B (some ⟨W.heap.size, 0, none⟩) 0 0 [] := (own_zero W hB).alloc o
theorem own_zeroDC (W : World) (o : Obj) {B : Nat} (hB : B ≤ W.heap.size) : Own ((W.alloc o).alloc (.cells #[] 3)).drew B (some ⟨W.heap.size + 1, 0, none⟩) 0 0 [] := own_zeroC W o hB
theorem grown_undrew {W w1 : World} {row : Option Nat} (h : W.drew.grownBy w1 row) : W.grownBy w1 row := ⟨h.os, h.tape, h.output, h.size, h.block⟩
set_option maxHeartbeats 8000000 in
theorem l8Order_any (bc : Nat) (A : Option Addr) (n c k : Nat) (w : World) (hk : k ≤ 6) (hb : bc < w.heap.size) (hB : Byts w A n) (hne : Apart A n bc) (hC : Cur w bc A n c) :
    Calls Try.prog 167 #[.pointer (some ⟨bc, 0, none⟩), .int .i64 (k : Int)] w fun e w' => VecDrawn w w' bc A n c k e := by
  have HBel := hide (fun (k : Int) W (h : w.grownBy W (some bc)) (hc : Cur W bc A n c) => l1Below_any bc A n c k W (byts_grown hB h hne) hne hc)
  have HOnce := hide (fun (k : Int) W (h : w.grownBy W (some bc)) (hc : Cur W bc A n c) => l1Once_any bc A n c k W (byts_grown hB h hne) hne hc)
  have hD0 := (DS.start hC).alloc (.cells #[] 3)
  have hO0 := own_zero w (Nat.le_refl w.heap.size)
  clear hB hne hC
  go_enter Try.func167, Try.ntmps167
  go_wp2
  go_loopw [5, 6] (fun l t wr => ∃ (j g cr : Nat) (L : List Int), j ≤ k ∧ t = .int .i64 j ∧ l = .slice (some ⟨g, 0, none⟩) j cr ∧ Own wr w.heap.size (some ⟨g, 0, none⟩) j cr L ∧ DS w wr bc A n c) (fun _ t _ => k - (intOf t).toNat)
  case atStart => exact ⟨0, _, 0, _, Nat.zero_le _, rfl, rfl, hO0, hD0⟩
  clear hO0 hD0
  case round =>
    obtain ⟨j, g, cr, L, hj, rfl, rfl, hO, hD⟩ := hrel
    by_cases hlt : j < k
    · have HA := hide (HBel.out ((j : Int) + 1) wr hD.grew hD.cur)
      go_wp2_with fail
      refine HA.out.mono ?_
      rintro e w2 ⟨p, rfl, hp, hg2, hC2⟩
      have hpj : p ≤ j := by omega
      have hD2 := hD.call hg2 hC2
      have hown := own_call hO hg2 hb
      have hsz2 := hD2.grew.size
      have hpc := own_cap hown
      have hLl := hide hown.len
      have i9 : (j : Int) ≤ (cr : Int) := by omega
      have i10 : (0 : Int) ≤ (p : Int) := by omega
      have i11 : (p : Int) ≤ (cr : Int) := by omega
      have i12 : (p : Int) ≤ (j : Int) := by omega
      have i14 : ((j : Int) - (p : Int)).toNat = j - p := by omega
      clear hp hg2 hC2 hO hD HA
      have HI : Ints w2 (some ⟨g, 0, none⟩) j L := hown.ints
      have HW : Below w2.heap.size w2 w2 := Below.refl _ _
      go_wp2
      go_region_law (first
        | (refine step_apps (by rfl) (.tmp 19) (.tmp 22) (by rfl) w2.heap.size _ 0 0 [] (some ⟨g, 0, none⟩) p cr (L.take p) (by rfl) (by rfl) (by first | exact own_zeroD _ (Nat.le_refl _) | exact own_zeroDA _ _ (Nat.le_refl _) | exact own_zeroDC _ _ (Nat.le_refl _) | fail) (by first | exact ((ints_take HI (by omega)).alloc _).drew | exact (((ints_take HI (by omega)).alloc _).alloc _).drew | fail) (by omega) (by omega) (by first | (simp; done) | (simp; omega)) ?_
           intro A43 c43 w43 hown43 hgrow43 hat43
           rw [Nat.zero_add] at hown43
           have HB43 : Below w2.heap.size w2 w43 := by first | exact (HW.alloc (Nat.le_refl _) _).grown (grown_undrew hgrow43) (by simp) (fun k hk => by simp at hk; omega) | exact ((HW.alloc (Nat.le_refl _) _).alloc (by simp) _).grown (grown_undrew hgrow43) (by simp; omega) (fun k hk => by simp at hk; omega)
           have HA43 : ∀ k, A43.map (·.block) = some k → w2.heap.size ≤ k := by
             intro k hk
             rcases hat43 with h | h <;> (rw [h] at hk; simp at hk; omega)
           have hs43 : w2.heap.size ≤ w43.heap.size := HB43.size)
        | (refine step_app (by rfl) (.tmp 23) (.tmp 25) (by rfl) w2.heap.size A43 p c43 _ (L.take p) (j : Int) (by rfl) (by rfl) (by first | exact hown43 | exact hown43.alloc _ | fail) (by first | exact cell_new _ _ | (have h8 := cell_growB (grown_undrew hgrow43); exact h8) | (have h8 := cell_growC (grown_undrew hgrow43); exact h8) | fail) (by omega) (by first | exact hs43 | (simp; omega)) ?_
           intro g46 cap46 w46 hown46 hgrow46 hat46 hlt46
           have HB46 : Below w2.heap.size w2 w46 := by first | exact HB43.grown hgrow46 HB43.size HA43 | exact (HB43.alloc HB43.size _).grown hgrow46 (by have := HB43.size; simp; omega) HA43)
        | (refine step_apps (by rfl) (.tmp 26) (.tmp 29) (by rfl) w2.heap.size (some ⟨g46, 0, none⟩) (p + 1) cap46 (L.take p ++ [(j : Int)]) _ (j - p) _ (L.drop p) (by rfl) (by rfl) hown46 (by first | exact hown.ints.below HB46 (Nat.le_refl _) | exact ints_dropif (hown.ints.below HB46 (Nat.le_refl _)) (by omega) hpc | fail) (by omega) (by omega) HB46.size ?_
           intro A50 c50 w50 hown50 hgrow50 hat50)
        | fail)
      all_goals
        have HE50 := HB46.grown hgrow50 HB46.size (fun k hk => by simp at hk; have := own_range hown46 g46 rfl; omega)
        have HO50 := own_cast hown50 (show p + 1 + (j - p) = j + 1 by omega) rfl
        have hA50 : ∃ g', A50 = some ⟨g', 0, none⟩ := by rcases hat50 with h | h <;> exact ⟨_, h⟩
        obtain ⟨g', rfl⟩ := hA50
        have HO := hide (HO50.less hsz2)
        have HE' := hide (hD2.below HE50)
        clear HO50 HE50 hat50 hgrow50 hown50
        go_wp2
        go_roundw
        case rel => exact ⟨j + 1, g', c50, _, by omega, by go_num, by congr 1; omega, HO.out, HE'.out⟩
        case measure => simp [intOf]; omega
    · obtain rfl : j = k := by omega
      by_cases h1 : 1 < j
      · have HA := hide (HOnce.out 14 wr hD.grew hD.cur)
        have hgt : (1 : Int) < (j : Int) := by omega
        go_wp2_with fail
        refine HA.out.mono ?_
        rintro e w4 ⟨x, rfl, hg4, hC4⟩
        have hD4 := hD.call hg4 hC4
        have hO4 := own_call hO hg4 hb
        clear hO hD hg4 hC4
        cases x
        · go_wp2
          go_ret
          exact ⟨_, cr, L, rfl, hO4, hD4.grew, hD4.cur⟩
        · have hg1 := (own_range hO4 g rfl).1
          have q0 := hO4.cell (k := 0) (by omega)
          have q1 := hO4.cell (k := 1) h1
          have f0 := hO4.frozen 0
          have i0 : (0 : Int) < (j : Int) := by omega
          go_wp2
          go_ret
          have hD7 := hD4.store (p := ⟨g, 0, none⟩) hg1 hb (.int .i64 (gv L 1))
          exact ⟨_, cr, _, rfl, hO4.set_ 0 _, hD7.grew, hD7.cur⟩
      · have hgt : ¬ (1 : Int) < (j : Int) := by omega
        go_wp2
        go_ret
        exact ⟨_, cr, L, rfl, hO, hD.grew, hD.cur⟩
end Go.Proofs.Ytokeejachclpeaa
