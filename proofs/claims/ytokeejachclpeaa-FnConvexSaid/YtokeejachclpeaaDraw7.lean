/-
  Walks: vectors drawn; functions with vectors.
-/
import Derived.Test.YtokeejachclpeaaDraw6
namespace Go.Proofs.Ytokeejachclpeaa
open Go.RowKit

theorem ints_four (w : World) (a b c d : Int) : Ints (w.alloc (.cells #[.int .i64 a, .int .i64 b, .int .i64 c, .int .i64 d] 3)) (some ⟨w.heap.size, 0, none⟩) 4 [a, b, c, d] := by
  refine ⟨rfl, by omega, fun _ => ⟨w.heap.size, 0, rfl, fun j hj => ?_⟩⟩
  rw [World.cell?_alloc_at _ _ _ _ rfl]
  match j, hj with
  | 0, _ => rfl
  | 1, _ => rfl
  | 2, _ => rfl
  | 3, _ => rfl
/-- A vector that was drawn: k numbers, in new memory. -/
def VecDrawn (w w' : World) (bc : Nat) (A : Option Addr) (n c k : Nat) (e : Ending) : Prop :=
  ∃ (B : Option Addr) (cr : Nat) (L : List Int), e = .returned (.slice B k cr) ∧ Own w' w.heap.size B k cr L ∧ w.grownBy w' (some bc) ∧ Cur w' bc A n c
set_option maxHeartbeats 4000000 in
theorem l7Draw_any (bc : Nat) (A : Option Addr) (n c k : Nat) (w : World) (hk : k ≤ 6) (hb : bc < w.heap.size) (hB : Byts w A n) (hne : Apart A n bc) (hC : Cur w bc A n c) :
    Calls Try.prog 171 #[.pointer (some ⟨bc, 0, none⟩), .int .i64 (k : Int)] w fun e w' => VecDrawn w w' bc A n c k e := by
  have HBel := hide (fun (k : Int) W (h : w.grownBy W (some bc)) (hc : Cur W bc A n c) => l1Below_any bc A n c k W (byts_grown hB h hne) hne hc)
  have HOnce := hide (fun (k : Int) W (h : w.grownBy W (some bc)) (hc : Cur W bc A n c) => l1Once_any bc A n c k W (byts_grown hB h hne) hne hc)
  have HPick := hide (fun (B : Option Addr) (r cr : Nat) (L : List Int) W (hL : Ints W B r L) (hr : 0 < r) (h : w.grownBy W (some bc)) (h2 : ∀ b off, B = some ⟨b, off, none⟩ → b ≠ bc) (hc : Cur W bc A n c) => l1PickInt_any bc A n c B r cr L W hL hr (byts_grown hB h hne) hne h2 hc)
  have hD0 := (DS.start hC).alloc (.cells #[] 3)
  have hO0 := own_zero w (Nat.le_refl w.heap.size)
  clear hB hne hC
  go_enter Try.func171, Try.ntmps171
  go_wp2
  go_loopw [5, 6] (fun l t wr => ∃ (j : Nat) (B : Option Addr) (cr : Nat) (L : List Int), j ≤ k ∧ t = .int .i64 j ∧ l = .slice B j cr ∧ Own wr w.heap.size B j cr L ∧ DS w wr bc A n c) (fun _ t _ => k - (intOf t).toNat)
  case atStart => exact ⟨0, _, 0, _, Nat.zero_le _, rfl, rfl, hO0, hD0⟩
  clear hO0 hD0
  case round =>
    obtain ⟨j, B, cr, L, hj, rfl, rfl, hO, hD⟩ := hrel
    by_cases hlt : j < k
    · have HA := hide (HBel.out 9 wr hD.grew hD.cur)
      go_wp2_with fail
      refine HA.out.mono ?_
      rintro e w4 ⟨x, rfl, hx, hg4, hC4⟩
      have hx9 : x < 9 := by omega
      have hD4 := hD.call hg4 hC4
      have hO4 := own_call hO hg4 hb
      have hsz4 := hD4.grew.size
      clear hx
      go_wp2_with (refine wpl_app (by rfl) _ _ (by rfl) w.heap.size B j cr w4.heap.size L ((x : Int) - 4) (by rfl) (by rfl) (hO4.alloc _) (cell_new w4 _) (by omega) (by simp; omega) ?_; intro g cap w5 hO5 hgrow5 hat5 hlt5)
      go_roundw
      case rel => exact ⟨j + 1, _, cap, _, by omega, by go_num, rfl, hO5, hD4.app hO4 hb (Nat.le_refl _) hgrow5⟩
      case measure => simp [intOf]; omega
    · obtain rfl : j = k := by omega
      by_cases h0 : 0 < j
      · have HA := hide (HOnce.out 12 wr hD.grew hD.cur)
        go_wp2_with fail
        refine HA.out.mono ?_
        rintro e w4 ⟨x, rfl, hg4, hC4⟩
        have hD4 := hD.call hg4 hC4
        have hO4 := own_call hO hg4 hb
        have hsz4 := hD4.grew.size
        clear hO hD hg4 hC4
        cases x
        · go_wp2
          go_ret
          exact ⟨B, cr, L, rfl, hO4, hD4.grew, hD4.cur⟩
        · obtain ⟨g, rfl, hg1, hg2⟩ := hO4.form h0
          have hI := ints_four w4 1000 1001 101 (-9223372036854775808)
          have hD5 := hD4.alloc (.cells #[.int .i64 1000, .int .i64 1001, .int .i64 101, .int .i64 (-9223372036854775808)] 3)
          have hO5 := hO4.alloc (.cells #[.int .i64 1000, .int .i64 1001, .int .i64 101, .int .i64 (-9223372036854775808)] 3)
          have HP := hide (HPick.out _ 4 4 _ _ hI (by omega) hD5.grew (by intro b off h; injection h with h; injection h with h _; omega) hD5.cur)
          clear hI
          go_wp2_with fail
          refine HP.out.mono ?_
          rintro e w6 ⟨y, hy, rfl, hg6, hC6⟩
          have hD6 := hD5.call hg6 hC6
          have hO6 := own_call hO5 hg6 hb
          have q6 := hO6.cell h0
          have f6 := hO6.frozen 0
          go_wp2
          go_ret
          have hD7 := hD6.store (p := ⟨g, 0, none⟩) hg1 hb (.int .i64 (gv [1000, 1001, 101, -9223372036854775808] y))
          exact ⟨_, cr, _, rfl, hO6.set_ 0 _, hD7.grew, hD7.cur⟩
      · obtain rfl : j = 0 := by omega
        go_wp2
        go_ret
        exact ⟨B, cr, L, rfl, hO, hD.grew, hD.cur⟩
/-- Some vector that was drawn. -/
def AnyVec (w w' : World) (bc : Nat) (A : Option Addr) (n c : Nat) (e : Ending) : Prop :=
  ∃ (k : Nat) (B : Option Addr) (cr : Nat) (L : List Int), e = .returned (.slice B k cr) ∧ k ≤ 6 ∧ Own w' w.heap.size B k cr L ∧ w.grownBy w' (some bc) ∧ Cur w' bc A n c
/-- A function and two vectors that were drawn from a code, in new memory; nothing old has turned. -/
def CodeVV (w w' : World) (e : Ending) : Prop :=
  ∃ (E : Int) (r : Nat) (B : Option Addr) (cr : Nat) (L : List Int) (r1 : Nat) (B1 : Option Addr) (c1 : Nat) (x : List Int) (r2 : Nat) (B2 : Option Addr) (c2 : Nat) (y : List Int), e = .returned (.tuple #[.agg #[.int .i64 E, .slice B r cr], .slice B1 r1 c1, .slice B2 r2 c2]) ∧ r ≤ 32 ∧ Own w' w.heap.size B r cr L ∧ r1 ≤ 6 ∧ Own w' w.heap.size B1 r1 c1 x ∧ r2 ≤ 6 ∧ Own w' w.heap.size B2 r2 c2 y ∧ Below w.heap.size w w'
theorem l7Draw_int (bc : Nat) (A : Option Addr) (n c : Nat) (K : Int) (w : World) (h0 : 0 ≤ K) (h6 : K ≤ 6) (hb : bc < w.heap.size) (hB : Byts w A n) (hne : Apart A n bc) (hC : Cur w bc A n c) :
    Calls Try.prog 171 #[.pointer (some ⟨bc, 0, none⟩), .int .i64 K] w fun e w' => AnyVec w w' bc A n c e := by
  obtain ⟨k, rfl⟩ := Int.eq_ofNat_of_zero_le h0
  exact (l7Draw_any bc A n c k w (by omega) hb hB hne hC).mono fun _ _ ⟨B, cr, L, h1, h2, h3, h4⟩ => ⟨k, B, cr, L, h1, by omega, h2, h3, h4⟩
set_option maxHeartbeats 8000000 in
theorem drawIsConvexAt_any (A : Option Addr) (n c : Nat) (w : World) (hB : Byts w A n) :
    Calls Try.prog 64 #[.slice A n c] w fun e w' => CodeVV w w' e := by
  have hT0 : Two (w.alloc (.cells #[.int .i64 0, .slice none 0 0] 26)) w.heap.size (.int .i64 0) (.slice none 0 0) := heap_alloc_new w _
  have hb0 := (Below.refl w.heap.size w).alloc (Nat.le_refl _) (.cells #[.int .i64 0, .slice none 0 0] 26)
  have z0 : (w.alloc (.cells #[.int .i64 0, .slice none 0 0] 26)).heap.size = w.heap.size + 1 := by simp
  go_enter Try.func64, Try.ntmps64
  go_wp2_with fail
  refine (begin_any A n c _ (hB.alloc _)).mono ?_
  rintro e w1 ⟨bc, rfl, hN1⟩
  have hnew := hN1.new
  rw [z0] at hnew
  have hT1 := hT0.below hN1.below (by simp)
  have hB1 := hb0.trans (hN1.below.mono (by simp))
  go_wp2_with fail
  refine (l2Any_any bc A n c w1 hN1.lt hN1.byts hN1.apart hN1.cur).mono ?_
  rintro e w2 ⟨E, r, B, cr, L, rfl, hr, hO2, hg2, hC2⟩
  have hN2 := hN1.call hg2 hC2
  have hT2 := hT1.same (hg2.block _ hT1.lt (fun hk => by injection hk with hk; omega))
  have hB2 := below_draw hB1 hg2 (by omega) hB1.size
  have hlt1 := hT1.lt
  have hlt2 := hT2.lt
  have hsz12 := hg2.size
  have hlt := hN1.lt
  have hO2' := hO2.less (B' := bc + 1) (by omega)
  obtain ⟨b2, hb2⟩ : ∃ b2, b2 = w2.heap.size := ⟨_, rfl⟩
  obtain ⟨w3, hw3⟩ : ∃ w3, w3 = w2.alloc (.cells #[.int .i64 E, .slice B r cr] 26) := ⟨_, rfl⟩
  have hN3 := hN2.alloc (.cells #[.int .i64 E, .slice B r cr] 26)
  have hF3 : Two (w2.alloc (.cells #[.int .i64 E, .slice B r cr] 26)) w2.heap.size (.int .i64 E) (.slice B r cr) := heap_alloc_new w2 _
  have hT3 := hT2.below ((Below.refl w2.heap.size w2).alloc (Nat.le_refl _) (.cells #[.int .i64 E, .slice B r cr] 26)) hlt2
  have hO3 := hO2'.alloc (.cells #[.int .i64 E, .slice B r cr] 26)
  have hB3 := hB2.alloc hB2.size (.cells #[.int .i64 E, .slice B r cr] 26)
  have hwb : w.heap.size < b2 := by omega
  have hbcb : bc < b2 := by omega
  rw [← hw3] at hN3 hF3 hT3 hO3 hB3
  rw [← hb2] at hF3
  clear hN1 hN2 hT1 hT2 hO2 hO2' hg2 hC2 hB1 hB2 hT0 hb0 z0
  have HW := hide (And.intro hw3 hb2)
  clear hw3 hb2
  go_wp2_with fail
  all_goals
    rw [← HW.out.1, ← HW.out.2]
    refine (l7Draw_int bc A n c _ w3 (by omega) (by omega) hN3.lt hN3.byts hN3.apart hN3.cur).mono ?_
    rintro e w4 ⟨k, B4, c4, x, rfl, hk6, hO4, hg4, hC4⟩
    have hN4 := (hN3.call hg4 hC4).drew
    have hF4 := hF3.same (hg4.block b2 hF3.lt (fun hk => by injection hk with hk; omega))
    have hT4 := hT3.same (hg4.block _ hT3.lt (fun hk => by injection hk with hk; omega))
    have hO3b := own_call hO3 hg4 (by omega)
    have hO4b := hO4.less (B' := bc + 1) (by have := hN3.lt; omega)
    have hB4 := (below_draw hB3 hg4 (by omega) hB3.size).drew
    have f0 := hF4.cell0
    have f1 := hF4.cell1
    have hlt4 := hT4.lt
    clear hg4 hC4 hO4
    go_wp2
    go_region_held3 (fun w' => w'.cell? ⟨b2, 0, none⟩ = some (.int .i64 E) ∧ w'.cell? ⟨b2, 1, none⟩ = some (.slice B r cr))
      (first
        | go_keep
        | exact ⟨hF5.cell0, hF5.cell1⟩
        | exact ⟨((hF5.far (p := ⟨w.heap.size, 0, none⟩) (by simp; omega) _).far (p := ⟨w.heap.size, 1, none⟩) (by simp; omega) _).cell0, ((hF5.far (p := ⟨w.heap.size, 0, none⟩) (by simp; omega) _).far (p := ⟨w.heap.size, 1, none⟩) (by simp; omega) _).cell1⟩)
      (first
        | (go_at_call 171; refine (l7Draw_int bc A n c _ _ (by omega) (by omega) hN4.lt hN4.byts hN4.apart hN4.cur).mono ?_; rintro e w5 ⟨k2, B5, c5, y, rfl, hk62, hO5, hg5, hC5⟩; have hF5 := (show Two w4.drew _ _ _ from hF4).same (hg5.block b2 hF4.lt (fun hk => by injection hk with hk; omega)); have hT5 := (show Two w4.drew _ _ _ from hT4).same (hg5.block _ hT4.lt (fun hk => by injection hk with hk; omega)); have v2 := hT5.cell0; have v3 := hT5.cell1; have q2 := hT5.frozen0; have q3 := hT5.frozen))
    have y' := (hT5.set0 (.int .i64 E)).set1 (.slice B r cr)
    have y0 := y'.cell0
    have y1 := y'.cell1
    have hO3c := own_call (show Own w4.drew _ _ _ _ _ from hO3b) hg5 (by omega)
    have hO4c := own_call (show Own w4.drew _ _ _ _ _ from hO4b) hg5 (by omega)
    have hO5c := hO5.less (B' := bc + 1) (by have := hN4.lt; omega)
    have hB5 := below_draw hB4 hg5 (by omega) hB4.size
    go_wp2
    have hfar : ∀ {W : World} {D : Option Addr} {d e : Nat} {xs : List Int}, Own W (bc + 1) D d e xs → Own ((W.setCell ⟨w.heap.size, 0, none⟩ (.int .i64 E)).setCell ⟨w.heap.size, 1, none⟩ (.slice B r cr)) w.heap.size D d e xs := fun h => by
      have hl := fun g hA => row_low (g := g) h hA
      exact ((h.far (fun g hA => by have := hl g hA; simp; omega) _).far (fun g hA => by have := hl g hA; simp; omega) _).less (by omega)
    refine bodyPost_ret (v := .tuple #[.agg #[.int .i64 E, .slice B r cr], .slice B4 k c4, .slice B5 k2 c5]) (by simp [results, Try.results64, go_sem, y0, y1]) rfl ⟨E, r, B, cr, L, k, B4, c4, x, k2, B5, c5, y, rfl, by omega, hfar hO3c, hk6, hfar hO4c, hk62, hfar hO5c, ?_⟩
    exact (hB5.setCell (Nat.le_refl _) _).setCell (Nat.le_refl _) _
end Go.Proofs.Ytokeejachclpeaa
