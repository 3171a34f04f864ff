/-
  Walks: any function drawn, a valid one or not; with a set.
-/
import Derived.Test.YtokeejachclpeaaDraw4
namespace Go.Proofs.Ytokeejachclpeaa
open Go.RowKit

/-- Any function that was drawn, in new memory. -/
def AnyDrawn (w w' : World) (bc : Nat) (A : Option Addr) (n c : Nat) (e : Ending) : Prop :=
  ∃ (E : Int) (r : Nat) (B : Option Addr) (cr : Nat) (L : List Int), e = .returned (.agg #[.int .i64 E, .slice B r cr]) ∧ r ≤ 16 ∧ Own w' w.heap.size B r cr L ∧ w.grownBy w' (some bc) ∧ Cur w' bc A n c
theorem ints_five (w : World) (a b c d e : Int) : Ints (w.alloc (.cells #[.int .i64 a, .int .i64 b, .int .i64 c, .int .i64 d, .int .i64 e] 3)) (some ⟨w.heap.size, 0, none⟩) 5 [a, b, c, d, e] := by
  refine ⟨rfl, by omega, fun _ => ⟨w.heap.size, 0, rfl, fun j hj => ?_⟩⟩
  rw [World.cell?_alloc_at _ _ _ _ rfl]
  match j, hj with
  | 0, _ => rfl
  | 1, _ => rfl
  | 2, _ => rfl
  | 3, _ => rfl
  | 4, _ => rfl
theorem ints_six (w : World) (a b c d e f : Int) : Ints (w.alloc (.cells #[.int .i64 a, .int .i64 b, .int .i64 c, .int .i64 d, .int .i64 e, .int .i64 f] 3)) (some ⟨w.heap.size, 0, none⟩) 6 [a, b, c, d, e, f] := by
  refine ⟨rfl, by omega, fun _ => ⟨w.heap.size, 0, rfl, fun j hj => ?_⟩⟩
  rw [World.cell?_alloc_at _ _ _ _ rfl]
  match j, hj with
  | 0, _ => rfl
  | 1, _ => rfl
  | 2, _ => rfl
  | 3, _ => rfl
  | 4, _ => rfl
  | 5, _ => rfl
set_option maxHeartbeats 8000000 in
theorem l2Any_any (bc : Nat) (A : Option Addr) (n c : Nat) (w : World) (hb : bc < w.heap.size) (hB : Byts w A n) (hne : Apart A n bc) (hC : Cur w bc A n c) :
    Calls Try.prog 164 #[.pointer (some ⟨bc, 0, none⟩)] w fun e w' => AnyDrawn w w' bc A n c e := by
  have HBel := hide (fun (k : Int) W (h : w.grownBy W (some bc)) (hc : Cur W bc A n c) => l1Below_any bc A n c k W (byts_grown hB h hne) hne hc)
  have HPick := hide (fun (B : Option Addr) (r cr : Nat) (L : List Int) W (hL : Ints W B r L) (hr : 0 < r) (h : w.grownBy W (some bc)) (h2 : ∀ b off, B = some ⟨b, off, none⟩ → b ≠ bc) (hc : Cur W bc A n c) => l1PickInt_any bc A n c B r cr L W hL hr (byts_grown hB h hne) hne h2 hc)
  have HDraw := hide (fun W (hb : bc < W.heap.size) (h : w.grownBy W (some bc)) (hc : Cur W bc A n c) => l2Draw_any bc A n c W hb (byts_grown hB h hne) hne hc)
  have hR0 := DR.start hC (.int .i64 0) (.slice none 0 0)
  clear hB hne hC
  go_enter Try.func164, Try.ntmps164
  go_wp2_with fail
  refine (HDraw.out _ (by simp; omega) hR0.ds.grew hR0.ds.cur).mono ?_
  rintro e w1 ⟨N, m, B, cr, L, rfl, hN4, hm, hO1, hg1, hC1⟩
  have hR1 := hR0.call hb hg1 hC1
  have hm16 : m ≤ 16 := by rw [hm]; exact Nat.le_trans (Nat.pow_le_pow_right (by decide) hN4) (by decide)
  have hm0 : 0 < m := by rw [hm]; exact Nat.two_pow_pos N
  have hO1' : Own w1 (w.heap.size + 1) B m cr L := by simpa using hO1
  have hsz1 := hR1.res.lt
  have hR2 := hR1.alloc (.cells #[.int .i64 (N : Int), .slice B m cr] 26)
  have hT2 : Two (w1.alloc (.cells #[.int .i64 (N : Int), .slice B m cr] 26)) w1.heap.size (.int .i64 (N : Int)) (.slice B m cr) := heap_alloc_new w1 _
  have hO2 := hO1'.alloc (.cells #[.int .i64 (N : Int), .slice B m cr] 26)
  obtain ⟨b3, hb3⟩ : ∃ b3, b3 = w1.heap.size := ⟨_, rfl⟩
  have hwb : w.heap.size < b3 := by omega
  have hBl := hide (fun g (hA : B = some ⟨g, 0, none⟩) => show g < b3 from by have := own_lt hO1' hA; omega)
  rw [← hb3] at hT2
  clear hR0 hg1 hC1 hO1 hO1' hR1 hm hsz1
  go_wp2_with fail
  refine (HBel.out 16 _ hR2.ds.grew hR2.ds.cur).mono ?_
  rintro e w2 ⟨k, rfl, hk, hg2, hC2⟩
  have hR3 := hR2.call hb hg2 hC2
  have hT3 := hT2.same (hg2.block b3 hT2.lt (fun hk => by injection hk with hk; omega))
  have hO3 := own_call hO2 hg2 (by omega)
  have hk16 : k < 16 := by omega
  have hlt3 := hT3.lt
  clear hR2 hT2 hO2 hg2 hC2 hk
  rw [← hb3]
  clear hb3
  by_cases h0 : k = 0
  · subst h0
    have hI := ints_five w2 (-1) 6 5 0 9223372036854775807
    have hR4 := hR3.alloc (.cells #[.int .i64 (-1), .int .i64 6, .int .i64 5, .int .i64 0, .int .i64 9223372036854775807] 3)
    have HP := hide (HPick.out _ 5 5 _ _ hI (by omega) hR4.ds.grew (by intro b off h; injection h with h; injection h with h _; have := hR3.res.lt; omega) hR4.ds.cur)
    have hO4 := hO3.alloc (.cells #[.int .i64 (-1), .int .i64 6, .int .i64 5, .int .i64 0, .int .i64 9223372036854775807] 3)
    have hT4 := hT3.below ((Below.refl w2.heap.size w2).alloc (Nat.le_refl _) (.cells #[.int .i64 (-1), .int .i64 6, .int .i64 5, .int .i64 0, .int .i64 9223372036854775807] 3)) hlt3
    clear hI
    go_wp2_with fail
    refine HP.out.mono ?_
    rintro e w5 ⟨x, hx, rfl, hg5, hC5⟩
    have hR5 := hR4.call hb hg5 hC5
    have hO5 := own_call hO4 hg5 (by omega)
    have hT5' := hT4.same (hg5.block b3 hT4.lt (fun hk => by injection hk with hk; omega))
    obtain ⟨E, hE⟩ : ∃ E, E = gv [-1, 6, 5, 0, 9223372036854775807] x := ⟨_, rfl⟩
    rw [← hE]
    have f0 := hT5'.frozen0
    have u0 := hT5'.cell0
    have hT5 := hT5'.set0 (.int .i64 E)
    have hR6 := hR5.store (p := ⟨b3, 0, none⟩) (by simp; omega) hb (.int .i64 E)
    have hO6 := hO5.far (p := ⟨b3, 0, none⟩) (fun g hA => by have := hBl.out g hA; simp; omega) (.int .i64 E)
    clear hR4 hO4 hT4 hg5 hC5 hR3 hT3 hO3 hE hR5 hO5
    have c0 := hT5.cell0
    have c1 := hT5.cell1
    have v0 := hR6.res.cell0
    have v1 := hR6.res.cell1
    have z0 := hR6.res.frozen
    have z1 := hR6.res.frozen0
    have y := (hR6.res.set0 (.int .i64 (E))).set1 (.slice B m cr)
    have y0 := y.cell0
    have y1 := y.cell1
    have hbb := hb
    clear hb
    go_wp2
    refine bodyPost_ret (v := .agg #[.int .i64 (E), .slice B m cr]) (by simp [results, Try.results164, go_sem, y0, y1]) rfl ⟨E, m, B, cr, L, rfl, hm16, ?_, ?_⟩
    · have hl := fun g (hA : B = some ⟨g, 0, none⟩) => row_low hO6 hA
      exact ((hO6.far (fun g hA => by have := hl g hA; simp; omega) _).far (fun g hA => by have := hl g hA; simp; omega) _).less (by omega)
    · have hd := (hR6.ds.store (p := ⟨w.heap.size, 0, none⟩) (Nat.le_refl _) hbb (.int .i64 (E))).store (p := ⟨w.heap.size, 1, none⟩) (Nat.le_refl _) hbb (.slice B m cr)
      exact ⟨hd.grew, hd.cur⟩
  by_cases h1 : k = 1
  · subst h1
    obtain ⟨g0, rfl, hgB1, hgB2⟩ := hO3.form hm0
    have hI := ints_five w2.drew 1 (-1) 1001 (-9223372036854775808) 1000
    have hR4 := (hR3.drew).alloc (.cells #[.int .i64 1, .int .i64 (-1), .int .i64 1001, .int .i64 (-9223372036854775808), .int .i64 1000] 3)
    have HP := hide (HPick.out _ 5 5 _ _ hI (by omega) hR4.ds.grew (by intro b off h; injection h with h; injection h with h _; have := hR3.res.lt; simp at h; omega) hR4.ds.cur)
    have hO4 := (show Own w2.drew _ _ _ _ _ from hO3).alloc (.cells #[.int .i64 1, .int .i64 (-1), .int .i64 1001, .int .i64 (-9223372036854775808), .int .i64 1000] 3)
    have hT4 := (show Two w2.drew _ _ _ from hT3).below ((Below.refl w2.drew.heap.size w2.drew).alloc (Nat.le_refl _) (.cells #[.int .i64 1, .int .i64 (-1), .int .i64 1001, .int .i64 (-9223372036854775808), .int .i64 1000] 3)) hlt3
    have c1 := hT3.cell1
    have c0 := hO3.cell (k := 0) hm0
    have hgb3 := hBl.out g0 rfl
    have i0 : (0 : Int) < (m : Int) := by omega
    clear hI
    go_wp2
    go_region_held3 (fun w' => w'.cell? ⟨b3, 1, none⟩ = some (.slice (some ⟨g0, 0, none⟩) m cr))
      (first
        | go_keep
        | exact (hT4.same (hg5.block b3 hT4.lt (fun hk => by injection hk with hk; omega))).cell1
        | exact ((hT4.same (hg5.block b3 hT4.lt (fun hk => by injection hk with hk; omega))).far (by simp; omega) _).cell1)
      (first
        | (go_at_call 209; refine HP.out.mono ?_; rintro e w5 ⟨x, hx, rfl, hg5, hC5⟩; have hR5 := hR4.call hb hg5 hC5; have hO5 := own_call hO4 hg5 (by omega); have f5 := hO5.frozen 0; have q5 := hO5.cell hm0))
    have hT5' := hT4.same (hg5.block b3 hT4.lt (fun hk => by injection hk with hk; omega))
    have hT5 := hT5'.far (p := ⟨g0, 0, none⟩) (by simp; omega) (.int .i64 (gv [1, -1, 1001, -9223372036854775808, 1000] x))
    have hR6 := hR5.store (p := ⟨g0, 0, none⟩) (by simp; omega) hb (.int .i64 (gv [1, -1, 1001, -9223372036854775808, 1000] x))
    have hO6 := hO5.set_ 0 (gv [1, -1, 1001, -9223372036854775808, 1000] x)
    clear hR4 hO4 hT4 hg5 hC5 hR3 hT3 hO3 hR5 hO5 c0 c1 f5 q5
    have c0 := hT5.cell0
    have c1 := hT5.cell1
    have v0 := hR6.res.cell0
    have v1 := hR6.res.cell1
    have z0 := hR6.res.frozen
    have z1 := hR6.res.frozen0
    have y := (hR6.res.set0 (.int .i64 (N : Int))).set1 (.slice (some ⟨g0, 0, none⟩) m cr)
    have y0 := y.cell0
    have y1 := y.cell1
    have hbb := hb
    clear hb
    go_wp2
    refine bodyPost_ret (v := .agg #[.int .i64 (N : Int), .slice (some ⟨g0, 0, none⟩) m cr]) (by simp [results, Try.results164, go_sem, y0, y1]) rfl ⟨(N : Int), m, _, cr, L.set 0 (gv [1, -1, 1001, -9223372036854775808, 1000] x), rfl, hm16, ?_, ?_⟩
    · have hl := fun g (hA : (some ⟨g0, 0, none⟩ : Option Addr) = some ⟨g, 0, none⟩) => row_low hO6 hA
      exact ((hO6.far (fun g hA => by have := hl g hA; simp; omega) _).far (fun g hA => by have := hl g hA; simp; omega) _).less (by omega)
    · have hd := (hR6.ds.store (p := ⟨w.heap.size, 0, none⟩) (Nat.le_refl _) hbb (.int .i64 (N : Int))).store (p := ⟨w.heap.size, 1, none⟩) (Nat.le_refl _) hbb (.slice (some ⟨g0, 0, none⟩) m cr)
      exact ⟨hd.grew, hd.cur⟩
  have e0 : ((k : Int) == 0) = false := by simp; omega
  have e1 : ((k : Int) == 1) = false := by simp; omega
  have c0 := hT3.cell0
  have c1 := hT3.cell1
  have v0 := hR3.res.cell0
  have v1 := hR3.res.cell1
  have z0 := hR3.res.frozen
  have z1 := hR3.res.frozen0
  have y := (hR3.res.set0 (.int .i64 (N : Int))).set1 (.slice B m cr)
  have y0 := y.cell0
  have y1 := y.cell1
  have hbb := hb
  clear hb h0 h1
  go_wp2
  refine bodyPost_ret (v := .agg #[.int .i64 (N : Int), .slice B m cr]) (by simp [results, Try.results164, go_sem, y0, y1]) rfl ⟨(N : Int), m, B, cr, L, rfl, hm16, ?_, ?_⟩
  · have hl := fun g (hA : B = some ⟨g, 0, none⟩) => row_low hO3 hA
    exact ((hO3.far (fun g hA => by have := hl g hA; simp; omega) _).far (fun g hA => by have := hl g hA; simp; omega) _).less (by omega)
  · have hd := (hR3.ds.store (p := ⟨w.heap.size, 0, none⟩) (Nat.le_refl _) hbb (.int .i64 (N : Int))).store (p := ⟨w.heap.size, 1, none⟩) (Nat.le_refl _) hbb (.slice B m cr)
    exact ⟨hd.grew, hd.cur⟩
end Go.Proofs.Ytokeejachclpeaa
