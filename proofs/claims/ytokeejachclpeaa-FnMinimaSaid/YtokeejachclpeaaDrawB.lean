/-
  Walks: a function drawn.
  Walks: any function drawn, a valid one or not; with a set.
  Walks: what the first laws draw from a code.
  Walks: vectors drawn; functions with vectors.
  Walks: polymatroids drawn; functions with numbers.
-/
import Derived.Test.YtokeejachclpeaaDrawA
import Derived.Test.YtokeejachclpeaaMinM
import Derived.Test.YtokeejachclpeaaCore
import Derived.Deep.RegionHeld3
namespace Go.Proofs.Ytokeejachclpeaa
open Go.RowKit

theorem l2Cover_m (bc : Nat) (A : Option Addr) (n c N : Nat) (w : World) (hN : N ≤ 5) (hb : bc < w.heap.size) (hB : Byts w A n) (hne : Apart A n bc) (hC : Cur w bc A n c) :
    Calls Try.prog 220 #[.pointer (some ⟨bc, 0, none⟩), .int .i64 (N : Int)] w fun e w' => ∃ (m : Nat) (B : Option Addr) (cr : Nat) (L : List Int), e = .returned (.slice B m cr) ∧ m = p2 N ∧ Own w' w.heap.size B m cr L ∧ w.grownBy w' (some bc) ∧ Cur w' bc A n c :=
  (l2Cover_any bc A n c N w hN hb hB hne hC).mono fun _ _ ⟨B, cr, L, h1, h2, h3, h4⟩ => ⟨2 ^ N, B, cr, L, h1, rfl, h2, h3, h4⟩
/-- A function that was drawn: at most four elements, a value for each set, in new memory. -/
def FnDrawn (w w' : World) (bc : Nat) (A : Option Addr) (n c : Nat) (e : Ending) : Prop :=
  ∃ (N m : Nat) (B : Option Addr) (cr : Nat) (L : List Int), e = .returned (.agg #[.int .i64 (N : Int), .slice B m cr]) ∧ N ≤ 4 ∧ m = 2 ^ N ∧ Own w' w.heap.size B m cr L ∧ w.grownBy w' (some bc) ∧ Cur w' bc A n c
set_option maxHeartbeats 8000000 in
theorem l2Draw_any (bc : Nat) (A : Option Addr) (n c : Nat) (w : World) (hb : bc < w.heap.size) (hB : Byts w A n) (hne : Apart A n bc) (hC : Cur w bc A n c) :
    Calls Try.prog 212 #[.pointer (some ⟨bc, 0, none⟩), .int .i64 4] w fun e w' => FnDrawn w w' bc A n c e := by
  have HBel := hide (fun (k : Int) W (h : w.grownBy W (some bc)) (hc : Cur W bc A n c) => l1Below_any bc A n c k W (byts_grown hB h hne) hne hc)
  have HOnce := hide (fun (k : Int) W (h : w.grownBy W (some bc)) (hc : Cur W bc A n c) => l1Once_any bc A n c k W (byts_grown hB h hne) hne hc)
  have HCov := hide (fun (N : Nat) (hN : N ≤ 5) W (hb : bc < W.heap.size) (h : w.grownBy W (some bc)) (hc : Cur W bc A n c) => l2Cover_m bc A n c N W hN hb (byts_grown hB h hne) hne hc)
  have hR0 := DR.start hC (.int .i64 0) (.slice none 0 0)
  clear hB hne hC
  go_enter Try.func212, Try.ntmps212
  go_wp2_with fail
  refine (HBel.out 5 _ hR0.ds.grew hR0.ds.cur).mono ?_
  rintro e w1 ⟨N, rfl, hN, hg1, hC1⟩
  have hR1 := hR0.call hb hg1 hC1
  have hN4 : N ≤ 4 := by omega
  have hN40 : N ≤ 40 := by omega
  have h16 : p2 N ≤ 16 := Nat.le_trans (Nat.pow_le_pow_right (by decide) hN4) (by decide)
  have hp0 := p2_pos N
  have hsz1 := hR1.res.lt
  clear hN hg1 hC1 hR0
  have hO1 := own_zero w1 (B := w.heap.size + 1) (by omega)
  have hR2 := hR1.alloc (.cells #[] 3)
  clear hR1
  go_wp2_with fail
  refine (HBel.out 5 _ hR2.ds.grew hR2.ds.cur).mono ?_
  rintro e w2 ⟨k0, rfl, hk0, hg2, hC2⟩
  have hR3 := hR2.call hb hg2 hC2
  have hO3 := own_call hO1 hg2 (by omega)
  have hsz3 := hR3.res.lt
  have hk05 : k0 < 5 := by omega
  clear hR2 hO1 hg2 hC2 hk0 hsz1
  by_cases h0 : k0 = 0
  · subst h0
    go_wp2
    go_loopw [6, 7] (fun l t wr => ∃ (s : Nat) (B : Option Addr) (cr : Nat) (L : List Int), s ≤ p2 N ∧ t = .int .i64 s ∧ l = .slice B s cr ∧ Own wr (w.heap.size + 1) B s cr L ∧ DR w wr bc A n c (.int .i64 0) (.slice none 0 0)) (fun _ t _ => p2 N - (intOf t).toNat)
    case atStart => exact ⟨0, _, 0, _, Nat.zero_le _, rfl, rfl, hO3, hR3⟩
    clear hO3 hR3 hsz3
    case round =>
      obtain ⟨s, B, cr, L, hs, rfl, rfl, hO, hR⟩ := hrel
      by_cases hlt : s < p2 N
      · have HA := hide (HBel.out 6 wr hR.ds.grew hR.ds.cur)
        go_wp2_with fail
        refine HA.out.mono ?_
        rintro e w4 ⟨x, rfl, hx, hg4, hC4⟩
        have hx6 : x < 6 := by omega
        have hR4 := hR.call hb hg4 hC4
        have hO4 := own_call hO hg4 (by omega)
        have hsz4 := hR4.res.lt
        clear hx
        go_wp2_with (refine wpl_app (by rfl) _ _ (by rfl) (w.heap.size + 1) B s cr w4.heap.size L ((x : Int) - 1) (by rfl) (by rfl) (hO4.alloc _) (cell_new w4 _) (by omega) (by simp; omega) ?_; intro g cap w5 hO5 hgrow5 hat5 hlt5)
        go_roundw
        case rel => exact ⟨s + 1, _, cap, _, by omega, by go_num, rfl, hO5, hR4.app hO4 (by omega) (by omega) hgrow5⟩
        case measure => simp [intOf]; omega
      · obtain rfl : s = p2 N := by omega
        have v0 := hR.res.cell0
        have v1 := hR.res.cell1
        have z0 := hR.res.frozen
        have z1 := hR.res.frozen0
        have y := (hR.res.set0 (.int .i64 (N : Int))).set1 (.slice B (p2 N) cr)
        have y0 := y.cell0
        have y1 := y.cell1
        have hbb := hb
        clear hb
        go_wp2
        refine bodyPost_ret (v := .agg #[.int .i64 (N : Int), .slice B (p2 N) cr]) (by simp [results, Try.results212, go_sem, y0, y1]) rfl ⟨N, p2 N, B, cr, L, rfl, hN4, rfl, ?_, ?_⟩
        · have hl := fun g (hA : B = some ⟨g, 0, none⟩) => row_low hO hA
          exact ((hO.far (fun g hA => by have := hl g hA; simp; omega) _).far (fun g hA => by have := hl g hA; simp; omega) _).less (by omega)
        · have hd := (hR.ds.store (p := ⟨w.heap.size, 0, none⟩) (Nat.le_refl _) hbb (.int .i64 (N : Int))).store (p := ⟨w.heap.size, 1, none⟩) (Nat.le_refl _) hbb (.slice B (p2 N) cr)
          exact ⟨hd.grew, hd.cur⟩
  by_cases h1 : k0 = 1
  · subst h1
    have HA := hide (HBel.out ((N : Int) + 1) w2 hR3.ds.grew hR3.ds.cur)
    go_wp2_with fail
    refine HA.out.mono ?_
    rintro e w4 ⟨top, rfl, htop, hg4, hC4⟩
    have htop5 : top ≤ 4 := by omega
    have hR4 := hR3.call hb hg4 hC4
    have hO4 := own_call hO3 hg4 (by omega)
    clear htop hg4 hC4 hR3 hO3 hsz3
    go_wp2
    go_loopw [6, 9] (fun l t wr => ∃ (s : Nat) (B : Option Addr) (cr : Nat) (L : List Int), s ≤ p2 N ∧ t = .int .i64 s ∧ l = .slice B s cr ∧ Own wr (w.heap.size + 1) B s cr L ∧ DR w wr bc A n c (.int .i64 0) (.slice none 0 0)) (fun _ t _ => p2 N - (intOf t).toNat)
    case atStart => exact ⟨0, _, 0, _, Nat.zero_le _, rfl, rfl, hO4, hR4⟩
    clear hO4 hR4
    case round =>
      obtain ⟨s, B, cr, L, hs, rfl, rfl, hO, hR⟩ := hrel
      have hsz4 := hR.res.lt
      by_cases hlt : s < p2 N
      · go_wp2_with fail
        refine (l2Size_any s wr (by omega)).mono ?_
        rintro e w4 ⟨rfl, rfl⟩
        go_wp2_with (refine wpl_app (by rfl) _ _ (by rfl) (w.heap.size + 1) B s cr wr.heap.size L _ (by rfl) (by rfl) (hO.alloc _) (cell_new wr _) (by omega) (by simp; omega) ?_; intro g cap w5 hO5 hgrow5 hat5 hlt5)
        all_goals
          go_roundw
          case rel => exact ⟨s + 1, _, cap, _, by omega, by go_num, rfl, hO5, hR.app hO (by omega) (by omega) hgrow5⟩
          case measure => simp [intOf]; omega
      · obtain ⟨m, rfl⟩ : ∃ m : Nat, m = s := ⟨_, rfl⟩
        have hm : m = p2 N := by omega
        have HM := hide hm
        have hm16 : m ≤ 16 := by omega
        have hm0 : 0 < m := by omega
        have hge : ¬ (m : Int) < ((p2 N : Nat) : Int) := by omega
        clear hm hs hlt
        have hOB := hO
        have hRB := hR
        clear hO hR
        obtain ⟨wy, rfl⟩ : ∃ wy : World, wy = wr := ⟨_, rfl⟩
        have HA := hide (HOnce.out 2 wy hRB.ds.grew hRB.ds.cur)
        go_wp2_with fail
        refine HA.out.mono ?_
        rintro e w5 ⟨x, rfl, hg5, hC5⟩
        have hR5 := hRB.call hb hg5 hC5
        have hO5 := own_call hOB hg5 (by omega)
        clear hRB hOB hg5 hC5
        cases x
        · have v0 := hR5.res.cell0
          have v1 := hR5.res.cell1
          have z0 := hR5.res.frozen
          have z1 := hR5.res.frozen0
          have y := (hR5.res.set0 (.int .i64 (N : Int))).set1 (.slice B m cr)
          have y0 := y.cell0
          have y1 := y.cell1
          have hbb := hb
          clear hb
          go_wp2
          refine bodyPost_ret (v := .agg #[.int .i64 (N : Int), .slice B m cr]) (by simp [results, Try.results212, go_sem, y0, y1]) rfl ⟨N, m, B, cr, L, rfl, hN4, HM.out, ?_, ?_⟩
          · have hl := fun g (hA : B = some ⟨g, 0, none⟩) => row_low hO5 hA
            exact ((hO5.far (fun g hA => by have := hl g hA; simp; omega) _).far (fun g hA => by have := hl g hA; simp; omega) _).less (by omega)
          · have hd := (hR5.ds.store (p := ⟨w.heap.size, 0, none⟩) (Nat.le_refl _) hbb (.int .i64 (N : Int))).store (p := ⟨w.heap.size, 1, none⟩) (Nat.le_refl _) hbb (.slice B m cr)
            exact ⟨hd.grew, hd.cur⟩
        · have hsz5 := hR5.res.lt
          have hW0 := own_zero w5 (B := w.heap.size + 1) (by omega)
          have hO5a := hO5.alloc (.cells #[] 3)
          have hR5a := hR5.alloc (.cells #[] 3)
          have hdis : ∀ g g', (some ⟨w5.heap.size, 0, none⟩ : Option Addr) = some ⟨g, 0, none⟩ → B = some ⟨g', 0, none⟩ → g ≠ g' := by
            intro g g' h1 h2
            injection h1 with h1; injection h1 with h1 _
            have := own_lt hO5 h2
            omega
          clear hO5 hR5
          go_wp2
          go_loopw [10, 11] (fun l t wr => ∃ (j : Nat) (BW : Option Addr) (cw : Nat) (W : List Int), j ≤ N ∧ t = .int .i64 j ∧ l = .slice BW j cw ∧ Own wr (w.heap.size + 1) BW j cw W ∧ Own wr (w.heap.size + 1) B m cr L ∧ (∀ g g', BW = some ⟨g, 0, none⟩ → B = some ⟨g', 0, none⟩ → g ≠ g') ∧ DR w wr bc A n c (.int .i64 0) (.slice none 0 0)) (fun _ t _ => N - (intOf t).toNat)
          case atStart => exact ⟨0, _, 0, _, Nat.zero_le _, rfl, rfl, hW0, hO5a, hdis, hR5a⟩
          clear hW0 hO5a hR5a hdis
          case round =>
            obtain ⟨j, BW, cw, W, hj, rfl, rfl, hW, hO, hdis, hR⟩ := hrel
            have HD := hide hdis; clear hdis
            by_cases hlt : j < N
            · have HA := hide (HBel.out 4 wr hR.ds.grew hR.ds.cur)
              go_wp2_with fail
              refine HA.out.mono ?_
              rintro e w6 ⟨x, rfl, hx, hg6, hC6⟩
              have hR6 := hR.call hb hg6 hC6
              have hW6 := own_call hW hg6 (by omega)
              have hO6 := own_call hO hg6 (by omega)
              have hsz6 := hR6.res.lt
              clear hx
              go_wp2_with (refine wpl_app (by rfl) _ _ (by rfl) (w.heap.size + 1) BW j cw w6.heap.size W (x : Int) (by rfl) (by rfl) (hW6.alloc _) (cell_new w6 _) (by omega) (by simp; omega) ?_; intro g cap w7 hW7 hgrow7 hat7 hlt7)
              go_roundw
              case rel => exact ⟨j + 1, _, cap, _, by omega, by go_num, rfl, hW7, own_other hW6 hO6 HD.out hgrow7, own_apart hO6 HD.out hat7, hR6.app hW6 (by omega) (by omega) hgrow7⟩
              case measure => simp [intOf]; omega
            · obtain rfl : j = N := by omega
              obtain ⟨gB, rfl, hgB1, hgB2⟩ := hO.form hm0
              go_wp2
              go_loopw [12] (fun t wr => ∃ (s : Nat) (L2 : List Int), s ≤ m ∧ t = .int .i64 s ∧ Own wr (w.heap.size + 1) BW j cw W ∧ Own wr (w.heap.size + 1) (some ⟨gB, 0, none⟩) m cr L2 ∧ DR w wr bc A n c (.int .i64 0) (.slice none 0 0)) (fun t _ => m - (intOf t).toNat)
              case atStart => exact ⟨0, L, Nat.zero_le _, rfl, hW, hO, hR⟩
              clear hW hO hR
              case round =>
                obtain ⟨s, L2, hs, rfl, hW, hO, hR⟩ := hrel
                have HP := hide (show ((p2 j : Nat) : Int) = (m : Int) by rw [HM.out])
                by_cases hlt : s < m
                · have hlt2 : (s : Int) < ((p2 j : Nat) : Int) := by rw [HP.out]; omega
                  have hs10 : s < 1024 := by omega
                  go_wp2
                  clear hlt2
                  go_loopw [13] (fun t wr => ∃ (i : Nat) (L3 : List Int), i ≤ j ∧ t = .int .i64 i ∧ Own wr (w.heap.size + 1) BW j cw W ∧ Own wr (w.heap.size + 1) (some ⟨gB, 0, none⟩) m cr L3 ∧ DR w wr bc A n c (.int .i64 0) (.slice none 0 0)) (fun t _ => j - (intOf t).toNat)
                  case atStart => exact ⟨0, L2, Nat.zero_le _, rfl, hW, hO, hR⟩
                  clear hW hO hR
                  case round =>
                    obtain ⟨i, L3, hi, rfl, hW, hO, hR⟩ := hrel
                    by_cases hij : i < j
                    · cases hq : hasB s i
                      · go_wp2
                        go_roundw
                        case rel => exact ⟨i + 1, L3, by omega, by go_num, hW, hO, hR⟩
                        case measure => simp [intOf]; omega
                      · obtain ⟨gW, rfl, hgW1, hgW2⟩ := hW.form (by omega)
                        have hneq := HD.out gW gB rfl rfl
                        have c1 := hW.cell hij
                        have c2 := hO.cell hlt
                        have f2 := hO.frozen s
                        have i1 : (0 : Int) ≤ (s : Int) := by omega
                        have i2 : (s : Int) < (m : Int) := by omega
                        have i3 : (0 : Int) ≤ (i : Int) := by omega
                        have i4 : (i : Int) < (j : Int) := by omega
                        go_wp2
                        go_region
                        all_goals
                          go_wp2
                          go_roundw
                          case rel => exact ⟨i + 1, _, by omega, by go_num, hW.far (by intro g hA; injection hA with hA; injection hA with hA _; simp; omega) _, hO.set_ s _, (hR.drew).store (by simp; omega) hb _⟩
                          case measure => simp [intOf]; omega
                    · obtain rfl : i = j := by omega
                      go_wp2
                      go_roundw
                      case rel => exact ⟨s + 1, L3, by omega, by go_num, hW, hO, hR⟩
                      case measure => simp [intOf]; omega
                · have hge : ¬ (s : Int) < ((p2 j : Nat) : Int) := by rw [HP.out]; omega
                  have hO6 := hO
                  have hR6 := hR
                  clear hO hR hW
                  have v0 := hR6.res.cell0
                  have v1 := hR6.res.cell1
                  have z0 := hR6.res.frozen
                  have z1 := hR6.res.frozen0
                  have y := (hR6.res.set0 (.int .i64 (j : Int))).set1 (.slice (some ⟨gB, 0, none⟩ : Option Addr) m cr)
                  have y0 := y.cell0
                  have y1 := y.cell1
                  have hbb := hb
                  clear hb
                  go_wp2
                  refine bodyPost_ret (v := .agg #[.int .i64 (j : Int), .slice (some ⟨gB, 0, none⟩ : Option Addr) m cr]) (by simp [results, Try.results212, go_sem, y0, y1]) rfl ⟨j, m, (some ⟨gB, 0, none⟩ : Option Addr), cr, L2, rfl, hN4, HM.out, ?_, ?_⟩
                  · have hl := fun g (hA : (some ⟨gB, 0, none⟩ : Option Addr) = some ⟨g, 0, none⟩) => row_low hO6 hA
                    exact ((hO6.far (fun g hA => by have := hl g hA; simp; omega) _).far (fun g hA => by have := hl g hA; simp; omega) _).less (by omega)
                  · have hd := (hR6.ds.store (p := ⟨w.heap.size, 0, none⟩) (Nat.le_refl _) hbb (.int .i64 (j : Int))).store (p := ⟨w.heap.size, 1, none⟩) (Nat.le_refl _) hbb (.slice (some ⟨gB, 0, none⟩ : Option Addr) m cr)
                    exact ⟨hd.grew, hd.cur⟩
  · have e0 : ((k0 : Int) == 0) = false := by simp; omega
    have e1 : ((k0 : Int) == 1) = false := by simp; omega
    have HA := hide (HCov.out N (by omega) w2 (by have := hR3.ds.cur.lt; omega) hR3.ds.grew hR3.ds.cur)
    clear h0 h1
    go_wp2_with fail
    refine HA.out.mono ?_
    rintro e w4 ⟨m, B, cr, L, rfl, hm, hO4, hg4, hC4⟩
    have hRB := hR3.call hb hg4 hC4
    have hOB := hO4.less (B' := w.heap.size + 1) (by omega)
    have HM := hide hm
    have hm16 : m ≤ 16 := by omega
    have hm0 : 0 < m := by omega
    clear hm hO4 hg4 hC4 hR3 hO3 hsz3 e0 e1 HA
    have HA2 := hide (HOnce.out 2 w4 hRB.ds.grew hRB.ds.cur)
    go_wp2_with fail
    refine HA2.out.mono ?_
    rintro e w5 ⟨x, rfl, hg5, hC5⟩
    have hR5 := hRB.call hb hg5 hC5
    have hO5 := own_call hOB hg5 (by omega)
    clear hRB hOB hg5 hC5
    cases x
    · have v0 := hR5.res.cell0
      have v1 := hR5.res.cell1
      have z0 := hR5.res.frozen
      have z1 := hR5.res.frozen0
      have y := (hR5.res.set0 (.int .i64 (N : Int))).set1 (.slice B m cr)
      have y0 := y.cell0
      have y1 := y.cell1
      have hbb := hb
      clear hb
      go_wp2
      refine bodyPost_ret (v := .agg #[.int .i64 (N : Int), .slice B m cr]) (by simp [results, Try.results212, go_sem, y0, y1]) rfl ⟨N, m, B, cr, L, rfl, hN4, HM.out, ?_, ?_⟩
      · have hl := fun g (hA : B = some ⟨g, 0, none⟩) => row_low hO5 hA
        exact ((hO5.far (fun g hA => by have := hl g hA; simp; omega) _).far (fun g hA => by have := hl g hA; simp; omega) _).less (by omega)
      · have hd := (hR5.ds.store (p := ⟨w.heap.size, 0, none⟩) (Nat.le_refl _) hbb (.int .i64 (N : Int))).store (p := ⟨w.heap.size, 1, none⟩) (Nat.le_refl _) hbb (.slice B m cr)
        exact ⟨hd.grew, hd.cur⟩
    · have hsz5 := hR5.res.lt
      have hW0 := own_zero w5 (B := w.heap.size + 1) (by omega)
      have hO5a := hO5.alloc (.cells #[] 3)
      have hR5a := hR5.alloc (.cells #[] 3)
      have hdis : ∀ g g', (some ⟨w5.heap.size, 0, none⟩ : Option Addr) = some ⟨g, 0, none⟩ → B = some ⟨g', 0, none⟩ → g ≠ g' := by
        intro g g' h1 h2
        injection h1 with h1; injection h1 with h1 _
        have := own_lt hO5 h2
        omega
      clear hO5 hR5
      go_wp2
      go_loopw [10, 11] (fun l t wr => ∃ (j : Nat) (BW : Option Addr) (cw : Nat) (W : List Int), j ≤ N ∧ t = .int .i64 j ∧ l = .slice BW j cw ∧ Own wr (w.heap.size + 1) BW j cw W ∧ Own wr (w.heap.size + 1) B m cr L ∧ (∀ g g', BW = some ⟨g, 0, none⟩ → B = some ⟨g', 0, none⟩ → g ≠ g') ∧ DR w wr bc A n c (.int .i64 0) (.slice none 0 0)) (fun _ t _ => N - (intOf t).toNat)
      case atStart => exact ⟨0, _, 0, _, Nat.zero_le _, rfl, rfl, hW0, hO5a, hdis, hR5a⟩
      clear hW0 hO5a hR5a hdis
      case round =>
        obtain ⟨j, BW, cw, W, hj, rfl, rfl, hW, hO, hdis, hR⟩ := hrel
        have HD := hide hdis; clear hdis
        by_cases hlt : j < N
        · have HA := hide (HBel.out 4 wr hR.ds.grew hR.ds.cur)
          go_wp2_with fail
          refine HA.out.mono ?_
          rintro e w6 ⟨x, rfl, hx, hg6, hC6⟩
          have hR6 := hR.call hb hg6 hC6
          have hW6 := own_call hW hg6 (by omega)
          have hO6 := own_call hO hg6 (by omega)
          have hsz6 := hR6.res.lt
          clear hx
          go_wp2_with (refine wpl_app (by rfl) _ _ (by rfl) (w.heap.size + 1) BW j cw w6.heap.size W (x : Int) (by rfl) (by rfl) (hW6.alloc _) (cell_new w6 _) (by omega) (by simp; omega) ?_; intro g cap w7 hW7 hgrow7 hat7 hlt7)
          go_roundw
          case rel => exact ⟨j + 1, _, cap, _, by omega, by go_num, rfl, hW7, own_other hW6 hO6 HD.out hgrow7, own_apart hO6 HD.out hat7, hR6.app hW6 (by omega) (by omega) hgrow7⟩
          case measure => simp [intOf]; omega
        · obtain rfl : j = N := by omega
          obtain ⟨gB, rfl, hgB1, hgB2⟩ := hO.form hm0
          go_wp2
          go_loopw [12] (fun t wr => ∃ (s : Nat) (L2 : List Int), s ≤ m ∧ t = .int .i64 s ∧ Own wr (w.heap.size + 1) BW j cw W ∧ Own wr (w.heap.size + 1) (some ⟨gB, 0, none⟩) m cr L2 ∧ DR w wr bc A n c (.int .i64 0) (.slice none 0 0)) (fun t _ => m - (intOf t).toNat)
          case atStart => exact ⟨0, L, Nat.zero_le _, rfl, hW, hO, hR⟩
          clear hW hO hR
          case round =>
            obtain ⟨s, L2, hs, rfl, hW, hO, hR⟩ := hrel
            have HP := hide (show ((p2 j : Nat) : Int) = (m : Int) by rw [HM.out])
            by_cases hlt : s < m
            · have hlt2 : (s : Int) < ((p2 j : Nat) : Int) := by rw [HP.out]; omega
              have hs10 : s < 1024 := by omega
              go_wp2
              clear hlt2
              go_loopw [13] (fun t wr => ∃ (i : Nat) (L3 : List Int), i ≤ j ∧ t = .int .i64 i ∧ Own wr (w.heap.size + 1) BW j cw W ∧ Own wr (w.heap.size + 1) (some ⟨gB, 0, none⟩) m cr L3 ∧ DR w wr bc A n c (.int .i64 0) (.slice none 0 0)) (fun t _ => j - (intOf t).toNat)
              case atStart => exact ⟨0, L2, Nat.zero_le _, rfl, hW, hO, hR⟩
              clear hW hO hR
              case round =>
                obtain ⟨i, L3, hi, rfl, hW, hO, hR⟩ := hrel
                by_cases hij : i < j
                · cases hq : hasB s i
                  · go_wp2
                    go_roundw
                    case rel => exact ⟨i + 1, L3, by omega, by go_num, hW, hO, hR⟩
                    case measure => simp [intOf]; omega
                  · obtain ⟨gW, rfl, hgW1, hgW2⟩ := hW.form (by omega)
                    have hneq := HD.out gW gB rfl rfl
                    have c1 := hW.cell hij
                    have c2 := hO.cell hlt
                    have f2 := hO.frozen s
                    have i1 : (0 : Int) ≤ (s : Int) := by omega
                    have i2 : (s : Int) < (m : Int) := by omega
                    have i3 : (0 : Int) ≤ (i : Int) := by omega
                    have i4 : (i : Int) < (j : Int) := by omega
                    go_wp2
                    go_region
                    all_goals
                      go_wp2
                      go_roundw
                      case rel => exact ⟨i + 1, _, by omega, by go_num, hW.far (by intro g hA; injection hA with hA; injection hA with hA _; simp; omega) _, hO.set_ s _, (hR.drew).store (by simp; omega) hb _⟩
                      case measure => simp [intOf]; omega
                · obtain rfl : i = j := by omega
                  go_wp2
                  go_roundw
                  case rel => exact ⟨s + 1, L3, by omega, by go_num, hW, hO, hR⟩
                  case measure => simp [intOf]; omega
            · have hge : ¬ (s : Int) < ((p2 j : Nat) : Int) := by rw [HP.out]; omega
              have hO6 := hO
              have hR6 := hR
              clear hO hR hW
              have v0 := hR6.res.cell0
              have v1 := hR6.res.cell1
              have z0 := hR6.res.frozen
              have z1 := hR6.res.frozen0
              have y := (hR6.res.set0 (.int .i64 (j : Int))).set1 (.slice (some ⟨gB, 0, none⟩ : Option Addr) m cr)
              have y0 := y.cell0
              have y1 := y.cell1
              have hbb := hb
              clear hb
              go_wp2
              refine bodyPost_ret (v := .agg #[.int .i64 (j : Int), .slice (some ⟨gB, 0, none⟩ : Option Addr) m cr]) (by simp [results, Try.results212, go_sem, y0, y1]) rfl ⟨j, m, (some ⟨gB, 0, none⟩ : Option Addr), cr, L2, rfl, hN4, HM.out, ?_, ?_⟩
              · have hl := fun g (hA : (some ⟨gB, 0, none⟩ : Option Addr) = some ⟨g, 0, none⟩) => row_low hO6 hA
                exact ((hO6.far (fun g hA => by have := hl g hA; simp; omega) _).far (fun g hA => by have := hl g hA; simp; omega) _).less (by omega)
              · have hd := (hR6.ds.store (p := ⟨w.heap.size, 0, none⟩) (Nat.le_refl _) hbb (.int .i64 (j : Int))).store (p := ⟨w.heap.size, 1, none⟩) (Nat.le_refl _) hbb (.slice (some ⟨gB, 0, none⟩ : Option Addr) m cr)
                exact ⟨hd.grew, hd.cur⟩
end Go.Proofs.Ytokeejachclpeaa
namespace Go.Proofs.Ytokeejachclpeaa
open Go.RowKit

/-- Any function that was drawn, in new memory. -/
def AnyDrawn (w w' : World) (bc : Nat) (A : Option Addr) (n c : Nat) (e : Ending) : Prop :=
  ∃ (E : Int) (r : Nat) (B : Option Addr) (cr : Nat) (L : List Int), e = .returned (.agg #[.int .i64 E, .slice B r cr]) ∧ r ≤ 16 ∧ Own w' w.heap.size B r cr L ∧ w.grownBy w' (some bc) ∧ Cur w' bc A n c
theorem ints_five (w : World) (a b c d e : Int) : Ints (w.alloc (.cells #[.int .i64 a, .int .i64 b, .int .i64 c, .int .i64 d, .int .i64 e] 3)) (some ⟨w.heap.size, 0, none⟩) 5 [a, b, c, d, e] := by
  refine ⟨rfl, by omega, fun _ => ⟨w.heap.size, 0, rfl, fun j hj => ?_⟩⟩
  rw [World.cell?_alloc_at _ _ _ _ rfl]
  match j, hj with
  | 0, _ => rfl
  | 1, _ => rfl
  | 2, _ => rfl
  | 3, _ => rfl
  | 4, _ => rfl
theorem ints_six (w : World) (a b c d e f : Int) : Ints (w.alloc (.cells #[.int .i64 a, .int .i64 b, .int .i64 c, .int .i64 d, .int .i64 e, .int .i64 f] 3)) (some ⟨w.heap.size, 0, none⟩) 6 [a, b, c, d, e, f] := by
  refine ⟨rfl, by omega, fun _ => ⟨w.heap.size, 0, rfl, fun j hj => ?_⟩⟩
  rw [World.cell?_alloc_at _ _ _ _ rfl]
  match j, hj with
  | 0, _ => rfl
  | 1, _ => rfl
  | 2, _ => rfl
  | 3, _ => rfl
  | 4, _ => rfl
  | 5, _ => rfl
set_option maxHeartbeats 8000000 in
theorem l2Any_any (bc : Nat) (A : Option Addr) (n c : Nat) (w : World) (hb : bc < w.heap.size) (hB : Byts w A n) (hne : Apart A n bc) (hC : Cur w bc A n c) :
    Calls Try.prog 164 #[.pointer (some ⟨bc, 0, none⟩)] w fun e w' => AnyDrawn w w' bc A n c e := by
  have HBel := hide (fun (k : Int) W (h : w.grownBy W (some bc)) (hc : Cur W bc A n c) => l1Below_any bc A n c k W (byts_grown hB h hne) hne hc)
  have HPick := hide (fun (B : Option Addr) (r cr : Nat) (L : List Int) W (hL : Ints W B r L) (hr : 0 < r) (h : w.grownBy W (some bc)) (h2 : ∀ b off, B = some ⟨b, off, none⟩ → b ≠ bc) (hc : Cur W bc A n c) => l1PickInt_any bc A n c B r cr L W hL hr (byts_grown hB h hne) hne h2 hc)
  have HDraw := hide (fun W (hb : bc < W.heap.size) (h : w.grownBy W (some bc)) (hc : Cur W bc A n c) => l2Draw_any bc A n c W hb (byts_grown hB h hne) hne hc)
  have hR0 := DR.start hC (.int .i64 0) (.slice none 0 0)
  clear hB hne hC
  go_enter Try.func164, Try.ntmps164
  go_wp2_with fail
  refine (HDraw.out _ (by simp; omega) hR0.ds.grew hR0.ds.cur).mono ?_
  rintro e w1 ⟨N, m, B, cr, L, rfl, hN4, hm, hO1, hg1, hC1⟩
  have hR1 := hR0.call hb hg1 hC1
  have hm16 : m ≤ 16 := by rw [hm]; exact Nat.le_trans (Nat.pow_le_pow_right (by decide) hN4) (by decide)
  have hm0 : 0 < m := by rw [hm]; exact Nat.two_pow_pos N
  have hO1' : Own w1 (w.heap.size + 1) B m cr L := by simpa using hO1
  have hsz1 := hR1.res.lt
  have hR2 := hR1.alloc (.cells #[.int .i64 (N : Int), .slice B m cr] 26)
  have hT2 : Two (w1.alloc (.cells #[.int .i64 (N : Int), .slice B m cr] 26)) w1.heap.size (.int .i64 (N : Int)) (.slice B m cr) := heap_alloc_new w1 _
  have hO2 := hO1'.alloc (.cells #[.int .i64 (N : Int), .slice B m cr] 26)
  obtain ⟨b3, hb3⟩ : ∃ b3, b3 = w1.heap.size := ⟨_, rfl⟩
  have hwb : w.heap.size < b3 := by omega
  have hBl := hide (fun g (hA : B = some ⟨g, 0, none⟩) => show g < b3 from by have := own_lt hO1' hA; omega)
  rw [← hb3] at hT2
  clear hR0 hg1 hC1 hO1 hO1' hR1 hm hsz1
  go_wp2_with fail
  refine (HBel.out 16 _ hR2.ds.grew hR2.ds.cur).mono ?_
  rintro e w2 ⟨k, rfl, hk, hg2, hC2⟩
  have hR3 := hR2.call hb hg2 hC2
  have hT3 := hT2.same (hg2.block b3 hT2.lt (fun hk => by injection hk with hk; omega))
  have hO3 := own_call hO2 hg2 (by omega)
  have hk16 : k < 16 := by omega
  have hlt3 := hT3.lt
  clear hR2 hT2 hO2 hg2 hC2 hk
  rw [← hb3]
  clear hb3
  by_cases h0 : k = 0
  · subst h0
    have hI := ints_five w2 (-1) 6 5 0 9223372036854775807
    have hR4 := hR3.alloc (.cells #[.int .i64 (-1), .int .i64 6, .int .i64 5, .int .i64 0, .int .i64 9223372036854775807] 3)
    have HP := hide (HPick.out _ 5 5 _ _ hI (by omega) hR4.ds.grew (by intro b off h; injection h with h; injection h with h _; have := hR3.res.lt; omega) hR4.ds.cur)
    have hO4 := hO3.alloc (.cells #[.int .i64 (-1), .int .i64 6, .int .i64 5, .int .i64 0, .int .i64 9223372036854775807] 3)
    have hT4 := hT3.below ((Below.refl w2.heap.size w2).alloc (Nat.le_refl _) (.cells #[.int .i64 (-1), .int .i64 6, .int .i64 5, .int .i64 0, .int .i64 9223372036854775807] 3)) hlt3
    clear hI
    go_wp2_with fail
    refine HP.out.mono ?_
    rintro e w5 ⟨x, hx, rfl, hg5, hC5⟩
    have hR5 := hR4.call hb hg5 hC5
    have hO5 := own_call hO4 hg5 (by omega)
    have hT5' := hT4.same (hg5.block b3 hT4.lt (fun hk => by injection hk with hk; omega))
    obtain ⟨E, hE⟩ : ∃ E, E = gv [-1, 6, 5, 0, 9223372036854775807] x := ⟨_, rfl⟩
    rw [← hE]
    have f0 := hT5'.frozen0
    have u0 := hT5'.cell0
    have hT5 := hT5'.set0 (.int .i64 E)
    have hR6 := hR5.store (p := ⟨b3, 0, none⟩) (by simp; omega) hb (.int .i64 E)
    have hO6 := hO5.far (p := ⟨b3, 0, none⟩) (fun g hA => by have := hBl.out g hA; simp; omega) (.int .i64 E)
    clear hR4 hO4 hT4 hg5 hC5 hR3 hT3 hO3 hE hR5 hO5
    have c0 := hT5.cell0
    have c1 := hT5.cell1
    have v0 := hR6.res.cell0
    have v1 := hR6.res.cell1
    have z0 := hR6.res.frozen
    have z1 := hR6.res.frozen0
    have y := (hR6.res.set0 (.int .i64 (E))).set1 (.slice B m cr)
    have y0 := y.cell0
    have y1 := y.cell1
    have hbb := hb
    clear hb
    go_wp2
    refine bodyPost_ret (v := .agg #[.int .i64 (E), .slice B m cr]) (by simp [results, Try.results164, go_sem, y0, y1]) rfl ⟨E, m, B, cr, L, rfl, hm16, ?_, ?_⟩
    · have hl := fun g (hA : B = some ⟨g, 0, none⟩) => row_low hO6 hA
      exact ((hO6.far (fun g hA => by have := hl g hA; simp; omega) _).far (fun g hA => by have := hl g hA; simp; omega) _).less (by omega)
    · have hd := (hR6.ds.store (p := ⟨w.heap.size, 0, none⟩) (Nat.le_refl _) hbb (.int .i64 (E))).store (p := ⟨w.heap.size, 1, none⟩) (Nat.le_refl _) hbb (.slice B m cr)
      exact ⟨hd.grew, hd.cur⟩
  by_cases h1 : k = 1
  · subst h1
    obtain ⟨g0, rfl, hgB1, hgB2⟩ := hO3.form hm0
    have hI := ints_five w2.drew 1 (-1) 1001 (-9223372036854775808) 1000
    have hR4 := (hR3.drew).alloc (.cells #[.int .i64 1, .int .i64 (-1), .int .i64 1001, .int .i64 (-9223372036854775808), .int .i64 1000] 3)
    have HP := hide (HPick.out _ 5 5 _ _ hI (by omega) hR4.ds.grew (by intro b off h; injection h with h; injection h with h _; have := hR3.res.lt; simp at h; omega) hR4.ds.cur)
    have hO4 := (show Own w2.drew _ _ _ _ _ from hO3).alloc (.cells #[.int .i64 1, .int .i64 (-1), .int .i64 1001, .int .i64 (-9223372036854775808), .int .i64 1000] 3)
    have hT4 := (show Two w2.drew _ _ _ from hT3).below ((Below.refl w2.drew.heap.size w2.drew).alloc (Nat.le_refl _) (.cells #[.int .i64 1, .int .i64 (-1), .int .i64 1001, .int .i64 (-9223372036854775808), .int .i64 1000] 3)) hlt3
    have c1 := hT3.cell1
    have c0 := hO3.cell (k := 0) hm0
    have hgb3 := hBl.out g0 rfl
    have i0 : (0 : Int) < (m : Int) := by omega
    clear hI
    go_wp2
    go_region_held3 (fun w' => w'.cell? ⟨b3, 1, none⟩ = some (.slice (some ⟨g0, 0, none⟩) m cr))
      (first
        | go_keep
        | exact (hT4.same (hg5.block b3 hT4.lt (fun hk => by injection hk with hk; omega))).cell1
        | exact ((hT4.same (hg5.block b3 hT4.lt (fun hk => by injection hk with hk; omega))).far (by simp; omega) _).cell1)
      (first
        | (go_at_call 209; refine HP.out.mono ?_; rintro e w5 ⟨x, hx, rfl, hg5, hC5⟩; have hR5 := hR4.call hb hg5 hC5; have hO5 := own_call hO4 hg5 (by omega); have f5 := hO5.frozen 0; have q5 := hO5.cell hm0))
    have hT5' := hT4.same (hg5.block b3 hT4.lt (fun hk => by injection hk with hk; omega))
    have hT5 := hT5'.far (p := ⟨g0, 0, none⟩) (by simp; omega) (.int .i64 (gv [1, -1, 1001, -9223372036854775808, 1000] x))
    have hR6 := hR5.store (p := ⟨g0, 0, none⟩) (by simp; omega) hb (.int .i64 (gv [1, -1, 1001, -9223372036854775808, 1000] x))
    have hO6 := hO5.set_ 0 (gv [1, -1, 1001, -9223372036854775808, 1000] x)
    clear hR4 hO4 hT4 hg5 hC5 hR3 hT3 hO3 hR5 hO5 c0 c1 f5 q5
    have c0 := hT5.cell0
    have c1 := hT5.cell1
    have v0 := hR6.res.cell0
    have v1 := hR6.res.cell1
    have z0 := hR6.res.frozen
    have z1 := hR6.res.frozen0
    have y := (hR6.res.set0 (.int .i64 (N : Int))).set1 (.slice (some ⟨g0, 0, none⟩) m cr)
    have y0 := y.cell0
    have y1 := y.cell1
    have hbb := hb
    clear hb
    go_wp2
    refine bodyPost_ret (v := .agg #[.int .i64 (N : Int), .slice (some ⟨g0, 0, none⟩) m cr]) (by simp [results, Try.results164, go_sem, y0, y1]) rfl ⟨(N : Int), m, _, cr, L.set 0 (gv [1, -1, 1001, -9223372036854775808, 1000] x), rfl, hm16, ?_, ?_⟩
    · have hl := fun g (hA : (some ⟨g0, 0, none⟩ : Option Addr) = some ⟨g, 0, none⟩) => row_low hO6 hA
      exact ((hO6.far (fun g hA => by have := hl g hA; simp; omega) _).far (fun g hA => by have := hl g hA; simp; omega) _).less (by omega)
    · have hd := (hR6.ds.store (p := ⟨w.heap.size, 0, none⟩) (Nat.le_refl _) hbb (.int .i64 (N : Int))).store (p := ⟨w.heap.size, 1, none⟩) (Nat.le_refl _) hbb (.slice (some ⟨g0, 0, none⟩) m cr)
      exact ⟨hd.grew, hd.cur⟩
  have e0 : ((k : Int) == 0) = false := by simp; omega
  have e1 : ((k : Int) == 1) = false := by simp; omega
  have c0 := hT3.cell0
  have c1 := hT3.cell1
  have v0 := hR3.res.cell0
  have v1 := hR3.res.cell1
  have z0 := hR3.res.frozen
  have z1 := hR3.res.frozen0
  have y := (hR3.res.set0 (.int .i64 (N : Int))).set1 (.slice B m cr)
  have y0 := y.cell0
  have y1 := y.cell1
  have hbb := hb
  clear hb h0 h1
  go_wp2
  refine bodyPost_ret (v := .agg #[.int .i64 (N : Int), .slice B m cr]) (by simp [results, Try.results164, go_sem, y0, y1]) rfl ⟨(N : Int), m, B, cr, L, rfl, hm16, ?_, ?_⟩
  · have hl := fun g (hA : B = some ⟨g, 0, none⟩) => row_low hO3 hA
    exact ((hO3.far (fun g hA => by have := hl g hA; simp; omega) _).far (fun g hA => by have := hl g hA; simp; omega) _).less (by omega)
  · have hd := (hR3.ds.store (p := ⟨w.heap.size, 0, none⟩) (Nat.le_refl _) hbb (.int .i64 (N : Int))).store (p := ⟨w.heap.size, 1, none⟩) (Nat.le_refl _) hbb (.slice B m cr)
    exact ⟨hd.grew, hd.cur⟩
end Go.Proofs.Ytokeejachclpeaa
namespace Go.Proofs.Ytokeejachclpeaa
open Go.RowKit

theorem Byts.below {w w1 : World} {A : Option Addr} {n : Nat} (h : Byts w A n) (hb : Below w.heap.size w w1) : Byts w1 A n :=
  ⟨h.1, fun h0 => by
    obtain ⟨b, off, rfl, hc⟩ := h.2 h0
    refine ⟨b, off, rfl, fun j hj => ?_⟩
    obtain ⟨y, hy, hcy⟩ := hc j hj
    exact ⟨y, hy, (hb.cell (p := ⟨b, off + j, none⟩) (World.block_lt_of_cell? _ _ hcy)).trans hcy⟩⟩
theorem Byts.alloc {w : World} {A : Option Addr} {n : Nat} (h : Byts w A n) (o : Obj) : Byts (w.alloc o) A n := h.below ((Below.refl _ _).alloc (Nat.le_refl _) o)
theorem Byts.apart {w : World} {A : Option Addr} {n bc : Nat} (h : Byts w A n) (hb : w.heap.size ≤ bc) : Apart A n bc := fun h0 b off hA => by
  obtain ⟨b', off', hA', hc⟩ := h.2 h0
  rw [hA'] at hA
  injection hA with hA; injection hA with hA _
  obtain ⟨y, _, hcy⟩ := hc 0 h0
  have h1 := World.block_lt_of_cell? _ _ hcy
  have h2 : b' < w.heap.size := h1
  omega
/-- Behind a draw whose cursor is new. -/
theorem below_draw {w w1 w2 : World} {B bc : Nat} (h : Below B w w1) (hg : w1.grownBy w2 (some bc)) (hbc : B ≤ bc) (hB : B ≤ w1.heap.size) : Below B w w2 :=
  h.trans ⟨hg.os, hg.tape, hg.output, hg.size, fun k hk => hg.block k (by omega) (fun he => by injection he with he; omega)⟩
theorem own_draw {w w1 : World} {b0 bc r cr : Nat} {B : Option Addr} {L : List Int} (hown : Own w b0 B r cr L) (hg : w.grownBy w1 (some bc)) (hne : ∀ g, B = some ⟨g, 0, none⟩ → g ≠ bc) : Own w1 b0 B r cr L :=
  hown.keep fun g hlt hA => hg.block g hlt (fun hk => by injection hk with hk; exact hne g hA hk)
/-- What a new cursor leaves. -/
structure Begun (w w1 : World) (bc : Nat) (A : Option Addr) (n c : Nat) : Prop where
  new : w.heap.size ≤ bc
  below : Below w.heap.size w w1
  cur : Cur w1 bc A n c
  orig : Byts w A n
section
variable {w w1 w2 : World} {bc n c : Nat} {A : Option Addr}
theorem Begun.lt (h : Begun w w1 bc A n c) : bc < w1.heap.size := h.cur.lt
theorem Begun.byts (h : Begun w w1 bc A n c) : Byts w1 A n := h.orig.below h.below
theorem Begun.apart (h : Begun w w1 bc A n c) : Apart A n bc := h.orig.apart h.new
theorem Begun.call (h : Begun w w1 bc A n c) (hg : w1.grownBy w2 (some bc)) (hC : Cur w2 bc A n c) : Begun w w2 bc A n c :=
  ⟨h.new, below_draw h.below hg h.new h.below.size, hC, h.orig⟩
theorem Begun.step (h : Begun w w1 bc A n c) (hb : Below w1.heap.size w1 w2) : Begun w w2 bc A n c :=
  ⟨h.new, h.below.trans (hb.mono h.below.size), h.cur.below hb h.lt, h.orig⟩
theorem Begun.alloc (h : Begun w w1 bc A n c) (o : Obj) : Begun w (w1.alloc o) bc A n c := h.step ((Below.refl _ _).alloc (Nat.le_refl _) o)
theorem Begun.drew (h : Begun w w1 bc A n c) : Begun w w1.drew bc A n c := h.step ((Below.refl w1.heap.size w1).drew)
theorem Begun.store (h : Begun w w1 bc A n c) {p : Addr} (hp : p.block ≠ bc) (hp2 : w.heap.size ≤ p.block) (u : Value) : Begun w (w1.setCell p u) bc A n c :=
  ⟨h.new, h.below.setCell hp2 u, h.cur.same (Below.heap_setCell w1 p u bc (fun he => hp he.symm)), h.orig⟩
theorem Begun.app {o : Obj} {b0 r cr : Nat} {B : Option Addr} {L : List Int} (h : Begun w w1 bc A n c) (hown : Own w1 b0 B r cr L) (hb : ∀ g, B = some ⟨g, 0, none⟩ → g ≠ bc) (hw : w.heap.size ≤ b0) (hg : (w1.alloc o).grownBy w2 (B.map (·.block))) : Begun w w2 bc A n c := by
  have ha := h.alloc o
  have hne : ∀ k, some k = B.map (·.block) → b0 ≤ k ∧ k ≠ bc := by
    intro k hk
    rcases hown.where_ with e | ⟨g, e, h1, _⟩
    · rw [e] at hk; cases hk
    · have h2 := hb g e
      rw [e] at hk; simp at hk; omega
  exact ⟨h.new, ha.below.grown hg ha.below.size (fun k hk => by have := hne k hk.symm; omega), ha.cur.same (hg.block bc ha.lt (fun hk => by have := hne bc hk; omega)), h.orig⟩
end
theorem begin_any (A : Option Addr) (n c : Nat) (w : World) (hB : Byts w A n) :
    Calls Try.prog 163 #[.slice A n c] w fun e w' => ∃ bc : Nat, e = .returned (.pointer (some ⟨bc, 0, none⟩)) ∧ Begun w w' bc A n c :=
  (l1New_any A n c w hB).mono fun _ _ ⟨bc, h1, h2, h3, h4⟩ => ⟨bc, h1, h2, h3, h4, hB⟩
/-- A function that was drawn from a code, in new memory; nothing old has turned. -/
def CodeFn (w w' : World) (e : Ending) : Prop :=
  ∃ (E : Int) (r : Nat) (B : Option Addr) (cr : Nat) (L : List Int), e = .returned (.agg #[.int .i64 E, .slice B r cr]) ∧ r ≤ 32 ∧ Own w' w.heap.size B r cr L ∧ Below w.heap.size w w'
/-- The same, with a number. -/
def CodeSet (w w' : World) (e : Ending) : Prop :=
  ∃ (E : Int) (r : Nat) (B : Option Addr) (cr : Nat) (L : List Int) (s : Int), e = .returned (.tuple #[.agg #[.int .i64 E, .slice B r cr], .int .i64 s]) ∧ r ≤ 32 ∧ Own w' w.heap.size B r cr L ∧ Below w.heap.size w w'
/-- The same, with two numbers. -/
def CodeTwo (w w' : World) (e : Ending) : Prop :=
  ∃ (E : Int) (r : Nat) (B : Option Addr) (cr : Nat) (L : List Int) (s t : Int), e = .returned (.tuple #[.agg #[.int .i64 E, .slice B r cr], .int .i64 s, .int .i64 t]) ∧ r ≤ 32 ∧ Own w' w.heap.size B r cr L ∧ Below w.heap.size w w'
set_option maxHeartbeats 4000000 in
theorem l2Set_any (A : Option Addr) (n c : Nat) (w : World) (hB : Byts w A n) :
    Calls Try.prog 192 #[.slice A n c] w fun e w' => CodeSet w w' e := by
  have hT0 : Two (w.alloc (.cells #[.int .i64 0, .slice none 0 0] 26)) w.heap.size (.int .i64 0) (.slice none 0 0) := heap_alloc_new w _
  have hb0 := (Below.refl w.heap.size w).alloc (Nat.le_refl _) (.cells #[.int .i64 0, .slice none 0 0] 26)
  have z0 : (w.alloc (.cells #[.int .i64 0, .slice none 0 0] 26)).heap.size = w.heap.size + 1 := by simp
  go_enter Try.func192, Try.ntmps192
  go_wp2_with fail
  refine (begin_any A n c _ (hB.alloc _)).mono ?_
  rintro e w1 ⟨bc, rfl, hN1⟩
  have hnew := hN1.new
  rw [z0] at hnew
  have hT1 := hT0.below hN1.below (by simp)
  have hB1 := hb0.trans (hN1.below.mono (by simp))
  go_wp2_with fail
  refine (l2Any_any bc A n c w1 hN1.lt hN1.byts hN1.apart hN1.cur).mono ?_
  rintro e w2 ⟨E, r, B, cr, L, rfl, hr, hO2, hg2, hC2⟩
  have hN2 := hN1.call hg2 hC2
  have hT2 := hT1.same (hg2.block _ hT1.lt (fun hk => by injection hk with hk; omega))
  have hB2 := below_draw hB1 hg2 (by omega) hB1.size
  have hlt1 := hT1.lt
  have hlt2 := hT2.lt
  have hsz12 := hg2.size
  have hN3 := (hN2.alloc (.cells #[.int .i64 E, .slice B r cr] 26)).drew
  have hF3 : Two (w2.alloc (.cells #[.int .i64 E, .slice B r cr] 26)) w2.heap.size (.int .i64 E) (.slice B r cr) := heap_alloc_new w2 _
  have hT3 := hT2.below ((Below.refl w2.heap.size w2).alloc (Nat.le_refl _) (.cells #[.int .i64 E, .slice B r cr] 26)) hlt2
  have hO3 := hO2.alloc (.cells #[.int .i64 E, .slice B r cr] 26)
  have hB3 := hB2.alloc hB2.size (.cells #[.int .i64 E, .slice B r cr] 26)
  have hlt := hN1.lt
  obtain ⟨b2, hb2⟩ : ∃ b2, b2 = w2.heap.size := ⟨_, rfl⟩
  obtain ⟨w3, hw3⟩ : ∃ w3, w3 = w2.alloc (.cells #[.int .i64 E, .slice B r cr] 26) := ⟨_, rfl⟩
  have hBl := hide (fun g (hA : B = some ⟨g, 0, none⟩) => show g < b2 from by have := own_lt hO2 hA; omega)
  have hwb : w.heap.size < b2 := by omega
  have hbcb : bc < b2 := by omega
  rw [← hw3] at hN3 hF3 hT3 hO3 hB3
  rw [← hb2] at hF3
  clear hN1 hN2 hT1 hT2 hO2 hg2 hC2 hB1 hB2 hT0 hb0 z0
  have f0 := hF3.cell0
  have f1 := hF3.cell1
  have v0 := hT3.cell0
  have v1 := hT3.cell1
  have q0 := hT3.frozen0
  have q1 := hT3.frozen
  go_wp2
  rw [← hw3, ← hb2]
  clear hw3 hb2
  go_region_held3 (fun w' => w'.cell? ⟨b2, 0, none⟩ = some (.int .i64 E) ∧ w'.cell? ⟨b2, 1, none⟩ = some (.slice B r cr))
    (first
      | go_keep
      | exact ⟨hF4.cell0, hF4.cell1⟩
      | exact ⟨((hF4.far (p := ⟨w.heap.size, 0, none⟩) (by simp; omega) _).far (p := ⟨w.heap.size, 1, none⟩) (by simp; omega) _).cell0, ((hF4.far (p := ⟨w.heap.size, 0, none⟩) (by simp; omega) _).far (p := ⟨w.heap.size, 1, none⟩) (by simp; omega) _).cell1⟩)
    (first
      | (go_at_call 194; refine (l1Below_any bc A n c 18 _ hN3.byts hN3.apart hN3.cur).mono ?_; rintro e w4 ⟨x, rfl, hx, hg4, hC4⟩; have hx18 : x < 18 := (by omega); have hF4 := (show Two w3.drew _ _ _ from hF3).same (hg4.block b2 hF3.lt (fun hk => by injection hk with hk; omega)); have hT4 := (show Two w3.drew _ _ _ from hT3).same (hg4.block _ hT3.lt (fun hk => by injection hk with hk; omega)); have v2 := hT4.cell0; have v3 := hT4.cell1; have q2 := hT4.frozen0; have q3 := hT4.frozen))
  have y := (hT4.set0 (.int .i64 E)).set1 (.slice B r cr)
  have y0 := y.cell0
  have y1 := y.cell1
  have hO4 := own_draw (show Own w3.drew _ _ _ _ _ from hO3) hg4 (fun g hA => by
    have h1 := hO3.where_
    have h2 := hBl.out g hA
    rcases h1 with h0 | ⟨g', h0, h3, _⟩
    · rw [h0] at hA; cases hA
    · rw [h0] at hA; injection hA with hA; injection hA with hA _
      omega)
  have hB4 := below_draw (hB3.drew) hg4 (by omega) hB3.size
  have hwx : IntKind.i64.wrap ((x : Int) - 1) = (x : Int) - 1 := IntWalk.i64_in _ (by omega)
  go_wp2
  refine bodyPost_ret (v := .tuple #[.agg #[.int .i64 E, .slice B r cr], .int .i64 ((x : Int) - 1)]) (by simp [results, Try.results192, go_sem, y0, y1, hwx]) rfl ⟨E, r, B, cr, L, (x : Int) - 1, rfl, by omega, ?_, ?_⟩
  · have hl := fun g (hA : B = some ⟨g, 0, none⟩) => row_low hO4 hA
    exact ((hO4.far (fun g hA => by have := hl g hA; simp; omega) _).far (fun g hA => by have := hl g hA; simp; omega) _).less (by omega)
  · exact (hB4.setCell (Nat.le_refl _) _).setCell (Nat.le_refl _) _
set_option maxHeartbeats 4000000 in
theorem drawMinimizersOf_any (A : Option Addr) (n c : Nat) (w : World) (hB : Byts w A n) :
    Calls Try.prog 90 #[.slice A n c] w fun e w' => CodeFn w w' e := by
  have hT0 : Two (w.alloc (.cells #[.int .i64 0, .slice none 0 0] 26)) w.heap.size (.int .i64 0) (.slice none 0 0) := heap_alloc_new w _
  have hb0 := (Below.refl w.heap.size w).alloc (Nat.le_refl _) (.cells #[.int .i64 0, .slice none 0 0] 26)
  have z0 : (w.alloc (.cells #[.int .i64 0, .slice none 0 0] 26)).heap.size = w.heap.size + 1 := by simp
  go_enter Try.func90, Try.ntmps90
  go_wp2_with fail
  refine (begin_any A n c _ (hB.alloc _)).mono ?_
  rintro e w1 ⟨bc, rfl, hN1⟩
  have hnew := hN1.new
  rw [z0] at hnew
  have hT1 := hT0.below hN1.below (by simp)
  have hB1 := hb0.trans (hN1.below.mono (by simp))
  go_wp2_with fail
  refine (l2Any_any bc A n c w1 hN1.lt hN1.byts hN1.apart hN1.cur).mono ?_
  rintro e w2 ⟨E, r, B, cr, L, rfl, hr, hO2, hg2, hC2⟩
  have hT2 := hT1.same (hg2.block _ hT1.lt (fun hk => by injection hk with hk; omega))
  have hB2 := below_draw hB1 hg2 (by omega) hB1.size
  have hlt1 := hT1.lt
  have v0 := hT2.cell0
  have v1 := hT2.cell1
  have q0 := hT2.frozen0
  have q1 := hT2.frozen
  have y := (hT2.set0 (.int .i64 E)).set1 (.slice B r cr)
  have y0 := y.cell0
  have y1 := y.cell1
  go_wp2
  refine bodyPost_ret (v := .agg #[.int .i64 E, .slice B r cr]) (by simp [results, Try.results90, go_sem, y0, y1]) rfl ⟨E, r, B, cr, L, rfl, by omega, ?_, ?_⟩
  · have hl := fun g (hA : B = some ⟨g, 0, none⟩) => row_low hO2 hA
    exact ((hO2.far (fun g hA => by have := hl g hA; simp; omega) _).far (fun g hA => by have := hl g hA; simp; omega) _).less (by omega)
  · exact (hB2.setCell (Nat.le_refl _) _).setCell (Nat.le_refl _) _
set_option maxHeartbeats 4000000 in
theorem drawMinimumBetween_any (A : Option Addr) (n c : Nat) (w : World) (hB : Byts w A n) :
    Calls Try.prog 87 #[.slice A n c] w fun e w' => CodeTwo w w' e := by
  have hT0 : Two (w.alloc (.cells #[.int .i64 0, .slice none 0 0] 26)) w.heap.size (.int .i64 0) (.slice none 0 0) := heap_alloc_new w _
  have hb0 := (Below.refl w.heap.size w).alloc (Nat.le_refl _) (.cells #[.int .i64 0, .slice none 0 0] 26)
  have z0 : (w.alloc (.cells #[.int .i64 0, .slice none 0 0] 26)).heap.size = w.heap.size + 1 := by simp
  have hnle := hB.1
  go_enter Try.func87, Try.ntmps87
  go_wp2_with fail
  refine (l2Set_any A n c _ (hB.alloc _)).mono ?_
  rintro e w2 ⟨E, r, B, cr, L, s, rfl, hr, hO2, hb2⟩
  have hT2 := hT0.below hb2 (by simp)
  have hB2 := hb0.trans (hb2.mono (by simp))
  have hlt2 := hT2.lt
  have hF3 : Two (w2.alloc (.cells #[.int .i64 E, .slice B r cr] 26)) w2.heap.size (.int .i64 E) (.slice B r cr) := heap_alloc_new w2 _
  have hT3 := hT2.below ((Below.refl w2.heap.size w2).alloc (Nat.le_refl _) (.cells #[.int .i64 E, .slice B r cr] 26)) hlt2
  have hO3 := hO2.alloc (.cells #[.int .i64 E, .slice B r cr] 26)
  have hB3 := hB2.alloc hB2.size (.cells #[.int .i64 E, .slice B r cr] 26)
  obtain ⟨b2, hb2e⟩ : ∃ b2, b2 = w2.heap.size := ⟨_, rfl⟩
  obtain ⟨w3, hw3⟩ : ∃ w3, w3 = w2.alloc (.cells #[.int .i64 E, .slice B r cr] 26) := ⟨_, rfl⟩
  have hBl := hide (fun g (hA : B = some ⟨g, 0, none⟩) => show g < b2 from by have := own_lt hO2 hA; omega)
  have hwb : w.heap.size < b2 := by omega
  rw [← hw3] at hF3 hT3 hO3 hB3
  rw [← hb2e] at hF3
  clear hT2 hO2 hb2 hB2 hT0 hb0
  have f0 := hF3.cell0
  have f1 := hF3.cell1
  have v0 := hT3.cell0
  have v1 := hT3.cell1
  have q0 := hT3.frozen0
  have q1 := hT3.frozen
  obtain ⟨k, hk, hk6⟩ : ∃ k : Nat, (n : Int).tmod 6 = (k : Int) ∧ k < 6 := ⟨n % 6, by rw [Int.tmod_eq_emod_of_nonneg (by omega)]; omega, by omega⟩
  go_wp2
  rw [← hw3, ← hb2e]
  clear hw3 hb2e
  have hcell : ∀ W : World, (W.alloc (.cells #[.int .i64 0, .int .i64 1, .int .i64 2, .int .i64 4, .int .i64 8, .int .i64 (-1)] 3)).cell? ⟨W.heap.size, k, none⟩ = some (.int .i64 (gv [0, 1, 2, 4, 8, -1] k)) := by
    intro W
    have := (ints_six W 0 1 2 4 8 (-1)).2.2 (by omega)
    obtain ⟨b, off, h1, h2⟩ := this
    injection h1 with h1; injection h1 with h1 h3
    have h4 := h2 k hk6
    rw [← h1, ← h3, Nat.zero_add] at h4
    exact h4
  have i0 : (0 : Int) ≤ (k : Int) := by omega
  have i1 : (k : Int) < 6 := by omega
  have hlt3 : w.heap.size ≠ w3.heap.size := by have := hT3.lt; omega
  have hF4 := hF3.below ((Below.refl w3.heap.size w3).alloc (Nat.le_refl _) (.cells #[.int .i64 0, .int .i64 1, .int .i64 2, .int .i64 4, .int .i64 8, .int .i64 (-1)] 3)) hF3.lt
  have hT4 := hT3.below ((Below.refl w3.heap.size w3).alloc (Nat.le_refl _) (.cells #[.int .i64 0, .int .i64 1, .int .i64 2, .int .i64 4, .int .i64 8, .int .i64 (-1)] 3)) hT3.lt
  have hO4 := hO3.alloc (.cells #[.int .i64 0, .int .i64 1, .int .i64 2, .int .i64 4, .int .i64 8, .int .i64 (-1)] 3)
  have hB4 := hB3.alloc hB3.size (.cells #[.int .i64 0, .int .i64 1, .int .i64 2, .int .i64 4, .int .i64 8, .int .i64 (-1)] 3)
  have fa0 := hF4.cell0
  have fa1 := hF4.cell1
  have va0 := hT4.cell0
  have va1 := hT4.cell1
  have qa0 := hT4.frozen0
  have qa1 := hT4.frozen
  have y := (hT4.set0 (.int .i64 E)).set1 (.slice B r cr)
  have y0 := hide y.cell0
  have y1 := hide y.cell1
  have yB := (hT3.set0 (.int .i64 E)).set1 (.slice B r cr)
  have yC := yB.below ((Below.refl _ _).alloc (Nat.le_refl _) (.cells #[.int .i64 0, .int .i64 1, .int .i64 2, .int .i64 4, .int .i64 8, .int .i64 (-1)] 3)) yB.lt
  have yC0 := hide yC.cell0
  have yC1 := hide yC.cell1
  have hl := fun g (hA : B = some ⟨g, 0, none⟩) => row_low hO3 hA
  have hfar : ∀ (g k : Nat), B = some ⟨g, 0, none⟩ → g ≠ (⟨w.heap.size, k, none⟩ : Addr).block := fun g k hA => by have := hl g hA; simp; omega
  have oA := hide ((((hO4.far (p := ⟨w.heap.size, 0, none⟩) (fun g hA => hfar g 0 hA) (.int .i64 E)).far (p := ⟨w.heap.size, 1, none⟩) (fun g hA => hfar g 1 hA) (.slice B r cr)).less (B' := w.heap.size) (by rw [z0]; omega)))
  have oB := hide ((((hO3.far (p := ⟨w.heap.size, 0, none⟩) (fun g hA => hfar g 0 hA) (.int .i64 E)).far (p := ⟨w.heap.size, 1, none⟩) (fun g hA => hfar g 1 hA) (.slice B r cr)).alloc (.cells #[.int .i64 0, .int .i64 1, .int .i64 2, .int .i64 4, .int .i64 8, .int .i64 (-1)] 3)).less (B' := w.heap.size) (by rw [z0]; omega))
  have bA := hide (((hB4.setCell (p := ⟨w.heap.size, 0, none⟩) (Nat.le_refl _) (.int .i64 E)).setCell (p := ⟨w.heap.size, 1, none⟩) (Nat.le_refl _) (.slice B r cr)).drew)
  have bB := hide ((((hB3.setCell (p := ⟨w.heap.size, 0, none⟩) (Nat.le_refl _) (.int .i64 E)).setCell (p := ⟨w.heap.size, 1, none⟩) (Nat.le_refl _) (.slice B r cr)).alloc (by simpa [World.setCell] using hB3.size) (.cells #[.int .i64 0, .int .i64 1, .int .i64 2, .int .i64 4, .int .i64 8, .int .i64 (-1)] 3)).drew)
  clear y yB yC hl hfar
  obtain ⟨t, ht⟩ : ∃ t, t = gv [0, 1, 2, 4, 8, -1] k := ⟨_, rfl⟩
  rw [← ht] at hcell
  have hval := hide (show ∀ h, ([Value.int .i64 0, .int .i64 1, .int .i64 2, .int .i64 4, .int .i64 8, .int .i64 (-1)] : List Value)[k]'h = .int .i64 t from by
    intro h
    rw [ht]
    match k, hk6 with
    | 0, _ => rfl
    | 1, _ => rfl
    | 2, _ => rfl
    | 3, _ => rfl
    | 4, _ => rfl
    | 5, _ => rfl)
  clear ht
  go_region
  all_goals
    go_wp2
    first
      | exact bodyPost_ret (v := .tuple #[.agg #[.int .i64 E, .slice B r cr], .int .i64 s, .int .i64 t]) (by simp [results, Try.results87, go_sem, y0.out, y1.out]) rfl ⟨E, r, B, cr, L, s, t, rfl, by omega, oA.out, bA.out⟩
      | exact bodyPost_ret (v := .tuple #[.agg #[.int .i64 E, .slice B r cr], .int .i64 s, .int .i64 t]) (by simp [results, Try.results87, go_sem, yC0.out, yC1.out, hval.out]) rfl ⟨E, r, B, cr, L, s, t, rfl, by omega, oB.out, bB.out⟩
      | fail
/-- Numbers that were drawn from a code. -/
def CodeList (w w' : World) (e : Ending) : Prop :=
  ∃ (r : Nat) (B : Option Addr) (cr : Nat) (L : List Int), e = .returned (.slice B r cr) ∧ r ≤ 1048576 ∧ Own w' w.heap.size B r cr L ∧ Below w.heap.size w w'
set_option maxHeartbeats 4000000 in
theorem drawIsLattice_any (A : Option Addr) (n c : Nat) (w : World) (hB : Byts w A n) :
    Calls Try.prog 95 #[.slice A n c] w fun e w' => CodeList w w' e := by
  go_enter Try.func95, Try.ntmps95
  go_wp2_with fail
  refine (begin_any A n c _ hB).mono ?_
  rintro e w1 ⟨bc, rfl, hN1⟩
  go_wp2_with fail
  refine (l2Any_any bc A n c w1 hN1.lt hN1.byts hN1.apart hN1.cur).mono ?_
  rintro e w2 ⟨E, r, B, cr, L, rfl, hr, hO2, hg2, hC2⟩
  have hN2 := hN1.call hg2 hC2
  have hsz1 := hN1.below.size
  go_wp2_with fail
  refine (specMinimizersOf_any E B r cr L w2 hO2.ints).mono ?_
  rintro e w3 ⟨B3, r3, c3, rfl, hO3, hr3, hb3⟩
  have hN3 := hN2.step hb3
  have hsz2 := hg2.size
  have hlt := hN2.lt
  have hnew := hN1.new
  clear hN1 hO2 hg2 hC2 hN2
  cases hf : isFn E L
  case true =>
    go_wp2_with fail
    refine (l1Once_any bc A n c 4 w3 hN3.byts hN3.apart hN3.cur).mono ?_
    rintro e w4 ⟨x, rfl, hg4, hC4⟩
    have hN4 := hN3.call hg4 hC4
    have hO4 := own_draw hO3 hg4 (fun g hA => by have := row_low hO3 hA; omega)
    cases x
    · go_wp2
      go_ret
      exact ⟨r3, B3, c3, _, rfl, hr3, hO4.less (by omega), hN4.below⟩
    · have hN := hN4
      have hsz4 := hN4.below.size
      clear hN4 hO4 hg4 hC4 hN3 hO3
      have hO5 := own_zero w4 (Nat.le_refl w4.heap.size)
      have hN5 := hN.alloc (.cells #[] 3)
      have hlt4 := hN.lt
      clear hN
      go_wp2_with fail
      refine (l1Below_any bc A n c 5 _ hN5.byts hN5.apart hN5.cur).mono ?_
      rintro e w6 ⟨k, rfl, hk, hg6, hC6⟩
      have hN6 := hN5.call hg6 hC6
      have hO6 := own_draw hO5 hg6 (fun g hA => by have := row_low hO5 hA; omega)
      have hk5 : k < 5 := by omega
      have hsz6 : w4.heap.size ≤ w6.heap.size := by
        have := hg6.size
        simp at this; omega
      clear hN5 hO5 hg6 hC6 hk
      go_wp2
      go_loopw [6, 7] (fun l t wr => ∃ (j q : Nat) (B6 : Option Addr) (c6 : Nat) (L6 : List Int), t = .int .i64 j ∧ l = .slice B6 q c6 ∧ q + j ≤ 5 ∧ Own wr w4.heap.size B6 q c6 L6 ∧ Begun w wr bc A n c ∧ w4.heap.size ≤ wr.heap.size) (fun _ t _ => (intOf t).toNat)
      case atStart => exact ⟨k, 0, _, 0, _, rfl, rfl, by omega, hO6, hN6, hsz6⟩
      clear hO6 hN6
      case round =>
        obtain ⟨j, q, B6, c6, L6, rfl, rfl, hqj, hO, hN, hszr⟩ := hrel
        by_cases hj : 0 < j
        · go_wp2_with fail
          refine (l1Below_any bc A n c 9 wr hN.byts hN.apart hN.cur).mono ?_
          rintro e w7 ⟨x, rfl, hx, hg7, hC7⟩
          have hN7 := hN.call hg7 hC7
          have hO7 := own_draw hO hg7 (fun g hA => by have := row_low hO hA; omega)
          have hx9 : x < 9 := by omega
          have hsz7 := hg7.size
          clear hx
          go_wp2_with (refine wpl_app (by rfl) _ _ (by rfl) w4.heap.size B6 q c6 w7.heap.size L6 ((x : Int) - 1) (by rfl) (by rfl) (hO7.alloc _) (cell_new w7 _) (by omega) (by simp; omega) ?_; intro g cap w8 hO8 hgrow8 hat8 hlt8)
          have hN8 := hN7.app hO7 (fun g hA => by have := row_low hO7 hA; omega) (by omega) hgrow8
          have hsz8 := hgrow8.size
          go_roundw
          case rel => exact ⟨j - 1, q + 1, _, cap, _, by go_num, rfl, by omega, hO8, hN8, by simp at hsz8; omega⟩
          case measure => simp [intOf]; omega
        · obtain rfl : j = 0 := by omega
          go_wp2
          go_ret
          exact ⟨q, B6, c6, L6, rfl, by omega, hO.less (by omega), hN.below⟩
  case false =>
    have hN := hN3
    obtain ⟨w4, rfl⟩ : ∃ w4 : World, w4 = w3 := ⟨_, rfl⟩
    have hsz4 := hN.below.size
    clear hN3 hO3
    have hO5 := own_zero w4 (Nat.le_refl w4.heap.size)
    have hN5 := hN.alloc (.cells #[] 3)
    have hlt4 := hN.lt
    clear hN
    go_wp2_with fail
    refine (l1Below_any bc A n c 5 _ hN5.byts hN5.apart hN5.cur).mono ?_
    rintro e w6 ⟨k, rfl, hk, hg6, hC6⟩
    have hN6 := hN5.call hg6 hC6
    have hO6 := own_draw hO5 hg6 (fun g hA => by have := row_low hO5 hA; omega)
    have hk5 : k < 5 := by omega
    have hsz6 : w4.heap.size ≤ w6.heap.size := by
      have := hg6.size
      simp at this; omega
    clear hN5 hO5 hg6 hC6 hk
    go_wp2
    go_loopw [6, 7] (fun l t wr => ∃ (j q : Nat) (B6 : Option Addr) (c6 : Nat) (L6 : List Int), t = .int .i64 j ∧ l = .slice B6 q c6 ∧ q + j ≤ 5 ∧ Own wr w4.heap.size B6 q c6 L6 ∧ Begun w wr bc A n c ∧ w4.heap.size ≤ wr.heap.size) (fun _ t _ => (intOf t).toNat)
    case atStart => exact ⟨k, 0, _, 0, _, rfl, rfl, by omega, hO6, hN6, hsz6⟩
    clear hO6 hN6
    case round =>
      obtain ⟨j, q, B6, c6, L6, rfl, rfl, hqj, hO, hN, hszr⟩ := hrel
      by_cases hj : 0 < j
      · go_wp2_with fail
        refine (l1Below_any bc A n c 9 wr hN.byts hN.apart hN.cur).mono ?_
        rintro e w7 ⟨x, rfl, hx, hg7, hC7⟩
        have hN7 := hN.call hg7 hC7
        have hO7 := own_draw hO hg7 (fun g hA => by have := row_low hO hA; omega)
        have hx9 : x < 9 := by omega
        have hsz7 := hg7.size
        clear hx
        go_wp2_with (refine wpl_app (by rfl) _ _ (by rfl) w4.heap.size B6 q c6 w7.heap.size L6 ((x : Int) - 1) (by rfl) (by rfl) (hO7.alloc _) (cell_new w7 _) (by omega) (by simp; omega) ?_; intro g cap w8 hO8 hgrow8 hat8 hlt8)
        have hN8 := hN7.app hO7 (fun g hA => by have := row_low hO7 hA; omega) (by omega) hgrow8
        have hsz8 := hgrow8.size
        go_roundw
        case rel => exact ⟨j - 1, q + 1, _, cap, _, by go_num, rfl, by omega, hO8, hN8, by simp at hsz8; omega⟩
        case measure => simp [intOf]; omega
      · obtain rfl : j = 0 := by omega
        go_wp2
        go_ret
        exact ⟨q, B6, c6, L6, rfl, by omega, hO.less (by omega), hN.below⟩
end Go.Proofs.Ytokeejachclpeaa
namespace Go.Proofs.Ytokeejachclpeaa
open Go.RowKit

theorem ints_four (w : World) (a b c d : Int) : Ints (w.alloc (.cells #[.int .i64 a, .int .i64 b, .int .i64 c, .int .i64 d] 3)) (some ⟨w.heap.size, 0, none⟩) 4 [a, b, c, d] := by
  refine ⟨rfl, by omega, fun _ => ⟨w.heap.size, 0, rfl, fun j hj => ?_⟩⟩
  rw [World.cell?_alloc_at _ _ _ _ rfl]
  match j, hj with
  | 0, _ => rfl
  | 1, _ => rfl
  | 2, _ => rfl
  | 3, _ => rfl
/-- A vector that was drawn: k numbers, in new memory. -/
def VecDrawn (w w' : World) (bc : Nat) (A : Option Addr) (n c k : Nat) (e : Ending) : Prop :=
  ∃ (B : Option Addr) (cr : Nat) (L : List Int), e = .returned (.slice B k cr) ∧ Own w' w.heap.size B k cr L ∧ w.grownBy w' (some bc) ∧ Cur w' bc A n c
set_option maxHeartbeats 4000000 in
theorem l7Draw_any (bc : Nat) (A : Option Addr) (n c k : Nat) (w : World) (hk : k ≤ 6) (hb : bc < w.heap.size) (hB : Byts w A n) (hne : Apart A n bc) (hC : Cur w bc A n c) :
    Calls Try.prog 171 #[.pointer (some ⟨bc, 0, none⟩), .int .i64 (k : Int)] w fun e w' => VecDrawn w w' bc A n c k e := by
  have HBel := hide (fun (k : Int) W (h : w.grownBy W (some bc)) (hc : Cur W bc A n c) => l1Below_any bc A n c k W (byts_grown hB h hne) hne hc)
  have HOnce := hide (fun (k : Int) W (h : w.grownBy W (some bc)) (hc : Cur W bc A n c) => l1Once_any bc A n c k W (byts_grown hB h hne) hne hc)
  have HPick := hide (fun (B : Option Addr) (r cr : Nat) (L : List Int) W (hL : Ints W B r L) (hr : 0 < r) (h : w.grownBy W (some bc)) (h2 : ∀ b off, B = some ⟨b, off, none⟩ → b ≠ bc) (hc : Cur W bc A n c) => l1PickInt_any bc A n c B r cr L W hL hr (byts_grown hB h hne) hne h2 hc)
  have hD0 := (DS.start hC).alloc (.cells #[] 3)
  have hO0 := own_zero w (Nat.le_refl w.heap.size)
  clear hB hne hC
  go_enter Try.func171, Try.ntmps171
  go_wp2
  go_loopw [5, 6] (fun l t wr => ∃ (j : Nat) (B : Option Addr) (cr : Nat) (L : List Int), j ≤ k ∧ t = .int .i64 j ∧ l = .slice B j cr ∧ Own wr w.heap.size B j cr L ∧ DS w wr bc A n c) (fun _ t _ => k - (intOf t).toNat)
  case atStart => exact ⟨0, _, 0, _, Nat.zero_le _, rfl, rfl, hO0, hD0⟩
  clear hO0 hD0
  case round =>
    obtain ⟨j, B, cr, L, hj, rfl, rfl, hO, hD⟩ := hrel
    by_cases hlt : j < k
    · have HA := hide (HBel.out 9 wr hD.grew hD.cur)
      go_wp2_with fail
      refine HA.out.mono ?_
      rintro e w4 ⟨x, rfl, hx, hg4, hC4⟩
      have hx9 : x < 9 := by omega
      have hD4 := hD.call hg4 hC4
      have hO4 := own_call hO hg4 hb
      have hsz4 := hD4.grew.size
      clear hx
      go_wp2_with (refine wpl_app (by rfl) _ _ (by rfl) w.heap.size B j cr w4.heap.size L ((x : Int) - 4) (by rfl) (by rfl) (hO4.alloc _) (cell_new w4 _) (by omega) (by simp; omega) ?_; intro g cap w5 hO5 hgrow5 hat5 hlt5)
      go_roundw
      case rel => exact ⟨j + 1, _, cap, _, by omega, by go_num, rfl, hO5, hD4.app hO4 hb (Nat.le_refl _) hgrow5⟩
      case measure => simp [intOf]; omega
    · obtain rfl : j = k := by omega
      by_cases h0 : 0 < j
      · have HA := hide (HOnce.out 12 wr hD.grew hD.cur)
        go_wp2_with fail
        refine HA.out.mono ?_
        rintro e w4 ⟨x, rfl, hg4, hC4⟩
        have hD4 := hD.call hg4 hC4
        have hO4 := own_call hO hg4 hb
        have hsz4 := hD4.grew.size
        clear hO hD hg4 hC4
        cases x
        · go_wp2
          go_ret
          exact ⟨B, cr, L, rfl, hO4, hD4.grew, hD4.cur⟩
        · obtain ⟨g, rfl, hg1, hg2⟩ := hO4.form h0
          have hI := ints_four w4 1000 1001 101 (-9223372036854775808)
          have hD5 := hD4.alloc (.cells #[.int .i64 1000, .int .i64 1001, .int .i64 101, .int .i64 (-9223372036854775808)] 3)
          have hO5 := hO4.alloc (.cells #[.int .i64 1000, .int .i64 1001, .int .i64 101, .int .i64 (-9223372036854775808)] 3)
          have HP := hide (HPick.out _ 4 4 _ _ hI (by omega) hD5.grew (by intro b off h; injection h with h; injection h with h _; omega) hD5.cur)
          clear hI
          go_wp2_with fail
          refine HP.out.mono ?_
          rintro e w6 ⟨y, hy, rfl, hg6, hC6⟩
          have hD6 := hD5.call hg6 hC6
          have hO6 := own_call hO5 hg6 hb
          have q6 := hO6.cell h0
          have f6 := hO6.frozen 0
          go_wp2
          go_ret
          have hD7 := hD6.store (p := ⟨g, 0, none⟩) hg1 hb (.int .i64 (gv [1000, 1001, 101, -9223372036854775808] y))
          exact ⟨_, cr, _, rfl, hO6.set_ 0 _, hD7.grew, hD7.cur⟩
      · obtain rfl : j = 0 := by omega
        go_wp2
        go_ret
        exact ⟨B, cr, L, rfl, hO, hD.grew, hD.cur⟩
/-- Some vector that was drawn. -/
def AnyVec (w w' : World) (bc : Nat) (A : Option Addr) (n c : Nat) (e : Ending) : Prop :=
  ∃ (k : Nat) (B : Option Addr) (cr : Nat) (L : List Int), e = .returned (.slice B k cr) ∧ k ≤ 6 ∧ Own w' w.heap.size B k cr L ∧ w.grownBy w' (some bc) ∧ Cur w' bc A n c
/-- A function and two vectors that were drawn from a code, in new memory; nothing old has turned. -/
def CodeVV (w w' : World) (e : Ending) : Prop :=
  ∃ (E : Int) (r : Nat) (B : Option Addr) (cr : Nat) (L : List Int) (r1 : Nat) (B1 : Option Addr) (c1 : Nat) (x : List Int) (r2 : Nat) (B2 : Option Addr) (c2 : Nat) (y : List Int), e = .returned (.tuple #[.agg #[.int .i64 E, .slice B r cr], .slice B1 r1 c1, .slice B2 r2 c2]) ∧ r ≤ 32 ∧ Own w' w.heap.size B r cr L ∧ r1 ≤ 6 ∧ Own w' w.heap.size B1 r1 c1 x ∧ r2 ≤ 6 ∧ Own w' w.heap.size B2 r2 c2 y ∧ Below w.heap.size w w'
theorem l7Draw_int (bc : Nat) (A : Option Addr) (n c : Nat) (K : Int) (w : World) (h0 : 0 ≤ K) (h6 : K ≤ 6) (hb : bc < w.heap.size) (hB : Byts w A n) (hne : Apart A n bc) (hC : Cur w bc A n c) :
    Calls Try.prog 171 #[.pointer (some ⟨bc, 0, none⟩), .int .i64 K] w fun e w' => AnyVec w w' bc A n c e := by
  obtain ⟨k, rfl⟩ := Int.eq_ofNat_of_zero_le h0
  exact (l7Draw_any bc A n c k w (by omega) hb hB hne hC).mono fun _ _ ⟨B, cr, L, h1, h2, h3, h4⟩ => ⟨k, B, cr, L, h1, by omega, h2, h3, h4⟩
set_option maxHeartbeats 8000000 in
theorem drawIsConvexAt_any (A : Option Addr) (n c : Nat) (w : World) (hB : Byts w A n) :
    Calls Try.prog 64 #[.slice A n c] w fun e w' => CodeVV w w' e := by
  have hT0 : Two (w.alloc (.cells #[.int .i64 0, .slice none 0 0] 26)) w.heap.size (.int .i64 0) (.slice none 0 0) := heap_alloc_new w _
  have hb0 := (Below.refl w.heap.size w).alloc (Nat.le_refl _) (.cells #[.int .i64 0, .slice none 0 0] 26)
  have z0 : (w.alloc (.cells #[.int .i64 0, .slice none 0 0] 26)).heap.size = w.heap.size + 1 := by simp
  go_enter Try.func64, Try.ntmps64
  go_wp2_with fail
  refine (begin_any A n c _ (hB.alloc _)).mono ?_
  rintro e w1 ⟨bc, rfl, hN1⟩
  have hnew := hN1.new
  rw [z0] at hnew
  have hT1 := hT0.below hN1.below (by simp)
  have hB1 := hb0.trans (hN1.below.mono (by simp))
  go_wp2_with fail
  refine (l2Any_any bc A n c w1 hN1.lt hN1.byts hN1.apart hN1.cur).mono ?_
  rintro e w2 ⟨E, r, B, cr, L, rfl, hr, hO2, hg2, hC2⟩
  have hN2 := hN1.call hg2 hC2
  have hT2 := hT1.same (hg2.block _ hT1.lt (fun hk => by injection hk with hk; omega))
  have hB2 := below_draw hB1 hg2 (by omega) hB1.size
  have hlt1 := hT1.lt
  have hlt2 := hT2.lt
  have hsz12 := hg2.size
  have hlt := hN1.lt
  have hO2' := hO2.less (B' := bc + 1) (by omega)
  obtain ⟨b2, hb2⟩ : ∃ b2, b2 = w2.heap.size := ⟨_, rfl⟩
  obtain ⟨w3, hw3⟩ : ∃ w3, w3 = w2.alloc (.cells #[.int .i64 E, .slice B r cr] 26) := ⟨_, rfl⟩
  have hN3 := hN2.alloc (.cells #[.int .i64 E, .slice B r cr] 26)
  have hF3 : Two (w2.alloc (.cells #[.int .i64 E, .slice B r cr] 26)) w2.heap.size (.int .i64 E) (.slice B r cr) := heap_alloc_new w2 _
  have hT3 := hT2.below ((Below.refl w2.heap.size w2).alloc (Nat.le_refl _) (.cells #[.int .i64 E, .slice B r cr] 26)) hlt2
  have hO3 := hO2'.alloc (.cells #[.int .i64 E, .slice B r cr] 26)
  have hB3 := hB2.alloc hB2.size (.cells #[.int .i64 E, .slice B r cr] 26)
  have hwb : w.heap.size < b2 := by omega
  have hbcb : bc < b2 := by omega
  rw [← hw3] at hN3 hF3 hT3 hO3 hB3
  rw [← hb2] at hF3
  clear hN1 hN2 hT1 hT2 hO2 hO2' hg2 hC2 hB1 hB2 hT0 hb0 z0
  have HW := hide (And.intro hw3 hb2)
  clear hw3 hb2
  go_wp2_with fail
  all_goals
    rw [← HW.out.1, ← HW.out.2]
    refine (l7Draw_int bc A n c _ w3 (by omega) (by omega) hN3.lt hN3.byts hN3.apart hN3.cur).mono ?_
    rintro e w4 ⟨k, B4, c4, x, rfl, hk6, hO4, hg4, hC4⟩
    have hN4 := (hN3.call hg4 hC4).drew
    have hF4 := hF3.same (hg4.block b2 hF3.lt (fun hk => by injection hk with hk; omega))
    have hT4 := hT3.same (hg4.block _ hT3.lt (fun hk => by injection hk with hk; omega))
    have hO3b := own_call hO3 hg4 (by omega)
    have hO4b := hO4.less (B' := bc + 1) (by have := hN3.lt; omega)
    have hB4 := (below_draw hB3 hg4 (by omega) hB3.size).drew
    have f0 := hF4.cell0
    have f1 := hF4.cell1
    have hlt4 := hT4.lt
    clear hg4 hC4 hO4
    go_wp2
    go_region_held3 (fun w' => w'.cell? ⟨b2, 0, none⟩ = some (.int .i64 E) ∧ w'.cell? ⟨b2, 1, none⟩ = some (.slice B r cr))
      (first
        | go_keep
        | exact ⟨hF5.cell0, hF5.cell1⟩
        | exact ⟨((hF5.far (p := ⟨w.heap.size, 0, none⟩) (by simp; omega) _).far (p := ⟨w.heap.size, 1, none⟩) (by simp; omega) _).cell0, ((hF5.far (p := ⟨w.heap.size, 0, none⟩) (by simp; omega) _).far (p := ⟨w.heap.size, 1, none⟩) (by simp; omega) _).cell1⟩)
      (first
        | (go_at_call 171; refine (l7Draw_int bc A n c _ _ (by omega) (by omega) hN4.lt hN4.byts hN4.apart hN4.cur).mono ?_; rintro e w5 ⟨k2, B5, c5, y, rfl, hk62, hO5, hg5, hC5⟩; have hF5 := (show Two w4.drew _ _ _ from hF4).same (hg5.block b2 hF4.lt (fun hk => by injection hk with hk; omega)); have hT5 := (show Two w4.drew _ _ _ from hT4).same (hg5.block _ hT4.lt (fun hk => by injection hk with hk; omega)); have v2 := hT5.cell0; have v3 := hT5.cell1; have q2 := hT5.frozen0; have q3 := hT5.frozen))
    have y' := (hT5.set0 (.int .i64 E)).set1 (.slice B r cr)
    have y0 := y'.cell0
    have y1 := y'.cell1
    have hO3c := own_call (show Own w4.drew _ _ _ _ _ from hO3b) hg5 (by omega)
    have hO4c := own_call (show Own w4.drew _ _ _ _ _ from hO4b) hg5 (by omega)
    have hO5c := hO5.less (B' := bc + 1) (by have := hN4.lt; omega)
    have hB5 := below_draw hB4 hg5 (by omega) hB4.size
    go_wp2
    have hfar : ∀ {W : World} {D : Option Addr} {d e : Nat} {xs : List Int}, Own W (bc + 1) D d e xs → Own ((W.setCell ⟨w.heap.size, 0, none⟩ (.int .i64 E)).setCell ⟨w.heap.size, 1, none⟩ (.slice B r cr)) w.heap.size D d e xs := fun h => by
      have hl := fun g hA => row_low (g := g) h hA
      exact ((h.far (fun g hA => by have := hl g hA; simp; omega) _).far (fun g hA => by have := hl g hA; simp; omega) _).less (by omega)
    refine bodyPost_ret (v := .tuple #[.agg #[.int .i64 E, .slice B r cr], .slice B4 k c4, .slice B5 k2 c5]) (by simp [results, Try.results64, go_sem, y0, y1]) rfl ⟨E, r, B, cr, L, k, B4, c4, x, k2, B5, c5, y, rfl, by omega, hfar hO3c, hk6, hfar hO4c, hk62, hfar hO5c, ?_⟩
    exact (hB5.setCell (Nat.le_refl _) _).setCell (Nat.le_refl _) _
end Go.Proofs.Ytokeejachclpeaa
namespace Go.Proofs.Ytokeejachclpeaa
open Go.RowKit

set_option maxHeartbeats 8000000 in
theorem l5Poly_any (bc : Nat) (A : Option Addr) (n c : Nat) (w : World) (hb : bc < w.heap.size) (hB : Byts w A n) (hne : Apart A n bc) (hC : Cur w bc A n c) :
    Calls Try.prog 204 #[.pointer (some ⟨bc, 0, none⟩)] w fun e w' => AnyDrawn w w' bc A n c e := by
  have HBel := hide (fun (k : Int) W (h : w.grownBy W (some bc)) (hc : Cur W bc A n c) => l1Below_any bc A n c k W (byts_grown hB h hne) hne hc)
  have HCov := hide (fun (N : Nat) (hN : N ≤ 5) W (hb : bc < W.heap.size) (h : w.grownBy W (some bc)) (hc : Cur W bc A n c) => l2Cover_m bc A n c N W hN hb (byts_grown hB h hne) hne hc)
  have HAny := hide (fun W (hb : bc < W.heap.size) (h : w.grownBy W (some bc)) (hc : Cur W bc A n c) => l2Any_any bc A n c W hb (byts_grown hB h hne) hne hc)
  have hR0 := DR.start hC (.int .i64 0) (.slice none 0 0)
  clear hB hne hC
  go_enter Try.func204, Try.ntmps204
  go_wp2_with fail
  refine (HBel.out 5 _ hR0.ds.grew hR0.ds.cur).mono ?_
  rintro e w1 ⟨N, rfl, hN, hg1, hC1⟩
  have hR1 := hR0.call hb hg1 hC1
  have hN4 : N ≤ 4 := by omega
  have hN40 : N ≤ 40 := by omega
  have h16 : p2 N ≤ 16 := Nat.le_trans (Nat.pow_le_pow_right (by decide) hN4) (by decide)
  have hp0 := p2_pos N
  clear hN hg1 hC1 hR0
  go_wp2_with fail
  refine (HBel.out 6 _ hR1.ds.grew hR1.ds.cur).mono ?_
  rintro e w2 ⟨k0, rfl, hk0, hg2, hC2⟩
  have hR3 := hR1.call hb hg2 hC2
  have hsz3 := hR3.res.lt
  have hk06 : k0 < 6 := by omega
  clear hR1 hg2 hC2 hk0
  by_cases h0 : k0 = 0
  · subst h0
    have HA := hide (HAny.out w2 hR3.ds.cur.lt hR3.ds.grew hR3.ds.cur)
    go_wp2_with fail
    refine HA.out.mono ?_
    rintro e w4 ⟨E, r, B, cr, L, rfl, hr, hO4', hg4, hC4⟩
    have hR4 := hR3.call hb hg4 hC4
    have hO4 := hO4'.less (B' := w.heap.size + 1) (by omega)
    clear hR3 hg4 hC4
    have v0 := hR4.res.cell0
    have v1 := hR4.res.cell1
    have z0 := hR4.res.frozen
    have z1 := hR4.res.frozen0
    have y := (hR4.res.set0 (.int .i64 (E : Int))).set1 (.slice B r cr)
    have y0 := y.cell0
    have y1 := y.cell1
    have hbb := hb
    clear hb
    go_wp2
    refine bodyPost_ret (v := .agg #[.int .i64 (E : Int), .slice B r cr]) (by simp [results, Try.results204, go_sem, y0, y1]) rfl ⟨(E : Int), r, B, cr, L, rfl, by omega, ?_, ?_⟩
    · have hl := fun g (hA : B = some ⟨g, 0, none⟩) => row_low hO4 hA
      exact ((hO4.far (fun g hA => by have := hl g hA; simp; omega) _).far (fun g hA => by have := hl g hA; simp; omega) _).less (by omega)
    · have hd := (hR4.ds.store (p := ⟨w.heap.size, 0, none⟩) (Nat.le_refl _) hbb (.int .i64 (E : Int))).store (p := ⟨w.heap.size, 1, none⟩) (Nat.le_refl _) hbb (.slice B r cr)
      exact ⟨hd.grew, hd.cur⟩
  by_cases h1 : k0 = 1
  · subst h1
    have HA := hide (HBel.out ((N : Int) + 1) w2 hR3.ds.grew hR3.ds.cur)
    go_wp2_with fail
    refine HA.out.mono ?_
    rintro e w4 ⟨top, rfl, htop, hg4, hC4⟩
    have htop5 : top ≤ 4 := by omega
    have hR4 := hR3.call hb hg4 hC4
    have hsz4 := hR4.res.lt
    have hO5 := own_zero w4 (B := w.heap.size + 1) (by omega)
    have hR5 := hR4.alloc (.cells #[] 3)
    clear htop hg4 hC4 hR3 hR4
    go_wp2
    go_loopw [5, 6] (fun l t wr => ∃ (s : Nat) (B : Option Addr) (cr : Nat) (L : List Int), s ≤ p2 N ∧ t = .int .i64 s ∧ l = .slice B s cr ∧ Own wr (w.heap.size + 1) B s cr L ∧ DR w wr bc A n c (.int .i64 0) (.slice none 0 0)) (fun _ t _ => p2 N - (intOf t).toNat)
    case atStart => exact ⟨0, _, 0, _, Nat.zero_le _, rfl, rfl, hO5, hR5⟩
    clear hO5 hR5
    case round =>
      obtain ⟨s, B, cr, L, hs, rfl, rfl, hO, hR⟩ := hrel
      have hsz5 := hR.res.lt
      by_cases hlt : s < p2 N
      · go_wp2_with fail
        refine (l2Size_any s wr (by omega)).mono ?_
        rintro e w4 ⟨rfl, rfl⟩
        go_wp2_with (refine wpl_app (by rfl) _ _ (by rfl) (w.heap.size + 1) B s cr wr.heap.size L _ (by rfl) (by rfl) (hO.alloc _) (cell_new wr _) (by omega) (by simp; omega) ?_; intro g cap w5 hO5 hgrow5 hat5 hlt5)
        all_goals
          go_roundw
          case rel => exact ⟨s + 1, _, cap, _, by omega, by go_num, rfl, hO5, hR.app hO (by omega) (by omega) hgrow5⟩
          case measure => simp [intOf]; omega
      · have hge : ¬ (s : Int) < ((p2 N : Nat) : Int) := by omega
        have hs16 : s ≤ 16 := by omega
        clear hlt hs
        have v0 := hR.res.cell0
        have v1 := hR.res.cell1
        have z0 := hR.res.frozen
        have z1 := hR.res.frozen0
        have y := (hR.res.set0 (.int .i64 (N : Int))).set1 (.slice B s cr)
        have y0 := y.cell0
        have y1 := y.cell1
        have hbb := hb
        clear hb
        go_wp2
        refine bodyPost_ret (v := .agg #[.int .i64 (N : Int), .slice B s cr]) (by simp [results, Try.results204, go_sem, y0, y1]) rfl ⟨(N : Int), s, B, cr, L, rfl, by omega, ?_, ?_⟩
        · have hl := fun g (hA : B = some ⟨g, 0, none⟩) => row_low hO hA
          exact ((hO.far (fun g hA => by have := hl g hA; simp; omega) _).far (fun g hA => by have := hl g hA; simp; omega) _).less (by omega)
        · have hd := (hR.ds.store (p := ⟨w.heap.size, 0, none⟩) (Nat.le_refl _) hbb (.int .i64 (N : Int))).store (p := ⟨w.heap.size, 1, none⟩) (Nat.le_refl _) hbb (.slice B s cr)
          exact ⟨hd.grew, hd.cur⟩
  · have e0 : ((k0 : Int) == 0) = false := by simp; omega
    have e1 : ((k0 : Int) == 1) = false := by simp; omega
    have HA := hide (HCov.out N (by omega) w2 (by have := hR3.ds.cur.lt; omega) hR3.ds.grew hR3.ds.cur)
    clear h0 h1
    go_wp2_with fail
    refine HA.out.mono ?_
    rintro e w4 ⟨m, B, cr, L, rfl, hm, hO4', hg4, hC4⟩
    have hR4 := hR3.call hb hg4 hC4
    have hO4 := hO4'.less (B' := w.heap.size + 1) (by omega)
    have hm16 : m ≤ 16 := by omega
    clear hm hg4 hC4 hR3 hsz3 e0 e1 HA hO4'
    have v0 := hR4.res.cell0
    have v1 := hR4.res.cell1
    have z0 := hR4.res.frozen
    have z1 := hR4.res.frozen0
    have y := (hR4.res.set0 (.int .i64 (N : Int))).set1 (.slice B m cr)
    have y0 := y.cell0
    have y1 := y.cell1
    have hbb := hb
    clear hb
    go_wp2
    refine bodyPost_ret (v := .agg #[.int .i64 (N : Int), .slice B m cr]) (by simp [results, Try.results204, go_sem, y0, y1]) rfl ⟨(N : Int), m, B, cr, L, rfl, by omega, ?_, ?_⟩
    · have hl := fun g (hA : B = some ⟨g, 0, none⟩) => row_low hO4 hA
      exact ((hO4.far (fun g hA => by have := hl g hA; simp; omega) _).far (fun g hA => by have := hl g hA; simp; omega) _).less (by omega)
    · have hd := (hR4.ds.store (p := ⟨w.heap.size, 0, none⟩) (Nat.le_refl _) hbb (.int .i64 (N : Int))).store (p := ⟨w.heap.size, 1, none⟩) (Nat.le_refl _) hbb (.slice B m cr)
      exact ⟨hd.grew, hd.cur⟩
set_option maxHeartbeats 4000000 in
theorem l5Both_any (A : Option Addr) (n c : Nat) (w : World) (hB : Byts w A n) :
    Calls Try.prog 217 #[.slice A n c] w fun e w' => CodeSet w w' e := by
  have hT0 : Two (w.alloc (.cells #[.int .i64 0, .slice none 0 0] 26)) w.heap.size (.int .i64 0) (.slice none 0 0) := heap_alloc_new w _
  have hb0 := (Below.refl w.heap.size w).alloc (Nat.le_refl _) (.cells #[.int .i64 0, .slice none 0 0] 26)
  have z0 : (w.alloc (.cells #[.int .i64 0, .slice none 0 0] 26)).heap.size = w.heap.size + 1 := by simp
  go_enter Try.func217, Try.ntmps217
  go_wp2_with fail
  refine (begin_any A n c _ (hB.alloc _)).mono ?_
  rintro e w1 ⟨bc, rfl, hN1⟩
  have hnew := hN1.new
  rw [z0] at hnew
  have hT1 := hT0.below hN1.below (by simp)
  have hB1 := hb0.trans (hN1.below.mono (by simp))
  go_wp2_with fail
  refine (l5Poly_any bc A n c w1 hN1.lt hN1.byts hN1.apart hN1.cur).mono ?_
  rintro e w2 ⟨E, r, B, cr, L, rfl, hr, hO2, hg2, hC2⟩
  have hN2 := hN1.call hg2 hC2
  have hT2 := hT1.same (hg2.block _ hT1.lt (fun hk => by injection hk with hk; omega))
  have hB2 := below_draw hB1 hg2 (by omega) hB1.size
  have hlt1 := hT1.lt
  have hlt2 := hT2.lt
  have hsz12 := hg2.size
  have hN3 := (hN2.alloc (.cells #[.int .i64 E, .slice B r cr] 26)).drew
  have hF3 : Two (w2.alloc (.cells #[.int .i64 E, .slice B r cr] 26)) w2.heap.size (.int .i64 E) (.slice B r cr) := heap_alloc_new w2 _
  have hT3 := hT2.below ((Below.refl w2.heap.size w2).alloc (Nat.le_refl _) (.cells #[.int .i64 E, .slice B r cr] 26)) hlt2
  have hO3 := hO2.alloc (.cells #[.int .i64 E, .slice B r cr] 26)
  have hB3 := hB2.alloc hB2.size (.cells #[.int .i64 E, .slice B r cr] 26)
  have hlt := hN1.lt
  obtain ⟨b2, hb2⟩ : ∃ b2, b2 = w2.heap.size := ⟨_, rfl⟩
  obtain ⟨w3, hw3⟩ : ∃ w3, w3 = w2.alloc (.cells #[.int .i64 E, .slice B r cr] 26) := ⟨_, rfl⟩
  have hBl := hide (fun g (hA : B = some ⟨g, 0, none⟩) => show g < b2 from by have := own_lt hO2 hA; omega)
  have hwb : w.heap.size < b2 := by omega
  have hbcb : bc < b2 := by omega
  rw [← hw3] at hN3 hF3 hT3 hO3 hB3
  rw [← hb2] at hF3
  clear hN1 hN2 hT1 hT2 hO2 hg2 hC2 hB1 hB2 hT0 hb0 z0
  have f0 := hF3.cell0
  have f1 := hF3.cell1
  have v0 := hT3.cell0
  have v1 := hT3.cell1
  have q0 := hT3.frozen0
  have q1 := hT3.frozen
  go_wp2
  rw [← hw3, ← hb2]
  clear hw3 hb2
  go_region_held3 (fun w' => w'.cell? ⟨b2, 0, none⟩ = some (.int .i64 E) ∧ w'.cell? ⟨b2, 1, none⟩ = some (.slice B r cr))
    (first
      | go_keep
      | exact ⟨hF4.cell0, hF4.cell1⟩
      | exact ⟨((hF4.far (p := ⟨w.heap.size, 0, none⟩) (by simp; omega) _).far (p := ⟨w.heap.size, 1, none⟩) (by simp; omega) _).cell0, ((hF4.far (p := ⟨w.heap.size, 0, none⟩) (by simp; omega) _).far (p := ⟨w.heap.size, 1, none⟩) (by simp; omega) _).cell1⟩)
    (first
      | (go_at_call 194; refine (l1Below_any bc A n c 18 _ hN3.byts hN3.apart hN3.cur).mono ?_; rintro e w4 ⟨x, rfl, hx, hg4, hC4⟩; have hx18 : x < 18 := (by omega); have hF4 := (show Two w3.drew _ _ _ from hF3).same (hg4.block b2 hF3.lt (fun hk => by injection hk with hk; omega)); have hT4 := (show Two w3.drew _ _ _ from hT3).same (hg4.block _ hT3.lt (fun hk => by injection hk with hk; omega)); have v2 := hT4.cell0; have v3 := hT4.cell1; have q2 := hT4.frozen0; have q3 := hT4.frozen))
  have y := (hT4.set0 (.int .i64 E)).set1 (.slice B r cr)
  have y0 := y.cell0
  have y1 := y.cell1
  have hO4 := own_draw (show Own w3.drew _ _ _ _ _ from hO3) hg4 (fun g hA => by
    have h1 := hO3.where_
    have h2 := hBl.out g hA
    rcases h1 with h0 | ⟨g', h0, h3, _⟩
    · rw [h0] at hA; cases hA
    · rw [h0] at hA; injection hA with hA; injection hA with hA _
      omega)
  have hB4 := below_draw (hB3.drew) hg4 (by omega) hB3.size
  have hwx : IntKind.i64.wrap ((x : Int) - 1) = (x : Int) - 1 := IntWalk.i64_in _ (by omega)
  go_wp2
  refine bodyPost_ret (v := .tuple #[.agg #[.int .i64 E, .slice B r cr], .int .i64 ((x : Int) - 1)]) (by simp [results, Try.results217, go_sem, y0, y1, hwx]) rfl ⟨E, r, B, cr, L, (x : Int) - 1, rfl, by omega, ?_, ?_⟩
  · have hl := fun g (hA : B = some ⟨g, 0, none⟩) => row_low hO4 hA
    exact ((hO4.far (fun g hA => by have := hl g hA; simp; omega) _).far (fun g hA => by have := hl g hA; simp; omega) _).less (by omega)
  · exact (hB4.setCell (Nat.le_refl _) _).setCell (Nat.le_refl _) _
set_option maxHeartbeats 4000000 in
theorem drawCurvatureOf_any (A : Option Addr) (n c : Nat) (w : World) (hB : Byts w A n) :
    Calls Try.prog 117 #[.slice A n c] w fun e w' => CodeFn w w' e := by
  have hT0 : Two (w.alloc (.cells #[.int .i64 0, .slice none 0 0] 26)) w.heap.size (.int .i64 0) (.slice none 0 0) := heap_alloc_new w _
  have hb0 := (Below.refl w.heap.size w).alloc (Nat.le_refl _) (.cells #[.int .i64 0, .slice none 0 0] 26)
  have z0 : (w.alloc (.cells #[.int .i64 0, .slice none 0 0] 26)).heap.size = w.heap.size + 1 := by simp
  go_enter Try.func117, Try.ntmps117
  go_wp2_with fail
  refine (begin_any A n c _ (hB.alloc _)).mono ?_
  rintro e w1 ⟨bc, rfl, hN1⟩
  have hnew := hN1.new
  rw [z0] at hnew
  have hT1 := hT0.below hN1.below (by simp)
  have hB1 := hb0.trans (hN1.below.mono (by simp))
  go_wp2_with fail
  refine (l5Poly_any bc A n c w1 hN1.lt hN1.byts hN1.apart hN1.cur).mono ?_
  rintro e w2 ⟨E, r, B, cr, L, rfl, hr, hO2, hg2, hC2⟩
  have hT2 := hT1.same (hg2.block _ hT1.lt (fun hk => by injection hk with hk; omega))
  have hB2 := below_draw hB1 hg2 (by omega) hB1.size
  have hlt1 := hT1.lt
  have v0 := hT2.cell0
  have v1 := hT2.cell1
  have q0 := hT2.frozen0
  have q1 := hT2.frozen
  have y := (hT2.set0 (.int .i64 E)).set1 (.slice B r cr)
  have y0 := y.cell0
  have y1 := y.cell1
  go_wp2
  refine bodyPost_ret (v := .agg #[.int .i64 E, .slice B r cr]) (by simp [results, Try.results117, go_sem, y0, y1]) rfl ⟨E, r, B, cr, L, rfl, by omega, ?_, ?_⟩
  · have hl := fun g (hA : B = some ⟨g, 0, none⟩) => row_low hO2 hA
    exact ((hO2.far (fun g hA => by have := hl g hA; simp; omega) _).far (fun g hA => by have := hl g hA; simp; omega) _).less (by omega)
  · exact (hB2.setCell (Nat.le_refl _) _).setCell (Nat.le_refl _) _
set_option maxHeartbeats 4000000 in
theorem drawSubmodularityGap_any (A : Option Addr) (n c : Nat) (w : World) (hB : Byts w A n) :
    Calls Try.prog 124 #[.slice A n c] w fun e w' => CodeFn w w' e := by
  have hT0 : Two (w.alloc (.cells #[.int .i64 0, .slice none 0 0] 26)) w.heap.size (.int .i64 0) (.slice none 0 0) := heap_alloc_new w _
  have hb0 := (Below.refl w.heap.size w).alloc (Nat.le_refl _) (.cells #[.int .i64 0, .slice none 0 0] 26)
  have z0 : (w.alloc (.cells #[.int .i64 0, .slice none 0 0] 26)).heap.size = w.heap.size + 1 := by simp
  go_enter Try.func124, Try.ntmps124
  go_wp2_with fail
  refine (begin_any A n c _ (hB.alloc _)).mono ?_
  rintro e w1 ⟨bc, rfl, hN1⟩
  have hnew := hN1.new
  rw [z0] at hnew
  have hT1 := hT0.below hN1.below (by simp)
  have hB1 := hb0.trans (hN1.below.mono (by simp))
  go_wp2_with fail
  refine (l2Any_any bc A n c w1 hN1.lt hN1.byts hN1.apart hN1.cur).mono ?_
  rintro e w2 ⟨E, r, B, cr, L, rfl, hr, hO2, hg2, hC2⟩
  have hT2 := hT1.same (hg2.block _ hT1.lt (fun hk => by injection hk with hk; omega))
  have hB2 := below_draw hB1 hg2 (by omega) hB1.size
  have hlt1 := hT1.lt
  have v0 := hT2.cell0
  have v1 := hT2.cell1
  have q0 := hT2.frozen0
  have q1 := hT2.frozen
  have y := (hT2.set0 (.int .i64 E)).set1 (.slice B r cr)
  have y0 := y.cell0
  have y1 := y.cell1
  go_wp2
  refine bodyPost_ret (v := .agg #[.int .i64 E, .slice B r cr]) (by simp [results, Try.results124, go_sem, y0, y1]) rfl ⟨E, r, B, cr, L, rfl, by omega, ?_, ?_⟩
  · have hl := fun g (hA : B = some ⟨g, 0, none⟩) => row_low hO2 hA
    exact ((hO2.far (fun g hA => by have := hl g hA; simp; omega) _).far (fun g hA => by have := hl g hA; simp; omega) _).less (by omega)
  · exact (hB2.setCell (Nat.le_refl _) _).setCell (Nat.le_refl _) _
set_option maxHeartbeats 4000000 in
theorem drawDoubleGreedy_any (A : Option Addr) (n c : Nat) (w : World) (hB : Byts w A n) :
    Calls Try.prog 106 #[.slice A n c] w fun e w' => CodeFn w w' e := by
  have hT0 : Two (w.alloc (.cells #[.int .i64 0, .slice none 0 0] 26)) w.heap.size (.int .i64 0) (.slice none 0 0) := heap_alloc_new w _
  have hb0 := (Below.refl w.heap.size w).alloc (Nat.le_refl _) (.cells #[.int .i64 0, .slice none 0 0] 26)
  have z0 : (w.alloc (.cells #[.int .i64 0, .slice none 0 0] 26)).heap.size = w.heap.size + 1 := by simp
  go_enter Try.func106, Try.ntmps106
  go_wp2_with fail
  refine (begin_any A n c _ (hB.alloc _)).mono ?_
  rintro e w1 ⟨bc, rfl, hN1⟩
  have hnew := hN1.new
  rw [z0] at hnew
  have hT1 := hT0.below hN1.below (by simp)
  have hB1 := hb0.trans (hN1.below.mono (by simp))
  go_wp2_with fail
  refine (l2Any_any bc A n c w1 hN1.lt hN1.byts hN1.apart hN1.cur).mono ?_
  rintro e w2 ⟨E, r, B, cr, L, rfl, hr, hO2, hg2, hC2⟩
  have hT2 := hT1.same (hg2.block _ hT1.lt (fun hk => by injection hk with hk; omega))
  have hB2 := below_draw hB1 hg2 (by omega) hB1.size
  have hlt1 := hT1.lt
  have v0 := hT2.cell0
  have v1 := hT2.cell1
  have q0 := hT2.frozen0
  have q1 := hT2.frozen
  have y := (hT2.set0 (.int .i64 E)).set1 (.slice B r cr)
  have y0 := y.cell0
  have y1 := y.cell1
  go_wp2
  refine bodyPost_ret (v := .agg #[.int .i64 E, .slice B r cr]) (by simp [results, Try.results106, go_sem, y0, y1]) rfl ⟨E, r, B, cr, L, rfl, by omega, ?_, ?_⟩
  · have hl := fun g (hA : B = some ⟨g, 0, none⟩) => row_low hO2 hA
    exact ((hO2.far (fun g hA => by have := hl g hA; simp; omega) _).far (fun g hA => by have := hl g hA; simp; omega) _).less (by omega)
  · exact (hB2.setCell (Nat.le_refl _) _).setCell (Nat.le_refl _) _
set_option maxHeartbeats 4000000 in
theorem l12Both_any (A : Option Addr) (n c : Nat) (w : World) (hB : Byts w A n) :
    Calls Try.prog 196 #[.slice A n c] w fun e w' => CodeSet w w' e := by
  have hT0 : Two (w.alloc (.cells #[.int .i64 0, .slice none 0 0] 26)) w.heap.size (.int .i64 0) (.slice none 0 0) := heap_alloc_new w _
  have hb0 := (Below.refl w.heap.size w).alloc (Nat.le_refl _) (.cells #[.int .i64 0, .slice none 0 0] 26)
  have z0 : (w.alloc (.cells #[.int .i64 0, .slice none 0 0] 26)).heap.size = w.heap.size + 1 := by simp
  go_enter Try.func196, Try.ntmps196
  go_wp2_with fail
  refine (l5Both_any A n c _ (hB.alloc _)).mono ?_
  rintro e w2 ⟨E, r, B, cr, L, s, rfl, hr, hO2, hb2⟩
  have hT2 := hT0.below hb2 (by simp)
  have hB2 := hb0.trans (hb2.mono (by simp))
  have hlt2 := hT2.lt
  have hF3 : Two (w2.alloc (.cells #[.int .i64 E, .slice B r cr] 26)) w2.heap.size (.int .i64 E) (.slice B r cr) := heap_alloc_new w2 _
  have f0 := hF3.cell0
  have f1 := hF3.cell1
  have v0 := hT2.cell0
  have v1 := hT2.cell1
  have q0 := hT2.frozen0
  have q1 := hT2.frozen
  have y := (hT2.set0 (.int .i64 E)).set1 (.slice B r cr)
  have yC := y.below ((Below.refl _ _).alloc (Nat.le_refl _) (.cells #[.int .i64 E, .slice B r cr] 26)) y.lt
  have yC0 := hide yC.cell0
  have yC1 := hide yC.cell1
  have hl := fun g (hA : B = some ⟨g, 0, none⟩) => row_low hO2 hA
  have hfar : ∀ (g k : Nat), B = some ⟨g, 0, none⟩ → g ≠ (⟨w.heap.size, k, none⟩ : Addr).block := fun g k hA => by have := hl g hA; simp; omega
  have oB := hide ((((hO2.far (p := ⟨w.heap.size, 0, none⟩) (fun g hA => hfar g 0 hA) (.int .i64 E)).far (p := ⟨w.heap.size, 1, none⟩) (fun g hA => hfar g 1 hA) (.slice B r cr)).alloc (.cells #[.int .i64 E, .slice B r cr] 26)).less (B' := w.heap.size) (by rw [z0]; omega))
  have bB := hide (((hB2.setCell (p := ⟨w.heap.size, 0, none⟩) (Nat.le_refl _) (.int .i64 E)).setCell (p := ⟨w.heap.size, 1, none⟩) (Nat.le_refl _) (.slice B r cr)).alloc (by simpa [World.setCell] using hB2.size) (.cells #[.int .i64 E, .slice B r cr] 26))
  have hneq : w.heap.size ≠ w2.heap.size := by omega
  clear y yC hF3 hT2 hO2 hb2 hB2 hT0 hb0 hl hfar
  go_wp2
  all_goals first
    | (refine bodyPost_ret (v := .tuple #[.agg #[.int .i64 E, .slice B r cr], .int .i64 s]) ?_ rfl ⟨E, r, B, cr, L, s, rfl, by omega, oB.out, bB.out⟩; simp [results, Try.results196, go_sem, yC0.out, yC1.out]; done)
    | (refine bodyPost_ret (v := .tuple #[.agg #[.int .i64 E, .slice B r cr], .int .i64 6]) ?_ rfl ⟨E, r, B, cr, L, 6, rfl, by omega, oB.out, bB.out⟩; simp [results, Try.results196, go_sem, yC0.out, yC1.out]; done)
    | fail
set_option maxHeartbeats 4000000 in
theorem drawRatioOf_any (A : Option Addr) (n c : Nat) (w : World) (hB : Byts w A n) :
    Calls Try.prog 121 #[.slice A n c] w fun e w' => CodeSet w w' e := by
  have hT0 : Two (w.alloc (.cells #[.int .i64 0, .slice none 0 0] 26)) w.heap.size (.int .i64 0) (.slice none 0 0) := heap_alloc_new w _
  have hb0 := (Below.refl w.heap.size w).alloc (Nat.le_refl _) (.cells #[.int .i64 0, .slice none 0 0] 26)
  have z0 : (w.alloc (.cells #[.int .i64 0, .slice none 0 0] 26)).heap.size = w.heap.size + 1 := by simp
  go_enter Try.func121, Try.ntmps121
  go_wp2_with fail
  refine (l12Both_any A n c _ (hB.alloc _)).mono ?_
  rintro e w2 ⟨E, r, B, cr, L, s, rfl, hr, hO2, hb2⟩
  have hT2 := hT0.below hb2 (by simp)
  have hB2 := hb0.trans (hb2.mono (by simp))
  have hlt2 := hT2.lt
  have hF3 : Two (w2.alloc (.cells #[.int .i64 E, .slice B r cr] 26)) w2.heap.size (.int .i64 E) (.slice B r cr) := heap_alloc_new w2 _
  have f0 := hF3.cell0
  have f1 := hF3.cell1
  have v0 := hT2.cell0
  have v1 := hT2.cell1
  have q0 := hT2.frozen0
  have q1 := hT2.frozen
  have y := (hT2.set0 (.int .i64 E)).set1 (.slice B r cr)
  have yC := y.below ((Below.refl _ _).alloc (Nat.le_refl _) (.cells #[.int .i64 E, .slice B r cr] 26)) y.lt
  have yC0 := hide yC.cell0
  have yC1 := hide yC.cell1
  have hl := fun g (hA : B = some ⟨g, 0, none⟩) => row_low hO2 hA
  have hfar : ∀ (g k : Nat), B = some ⟨g, 0, none⟩ → g ≠ (⟨w.heap.size, k, none⟩ : Addr).block := fun g k hA => by have := hl g hA; simp; omega
  have oB := hide ((((hO2.far (p := ⟨w.heap.size, 0, none⟩) (fun g hA => hfar g 0 hA) (.int .i64 E)).far (p := ⟨w.heap.size, 1, none⟩) (fun g hA => hfar g 1 hA) (.slice B r cr)).alloc (.cells #[.int .i64 E, .slice B r cr] 26)).less (B' := w.heap.size) (by rw [z0]; omega))
  have bB := hide (((hB2.setCell (p := ⟨w.heap.size, 0, none⟩) (Nat.le_refl _) (.int .i64 E)).setCell (p := ⟨w.heap.size, 1, none⟩) (Nat.le_refl _) (.slice B r cr)).alloc (by simpa [World.setCell] using hB2.size) (.cells #[.int .i64 E, .slice B r cr] 26))
  have hneq : w.heap.size ≠ w2.heap.size := by omega
  clear y yC hF3 hT2 hO2 hb2 hB2 hT0 hb0 hl hfar
  go_wp2
  all_goals first
    | (refine bodyPost_ret (v := .tuple #[.agg #[.int .i64 E, .slice B r cr], .int .i64 s]) ?_ rfl ⟨E, r, B, cr, L, s, rfl, by omega, oB.out, bB.out⟩; simp [results, Try.results121, go_sem, yC0.out, yC1.out]; done)
    | (refine bodyPost_ret (v := .tuple #[.agg #[.int .i64 E, .slice B r cr], .int .i64 6]) ?_ rfl ⟨E, r, B, cr, L, 6, rfl, by omega, oB.out, bB.out⟩; simp [results, Try.results121, go_sem, yC0.out, yC1.out]; done)
    | fail
set_option maxHeartbeats 4000000 in
theorem drawGreedyOfSize_any (A : Option Addr) (n c : Nat) (w : World) (hB : Byts w A n) :
    Calls Try.prog 97 #[.slice A n c] w fun e w' => CodeSet w w' e := by
  have hT0 : Two (w.alloc (.cells #[.int .i64 0, .slice none 0 0] 26)) w.heap.size (.int .i64 0) (.slice none 0 0) := heap_alloc_new w _
  have hb0 := (Below.refl w.heap.size w).alloc (Nat.le_refl _) (.cells #[.int .i64 0, .slice none 0 0] 26)
  have z0 : (w.alloc (.cells #[.int .i64 0, .slice none 0 0] 26)).heap.size = w.heap.size + 1 := by simp
  go_enter Try.func97, Try.ntmps97
  go_wp2_with fail
  refine (l12Both_any A n c _ (hB.alloc _)).mono ?_
  rintro e w2 ⟨E, r, B, cr, L, s, rfl, hr, hO2, hb2⟩
  have hT2 := hT0.below hb2 (by simp)
  have hB2 := hb0.trans (hb2.mono (by simp))
  have hlt2 := hT2.lt
  have hF3 : Two (w2.alloc (.cells #[.int .i64 E, .slice B r cr] 26)) w2.heap.size (.int .i64 E) (.slice B r cr) := heap_alloc_new w2 _
  have f0 := hF3.cell0
  have f1 := hF3.cell1
  have v0 := hT2.cell0
  have v1 := hT2.cell1
  have q0 := hT2.frozen0
  have q1 := hT2.frozen
  have y := (hT2.set0 (.int .i64 E)).set1 (.slice B r cr)
  have yC := y.below ((Below.refl _ _).alloc (Nat.le_refl _) (.cells #[.int .i64 E, .slice B r cr] 26)) y.lt
  have yC0 := hide yC.cell0
  have yC1 := hide yC.cell1
  have hl := fun g (hA : B = some ⟨g, 0, none⟩) => row_low hO2 hA
  have hfar : ∀ (g k : Nat), B = some ⟨g, 0, none⟩ → g ≠ (⟨w.heap.size, k, none⟩ : Addr).block := fun g k hA => by have := hl g hA; simp; omega
  have oB := hide ((((hO2.far (p := ⟨w.heap.size, 0, none⟩) (fun g hA => hfar g 0 hA) (.int .i64 E)).far (p := ⟨w.heap.size, 1, none⟩) (fun g hA => hfar g 1 hA) (.slice B r cr)).alloc (.cells #[.int .i64 E, .slice B r cr] 26)).less (B' := w.heap.size) (by rw [z0]; omega))
  have bB := hide (((hB2.setCell (p := ⟨w.heap.size, 0, none⟩) (Nat.le_refl _) (.int .i64 E)).setCell (p := ⟨w.heap.size, 1, none⟩) (Nat.le_refl _) (.slice B r cr)).alloc (by simpa [World.setCell] using hB2.size) (.cells #[.int .i64 E, .slice B r cr] 26))
  have hneq : w.heap.size ≠ w2.heap.size := by omega
  clear y yC hF3 hT2 hO2 hb2 hB2 hT0 hb0 hl hfar
  go_wp2
  all_goals first
    | (refine bodyPost_ret (v := .tuple #[.agg #[.int .i64 E, .slice B r cr], .int .i64 s]) ?_ rfl ⟨E, r, B, cr, L, s, rfl, by omega, oB.out, bB.out⟩; simp [results, Try.results97, go_sem, yC0.out, yC1.out]; done)
    | (refine bodyPost_ret (v := .tuple #[.agg #[.int .i64 E, .slice B r cr], .int .i64 6]) ?_ rfl ⟨E, r, B, cr, L, 6, rfl, by omega, oB.out, bB.out⟩; simp [results, Try.results97, go_sem, yC0.out, yC1.out]; done)
    | fail
set_option maxHeartbeats 4000000 in
theorem drawLocalMaximum_any (A : Option Addr) (n c : Nat) (w : World) (hB : Byts w A n) :
    Calls Try.prog 111 #[.slice A n c] w fun e w' => CodeSet w w' e := by
  have hT0 : Two (w.alloc (.cells #[.int .i64 0, .slice none 0 0] 26)) w.heap.size (.int .i64 0) (.slice none 0 0) := heap_alloc_new w _
  have hb0 := (Below.refl w.heap.size w).alloc (Nat.le_refl _) (.cells #[.int .i64 0, .slice none 0 0] 26)
  have z0 : (w.alloc (.cells #[.int .i64 0, .slice none 0 0] 26)).heap.size = w.heap.size + 1 := by simp
  go_enter Try.func111, Try.ntmps111
  go_wp2_with fail
  refine (l2Set_any A n c _ (hB.alloc _)).mono ?_
  rintro e w2 ⟨E, r, B, cr, L, s, rfl, hr, hO2, hb2⟩
  have hT2 := hT0.below hb2 (by simp)
  have hB2 := hb0.trans (hb2.mono (by simp))
  have hlt2 := hT2.lt
  have hF3 : Two (w2.alloc (.cells #[.int .i64 E, .slice B r cr] 26)) w2.heap.size (.int .i64 E) (.slice B r cr) := heap_alloc_new w2 _
  have f0 := hF3.cell0
  have f1 := hF3.cell1
  have v0 := hT2.cell0
  have v1 := hT2.cell1
  have q0 := hT2.frozen0
  have q1 := hT2.frozen
  have y := (hT2.set0 (.int .i64 E)).set1 (.slice B r cr)
  have yC := y.below ((Below.refl _ _).alloc (Nat.le_refl _) (.cells #[.int .i64 E, .slice B r cr] 26)) y.lt
  have yC0 := hide yC.cell0
  have yC1 := hide yC.cell1
  have hl := fun g (hA : B = some ⟨g, 0, none⟩) => row_low hO2 hA
  have hfar : ∀ (g k : Nat), B = some ⟨g, 0, none⟩ → g ≠ (⟨w.heap.size, k, none⟩ : Addr).block := fun g k hA => by have := hl g hA; simp; omega
  have oB := hide ((((hO2.far (p := ⟨w.heap.size, 0, none⟩) (fun g hA => hfar g 0 hA) (.int .i64 E)).far (p := ⟨w.heap.size, 1, none⟩) (fun g hA => hfar g 1 hA) (.slice B r cr)).alloc (.cells #[.int .i64 E, .slice B r cr] 26)).less (B' := w.heap.size) (by rw [z0]; omega))
  have bB := hide (((hB2.setCell (p := ⟨w.heap.size, 0, none⟩) (Nat.le_refl _) (.int .i64 E)).setCell (p := ⟨w.heap.size, 1, none⟩) (Nat.le_refl _) (.slice B r cr)).alloc (by simpa [World.setCell] using hB2.size) (.cells #[.int .i64 E, .slice B r cr] 26))
  have hneq : w.heap.size ≠ w2.heap.size := by omega
  clear y yC hF3 hT2 hO2 hb2 hB2 hT0 hb0 hl hfar
  go_wp2
  all_goals first
    | (refine bodyPost_ret (v := .tuple #[.agg #[.int .i64 E, .slice B r cr], .int .i64 s]) ?_ rfl ⟨E, r, B, cr, L, s, rfl, by omega, oB.out, bB.out⟩; simp [results, Try.results111, go_sem, yC0.out, yC1.out]; done)
    | (refine bodyPost_ret (v := .tuple #[.agg #[.int .i64 E, .slice B r cr], .int .i64 6]) ?_ rfl ⟨E, r, B, cr, L, 6, rfl, by omega, oB.out, bB.out⟩; simp [results, Try.results111, go_sem, yC0.out, yC1.out]; done)
    | fail
set_option maxHeartbeats 4000000 in
theorem drawIsLocalMaximum_any (A : Option Addr) (n c : Nat) (w : World) (hB : Byts w A n) :
    Calls Try.prog 115 #[.slice A n c] w fun e w' => CodeSet w w' e := by
  have hT0 : Two (w.alloc (.cells #[.int .i64 0, .slice none 0 0] 26)) w.heap.size (.int .i64 0) (.slice none 0 0) := heap_alloc_new w _
  have hb0 := (Below.refl w.heap.size w).alloc (Nat.le_refl _) (.cells #[.int .i64 0, .slice none 0 0] 26)
  have z0 : (w.alloc (.cells #[.int .i64 0, .slice none 0 0] 26)).heap.size = w.heap.size + 1 := by simp
  go_enter Try.func115, Try.ntmps115
  go_wp2_with fail
  refine (l2Set_any A n c _ (hB.alloc _)).mono ?_
  rintro e w2 ⟨E, r, B, cr, L, s, rfl, hr, hO2, hb2⟩
  have hT2 := hT0.below hb2 (by simp)
  have hB2 := hb0.trans (hb2.mono (by simp))
  have hlt2 := hT2.lt
  have hF3 : Two (w2.alloc (.cells #[.int .i64 E, .slice B r cr] 26)) w2.heap.size (.int .i64 E) (.slice B r cr) := heap_alloc_new w2 _
  have f0 := hF3.cell0
  have f1 := hF3.cell1
  have v0 := hT2.cell0
  have v1 := hT2.cell1
  have q0 := hT2.frozen0
  have q1 := hT2.frozen
  have y := (hT2.set0 (.int .i64 E)).set1 (.slice B r cr)
  have yC := y.below ((Below.refl _ _).alloc (Nat.le_refl _) (.cells #[.int .i64 E, .slice B r cr] 26)) y.lt
  have yC0 := hide yC.cell0
  have yC1 := hide yC.cell1
  have hl := fun g (hA : B = some ⟨g, 0, none⟩) => row_low hO2 hA
  have hfar : ∀ (g k : Nat), B = some ⟨g, 0, none⟩ → g ≠ (⟨w.heap.size, k, none⟩ : Addr).block := fun g k hA => by have := hl g hA; simp; omega
  have oB := hide ((((hO2.far (p := ⟨w.heap.size, 0, none⟩) (fun g hA => hfar g 0 hA) (.int .i64 E)).far (p := ⟨w.heap.size, 1, none⟩) (fun g hA => hfar g 1 hA) (.slice B r cr)).alloc (.cells #[.int .i64 E, .slice B r cr] 26)).less (B' := w.heap.size) (by rw [z0]; omega))
  have bB := hide (((hB2.setCell (p := ⟨w.heap.size, 0, none⟩) (Nat.le_refl _) (.int .i64 E)).setCell (p := ⟨w.heap.size, 1, none⟩) (Nat.le_refl _) (.slice B r cr)).alloc (by simpa [World.setCell] using hB2.size) (.cells #[.int .i64 E, .slice B r cr] 26))
  have hneq : w.heap.size ≠ w2.heap.size := by omega
  clear y yC hF3 hT2 hO2 hb2 hB2 hT0 hb0 hl hfar
  go_wp2
  all_goals first
    | (refine bodyPost_ret (v := .tuple #[.agg #[.int .i64 E, .slice B r cr], .int .i64 s]) ?_ rfl ⟨E, r, B, cr, L, s, rfl, by omega, oB.out, bB.out⟩; simp [results, Try.results115, go_sem, yC0.out, yC1.out]; done)
    | (refine bodyPost_ret (v := .tuple #[.agg #[.int .i64 E, .slice B r cr], .int .i64 6]) ?_ rfl ⟨E, r, B, cr, L, 6, rfl, by omega, oB.out, bB.out⟩; simp [results, Try.results115, go_sem, yC0.out, yC1.out]; done)
    | fail
set_option maxHeartbeats 4000000 in
theorem drawCompareRatios_any (A : Option Addr) (n c : Nat) (w : World) (hB : Byts w A n) :
    Calls Try.prog 129 #[.slice A n c] w fun e w' => ∃ a b x y : Int, e = .returned (.tuple #[.int .i64 a, .int .i64 b, .int .i64 x, .int .i64 y]) ∧ Below w.heap.size w w' := by
  go_enter Try.func129, Try.ntmps129
  go_wp2_with fail
  refine (begin_any A n c _ hB).mono ?_
  rintro e w1 ⟨bc, rfl, hN1⟩
  go_wp2_with fail
  refine (l1Below_any bc A n c 6 w1 hN1.byts hN1.apart hN1.cur).mono ?_
  rintro e w2 ⟨a, rfl, _, hg2, hC2⟩
  have hN2 := hN1.call hg2 hC2
  go_wp2_with fail
  refine (l1Below_any bc A n c 5 w2 hN2.byts hN2.apart hN2.cur).mono ?_
  rintro e w3 ⟨b, rfl, _, hg3, hC3⟩
  have hN3 := hN2.call hg3 hC3
  have hlt3 := hN3.lt
  have hN4 := hN3.alloc (.cells #[.int .i64 1, .int .i64 2, .int .i64 3, .int .i64 4, .int .i64 100001, .int .i64 (-9223372036854775808)] 3)
  have hI := ints_six w3 1 2 3 4 100001 (-9223372036854775808)
  go_wp2_with fail
  refine (l1PickInt_any bc A n c _ 6 6 _ _ hI (by omega) hN4.byts hN4.apart (by intro b off h; injection h with h; injection h with h _; omega) hN4.cur).mono ?_
  rintro e w5 ⟨x, hx, rfl, hg5, hC5⟩
  have hN5 := hN4.call hg5 hC5
  obtain ⟨d, hd⟩ : ∃ d, d = gv [1, 2, 3, 4, 100001, -9223372036854775808] x := ⟨_, rfl⟩
  rw [← hd]
  go_wp2_with fail
  refine (l1Below_any bc A n c 6 w5 hN5.byts hN5.apart hN5.cur).mono ?_
  rintro e w6 ⟨y, rfl, _, hg6, hC6⟩
  have hN6 := hN5.call hg6 hC6
  have hb6 := hN6.below
  go_wp2
  refine bodyPost_ret (v := .tuple #[.int .i64 (a : Int), .int .i64 (b : Int), .int .i64 (y : Int), .int .i64 d]) ?_ rfl ⟨_, _, _, _, rfl, hb6⟩
  simp [results, Try.results129, go_sem, hd]
end Go.Proofs.Ytokeejachclpeaa
