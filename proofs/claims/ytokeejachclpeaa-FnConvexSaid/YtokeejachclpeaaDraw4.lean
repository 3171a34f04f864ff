/-
  Walks: a function drawn.
-/
import Derived.Test.YtokeejachclpeaaDrawK
import Derived.Test.YtokeejachclpeaaBest
import Derived.Test.YtokeejachclpeaaApp
import Derived.Deep.RegionHeld3
namespace Go.Proofs.Ytokeejachclpeaa
open Go.RowKit

theorem l2Cover_m (bc : Nat) (A : Option Addr) (n c N : Nat) (w : World) (hN : N ≤ 5) (hb : bc < w.heap.size) (hB : Byts w A n) (hne : Apart A n bc) (hC : Cur w bc A n c) :
    Calls Try.prog 220 #[.pointer (some ⟨bc, 0, none⟩), .int .i64 (N : Int)] w fun e w' => ∃ (m : Nat) (B : Option Addr) (cr : Nat) (L : List Int), e = .returned (.slice B m cr) ∧ m = p2 N ∧ Own w' w.heap.size B m cr L ∧ w.grownBy w' (some bc) ∧ Cur w' bc A n c :=
  (l2Cover_any bc A n c N w hN hb hB hne hC).mono fun _ _ ⟨B, cr, L, h1, h2, h3, h4⟩ => ⟨2 ^ N, B, cr, L, h1, rfl, h2, h3, h4⟩
/-- A function that was drawn: at most four elements, a value for each set, in new memory. -/
def FnDrawn (w w' : World) (bc : Nat) (A : Option Addr) (n c : Nat) (e : Ending) : Prop :=
  ∃ (N m : Nat) (B : Option Addr) (cr : Nat) (L : List Int), e = .returned (.agg #[.int .i64 (N : Int), .slice B m cr]) ∧ N ≤ 4 ∧ m = 2 ^ N ∧ Own w' w.heap.size B m cr L ∧ w.grownBy w' (some bc) ∧ Cur w' bc A n c
set_option maxHeartbeats 8000000 in
theorem l2Draw_any (bc : Nat) (A : Option Addr) (n c : Nat) (w : World) (hb : bc < w.heap.size) (hB : Byts w A n) (hne : Apart A n bc) (hC : Cur w bc A n c) :
    Calls Try.prog 212 #[.pointer (some ⟨bc, 0, none⟩), .int .i64 4] w fun e w' => FnDrawn w w' bc A n c e := by
  have HBel := hide (fun (k : Int) W (h : w.grownBy W (some bc)) (hc : Cur W bc A n c) => l1Below_any bc A n c k W (byts_grown hB h hne) hne hc)
  have HOnce := hide (fun (k : Int) W (h : w.grownBy W (some bc)) (hc : Cur W bc A n c) => l1Once_any bc A n c k W (byts_grown hB h hne) hne hc)
  have HCov := hide (fun (N : Nat) (hN : N ≤ 5) W (hb : bc < W.heap.size) (h : w.grownBy W (some bc)) (hc : Cur W bc A n c) => l2Cover_m bc A n c N W hN hb (byts_grown hB h hne) hne hc)
  have hR0 := DR.start hC (.int .i64 0) (.slice none 0 0)
  clear hB hne hC
  go_enter Try.func212, Try.ntmps212
  go_wp2_with fail
  refine (HBel.out 5 _ hR0.ds.grew hR0.ds.cur).mono ?_
  rintro e w1 ⟨N, rfl, hN, hg1, hC1⟩
  have hR1 := hR0.call hb hg1 hC1
  have hN4 : N ≤ 4 := by omega
  have hN40 : N ≤ 40 := by omega
  have h16 : p2 N ≤ 16 := Nat.le_trans (Nat.pow_le_pow_right (by decide) hN4) (by decide)
  have hp0 := p2_pos N
  have hsz1 := hR1.res.lt
  clear hN hg1 hC1 hR0
  have hO1 := own_zero w1 (B := w.heap.size + 1) (by omega)
  have hR2 := hR1.alloc (.cells #[] 3)
  clear hR1
  go_wp2_with fail
  refine (HBel.out 5 _ hR2.ds.grew hR2.ds.cur).mono ?_
  rintro e w2 ⟨k0, rfl, hk0, hg2, hC2⟩
  have hR3 := hR2.call hb hg2 hC2
  have hO3 := own_call hO1 hg2 (by omega)
  have hsz3 := hR3.res.lt
  have hk05 : k0 < 5 := by omega
  clear hR2 hO1 hg2 hC2 hk0 hsz1
  by_cases h0 : k0 = 0
  · subst h0
    go_wp2
    go_loopw [6, 7] (fun l t wr => ∃ (s : Nat) (B : Option Addr) (cr : Nat) (L : List Int), s ≤ p2 N ∧ t = .int .i64 s ∧ l = .slice B s cr ∧ Own wr (w.heap.size + 1) B s cr L ∧ DR w wr bc A n c (.int .i64 0) (.slice none 0 0)) (fun _ t _ => p2 N - (intOf t).toNat)
    case atStart => exact ⟨0, _, 0, _, Nat.zero_le _, rfl, rfl, hO3, hR3⟩
    clear hO3 hR3 hsz3
    case round =>
      obtain ⟨s, B, cr, L, hs, rfl, rfl, hO, hR⟩ := hrel
      by_cases hlt : s < p2 N
      · have HA := hide (HBel.out 6 wr hR.ds.grew hR.ds.cur)
        go_wp2_with fail
        refine HA.out.mono ?_
        rintro e w4 ⟨x, rfl, hx, hg4, hC4⟩
        have hx6 : x < 6 := by omega
        have hR4 := hR.call hb hg4 hC4
        have hO4 := own_call hO hg4 (by omega)
        have hsz4 := hR4.res.lt
        clear hx
        go_wp2_with (refine wpl_app (by rfl) _ _ (by rfl) (w.heap.size + 1) B s cr w4.heap.size L ((x : Int) - 1) (by rfl) (by rfl) (hO4.alloc _) (cell_new w4 _) (by omega) (by simp; omega) ?_; intro g cap w5 hO5 hgrow5 hat5 hlt5)
        go_roundw
        case rel => exact ⟨s + 1, _, cap, _, by omega, by go_num, rfl, hO5, hR4.app hO4 (by omega) (by omega) hgrow5⟩
        case measure => simp [intOf]; omega
      · obtain rfl : s = p2 N := by omega
        have v0 := hR.res.cell0
        have v1 := hR.res.cell1
        have z0 := hR.res.frozen
        have z1 := hR.res.frozen0
        have y := (hR.res.set0 (.int .i64 (N : Int))).set1 (.slice B (p2 N) cr)
        have y0 := y.cell0
        have y1 := y.cell1
        have hbb := hb
        clear hb
        go_wp2
        refine bodyPost_ret (v := .agg #[.int .i64 (N : Int), .slice B (p2 N) cr]) (by simp [results, Try.results212, go_sem, y0, y1]) rfl ⟨N, p2 N, B, cr, L, rfl, hN4, rfl, ?_, ?_⟩
        · have hl := fun g (hA : B = some ⟨g, 0, none⟩) => row_low hO hA
          exact ((hO.far (fun g hA => by have := hl g hA; simp; omega) _).far (fun g hA => by have := hl g hA; simp; omega) _).less (by omega)
        · have hd := (hR.ds.store (p := ⟨w.heap.size, 0, none⟩) (Nat.le_refl _) hbb (.int .i64 (N : Int))).store (p := ⟨w.heap.size, 1, none⟩) (Nat.le_refl _) hbb (.slice B (p2 N) cr)
          exact ⟨hd.grew, hd.cur⟩
  by_cases h1 : k0 = 1
  · subst h1
    have HA := hide (HBel.out ((N : Int) + 1) w2 hR3.ds.grew hR3.ds.cur)
    go_wp2_with fail
    refine HA.out.mono ?_
    rintro e w4 ⟨top, rfl, htop, hg4, hC4⟩
    have htop5 : top ≤ 4 := by omega
    have hR4 := hR3.call hb hg4 hC4
    have hO4 := own_call hO3 hg4 (by omega)
    clear htop hg4 hC4 hR3 hO3 hsz3
    go_wp2
    go_loopw [6, 9] (fun l t wr => ∃ (s : Nat) (B : Option Addr) (cr : Nat) (L : List Int), s ≤ p2 N ∧ t = .int .i64 s ∧ l = .slice B s cr ∧ Own wr (w.heap.size + 1) B s cr L ∧ DR w wr bc A n c (.int .i64 0) (.slice none 0 0)) (fun _ t _ => p2 N - (intOf t).toNat)
    case atStart => exact ⟨0, _, 0, _, Nat.zero_le _, rfl, rfl, hO4, hR4⟩
    clear hO4 hR4
    case round =>
      obtain ⟨s, B, cr, L, hs, rfl, rfl, hO, hR⟩ := hrel
      have hsz4 := hR.res.lt
      by_cases hlt : s < p2 N
      · go_wp2_with fail
        refine (l2Size_any s wr (by omega)).mono ?_
        rintro e w4 ⟨rfl, rfl⟩
        go_wp2_with (refine wpl_app (by rfl) _ _ (by rfl) (w.heap.size + 1) B s cr wr.heap.size L _ (by rfl) (by rfl) (hO.alloc _) (cell_new wr _) (by omega) (by simp; omega) ?_; intro g cap w5 hO5 hgrow5 hat5 hlt5)
        all_goals
          go_roundw
          case rel => exact ⟨s + 1, _, cap, _, by omega, by go_num, rfl, hO5, hR.app hO (by omega) (by omega) hgrow5⟩
          case measure => simp [intOf]; omega
      · obtain ⟨m, rfl⟩ : ∃ m : Nat, m = s := ⟨_, rfl⟩
        have hm : m = p2 N := by omega
        have HM := hide hm
        have hm16 : m ≤ 16 := by omega
        have hm0 : 0 < m := by omega
        have hge : ¬ (m : Int) < ((p2 N : Nat) : Int) := by omega
        clear hm hs hlt
        have hOB := hO
        have hRB := hR
        clear hO hR
        obtain ⟨wy, rfl⟩ : ∃ wy : World, wy = wr := ⟨_, rfl⟩
        have HA := hide (HOnce.out 2 wy hRB.ds.grew hRB.ds.cur)
        go_wp2_with fail
        refine HA.out.mono ?_
        rintro e w5 ⟨x, rfl, hg5, hC5⟩
        have hR5 := hRB.call hb hg5 hC5
        have hO5 := own_call hOB hg5 (by omega)
        clear hRB hOB hg5 hC5
        cases x
        · have v0 := hR5.res.cell0
          have v1 := hR5.res.cell1
          have z0 := hR5.res.frozen
          have z1 := hR5.res.frozen0
          have y := (hR5.res.set0 (.int .i64 (N : Int))).set1 (.slice B m cr)
          have y0 := y.cell0
          have y1 := y.cell1
          have hbb := hb
          clear hb
          go_wp2
          refine bodyPost_ret (v := .agg #[.int .i64 (N : Int), .slice B m cr]) (by simp [results, Try.results212, go_sem, y0, y1]) rfl ⟨N, m, B, cr, L, rfl, hN4, HM.out, ?_, ?_⟩
          · have hl := fun g (hA : B = some ⟨g, 0, none⟩) => row_low hO5 hA
            exact ((hO5.far (fun g hA => by have := hl g hA; simp; omega) _).far (fun g hA => by have := hl g hA; simp; omega) _).less (by omega)
          · have hd := (hR5.ds.store (p := ⟨w.heap.size, 0, none⟩) (Nat.le_refl _) hbb (.int .i64 (N : Int))).store (p := ⟨w.heap.size, 1, none⟩) (Nat.le_refl _) hbb (.slice B m cr)
            exact ⟨hd.grew, hd.cur⟩
        · have hsz5 := hR5.res.lt
          have hW0 := own_zero w5 (B := w.heap.size + 1) (by omega)
          have hO5a := hO5.alloc (.cells #[] 3)
          have hR5a := hR5.alloc (.cells #[] 3)
          have hdis : ∀ g g', (some ⟨w5.heap.size, 0, none⟩ : Option Addr) = some ⟨g, 0, none⟩ → B = some ⟨g', 0, none⟩ → g ≠ g' := by
            intro g g' h1 h2
            injection h1 with h1; injection h1 with h1 _
            have := own_lt hO5 h2
            omega
          clear hO5 hR5
          go_wp2
          go_loopw [10, 11] (fun l t wr => ∃ (j : Nat) (BW : Option Addr) (cw : Nat) (W : List Int), j ≤ N ∧ t = .int .i64 j ∧ l = .slice BW j cw ∧ Own wr (w.heap.size + 1) BW j cw W ∧ Own wr (w.heap.size + 1) B m cr L ∧ (∀ g g', BW = some ⟨g, 0, none⟩ → B = some ⟨g', 0, none⟩ → g ≠ g') ∧ DR w wr bc A n c (.int .i64 0) (.slice none 0 0)) (fun _ t _ => N - (intOf t).toNat)
          case atStart => exact ⟨0, _, 0, _, Nat.zero_le _, rfl, rfl, hW0, hO5a, hdis, hR5a⟩
          clear hW0 hO5a hR5a hdis
          case round =>
            obtain ⟨j, BW, cw, W, hj, rfl, rfl, hW, hO, hdis, hR⟩ := hrel
            have HD := hide hdis; clear hdis
            by_cases hlt : j < N
            · have HA := hide (HBel.out 4 wr hR.ds.grew hR.ds.cur)
              go_wp2_with fail
              refine HA.out.mono ?_
              rintro e w6 ⟨x, rfl, hx, hg6, hC6⟩
              have hR6 := hR.call hb hg6 hC6
              have hW6 := own_call hW hg6 (by omega)
              have hO6 := own_call hO hg6 (by omega)
              have hsz6 := hR6.res.lt
              clear hx
              go_wp2_with (refine wpl_app (by rfl) _ _ (by rfl) (w.heap.size + 1) BW j cw w6.heap.size W (x : Int) (by rfl) (by rfl) (hW6.alloc _) (cell_new w6 _) (by omega) (by simp; omega) ?_; intro g cap w7 hW7 hgrow7 hat7 hlt7)
              go_roundw
              case rel => exact ⟨j + 1, _, cap, _, by omega, by go_num, rfl, hW7, own_other hW6 hO6 HD.out hgrow7, own_apart hO6 HD.out hat7, hR6.app hW6 (by omega) (by omega) hgrow7⟩
              case measure => simp [intOf]; omega
            · obtain rfl : j = N := by omega
              obtain ⟨gB, rfl, hgB1, hgB2⟩ := hO.form hm0
              go_wp2
              go_loopw [12] (fun t wr => ∃ (s : Nat) (L2 : List Int), s ≤ m ∧ t = .int .i64 s ∧ Own wr (w.heap.size + 1) BW j cw W ∧ Own wr (w.heap.size + 1) (some ⟨gB, 0, none⟩) m cr L2 ∧ DR w wr bc A n c (.int .i64 0) (.slice none 0 0)) (fun t _ => m - (intOf t).toNat)
              case atStart => exact ⟨0, L, Nat.zero_le _, rfl, hW, hO, hR⟩
              clear hW hO hR
              case round =>
                obtain ⟨s, L2, hs, rfl, hW, hO, hR⟩ := hrel
                have HP := hide (show ((p2 j : Nat) : Int) = (m : Int) by rw [HM.out])
                by_cases hlt : s < m
                · have hlt2 : (s : Int) < ((p2 j : Nat) : Int) := by rw [HP.out]; omega
                  have hs10 : s < 1024 := by omega
                  go_wp2
                  clear hlt2
                  go_loopw [13] (fun t wr => ∃ (i : Nat) (L3 : List Int), i ≤ j ∧ t = .int .i64 i ∧ Own wr (w.heap.size + 1) BW j cw W ∧ Own wr (w.heap.size + 1) (some ⟨gB, 0, none⟩) m cr L3 ∧ DR w wr bc A n c (.int .i64 0) (.slice none 0 0)) (fun t _ => j - (intOf t).toNat)
                  case atStart => exact ⟨0, L2, Nat.zero_le _, rfl, hW, hO, hR⟩
                  clear hW hO hR
                  case round =>
                    obtain ⟨i, L3, hi, rfl, hW, hO, hR⟩ := hrel
                    by_cases hij : i < j
                    · cases hq : hasB s i
                      · go_wp2
                        go_roundw
                        case rel => exact ⟨i + 1, L3, by omega, by go_num, hW, hO, hR⟩
                        case measure => simp [intOf]; omega
                      · obtain ⟨gW, rfl, hgW1, hgW2⟩ := hW.form (by omega)
                        have hneq := HD.out gW gB rfl rfl
                        have c1 := hW.cell hij
                        have c2 := hO.cell hlt
                        have f2 := hO.frozen s
                        have i1 : (0 : Int) ≤ (s : Int) := by omega
                        have i2 : (s : Int) < (m : Int) := by omega
                        have i3 : (0 : Int) ≤ (i : Int) := by omega
                        have i4 : (i : Int) < (j : Int) := by omega
                        go_wp2
                        go_region
                        all_goals
                          go_wp2
                          go_roundw
                          case rel => exact ⟨i + 1, _, by omega, by go_num, hW.far (by intro g hA; injection hA with hA; injection hA with hA _; simp; omega) _, hO.set_ s _, (hR.drew).store (by simp; omega) hb _⟩
                          case measure => simp [intOf]; omega
                    · obtain rfl : i = j := by omega
                      go_wp2
                      go_roundw
                      case rel => exact ⟨s + 1, L3, by omega, by go_num, hW, hO, hR⟩
                      case measure => simp [intOf]; omega
                · have hge : ¬ (s : Int) < ((p2 j : Nat) : Int) := by rw [HP.out]; omega
                  have hO6 := hO
                  have hR6 := hR
                  clear hO hR hW
                  have v0 := hR6.res.cell0
                  have v1 := hR6.res.cell1
                  have z0 := hR6.res.frozen
                  have z1 := hR6.res.frozen0
                  have y := (hR6.res.set0 (.int .i64 (j : Int))).set1 (.slice (some ⟨gB, 0, none⟩ : Option Addr) m cr)
                  have y0 := y.cell0
                  have y1 := y.cell1
                  have hbb := hb
                  clear hb
                  go_wp2
                  refine bodyPost_ret (v := .agg #[.int .i64 (j : Int), .slice (some ⟨gB, 0, none⟩ : Option Addr) m cr]) (by simp [results, Try.results212, go_sem, y0, y1]) rfl ⟨j, m, (some ⟨gB, 0, none⟩ : Option Addr), cr, L2, rfl, hN4, HM.out, ?_, ?_⟩
                  · have hl := fun g (hA : (some ⟨gB, 0, none⟩ : Option Addr) = some ⟨g, 0, none⟩) => row_low hO6 hA
                    exact ((hO6.far (fun g hA => by have := hl g hA; simp; omega) _).far (fun g hA => by have := hl g hA; simp; omega) _).less (by omega)
                  · have hd := (hR6.ds.store (p := ⟨w.heap.size, 0, none⟩) (Nat.le_refl _) hbb (.int .i64 (j : Int))).store (p := ⟨w.heap.size, 1, none⟩) (Nat.le_refl _) hbb (.slice (some ⟨gB, 0, none⟩ : Option Addr) m cr)
                    exact ⟨hd.grew, hd.cur⟩
  · have e0 : ((k0 : Int) == 0) = false := by simp; omega
    have e1 : ((k0 : Int) == 1) = false := by simp; omega
    have HA := hide (HCov.out N (by omega) w2 (by have := hR3.ds.cur.lt; omega) hR3.ds.grew hR3.ds.cur)
    clear h0 h1
    go_wp2_with fail
    refine HA.out.mono ?_
    rintro e w4 ⟨m, B, cr, L, rfl, hm, hO4, hg4, hC4⟩
    have hRB := hR3.call hb hg4 hC4
    have hOB := hO4.less (B' := w.heap.size + 1) (by omega)
    have HM := hide hm
    have hm16 : m ≤ 16 := by omega
    have hm0 : 0 < m := by omega
    clear hm hO4 hg4 hC4 hR3 hO3 hsz3 e0 e1 HA
    have HA2 := hide (HOnce.out 2 w4 hRB.ds.grew hRB.ds.cur)
    go_wp2_with fail
    refine HA2.out.mono ?_
    rintro e w5 ⟨x, rfl, hg5, hC5⟩
    have hR5 := hRB.call hb hg5 hC5
    have hO5 := own_call hOB hg5 (by omega)
    clear hRB hOB hg5 hC5
    cases x
    · have v0 := hR5.res.cell0
      have v1 := hR5.res.cell1
      have z0 := hR5.res.frozen
      have z1 := hR5.res.frozen0
      have y := (hR5.res.set0 (.int .i64 (N : Int))).set1 (.slice B m cr)
      have y0 := y.cell0
      have y1 := y.cell1
      have hbb := hb
      clear hb
      go_wp2
      refine bodyPost_ret (v := .agg #[.int .i64 (N : Int), .slice B m cr]) (by simp [results, Try.results212, go_sem, y0, y1]) rfl ⟨N, m, B, cr, L, rfl, hN4, HM.out, ?_, ?_⟩
      · have hl := fun g (hA : B = some ⟨g, 0, none⟩) => row_low hO5 hA
        exact ((hO5.far (fun g hA => by have := hl g hA; simp; omega) _).far (fun g hA => by have := hl g hA; simp; omega) _).less (by omega)
      · have hd := (hR5.ds.store (p := ⟨w.heap.size, 0, none⟩) (Nat.le_refl _) hbb (.int .i64 (N : Int))).store (p := ⟨w.heap.size, 1, none⟩) (Nat.le_refl _) hbb (.slice B m cr)
        exact ⟨hd.grew, hd.cur⟩
    · have hsz5 := hR5.res.lt
      have hW0 := own_zero w5 (B := w.heap.size + 1) (by omega)
      have hO5a := hO5.alloc (.cells #[] 3)
      have hR5a := hR5.alloc (.cells #[] 3)
      have hdis : ∀ g g', (some ⟨w5.heap.size, 0, none⟩ : Option Addr) = some ⟨g, 0, none⟩ → B = some ⟨g', 0, none⟩ → g ≠ g' := by
        intro g g' h1 h2
        injection h1 with h1; injection h1 with h1 _
        have := own_lt hO5 h2
        omega
      clear hO5 hR5
      go_wp2
      go_loopw [10, 11] (fun l t wr => ∃ (j : Nat) (BW : Option Addr) (cw : Nat) (W : List Int), j ≤ N ∧ t = .int .i64 j ∧ l = .slice BW j cw ∧ Own wr (w.heap.size + 1) BW j cw W ∧ Own wr (w.heap.size + 1) B m cr L ∧ (∀ g g', BW = some ⟨g, 0, none⟩ → B = some ⟨g', 0, none⟩ → g ≠ g') ∧ DR w wr bc A n c (.int .i64 0) (.slice none 0 0)) (fun _ t _ => N - (intOf t).toNat)
      case atStart => exact ⟨0, _, 0, _, Nat.zero_le _, rfl, rfl, hW0, hO5a, hdis, hR5a⟩
      clear hW0 hO5a hR5a hdis
      case round =>
        obtain ⟨j, BW, cw, W, hj, rfl, rfl, hW, hO, hdis, hR⟩ := hrel
        have HD := hide hdis; clear hdis
        by_cases hlt : j < N
        · have HA := hide (HBel.out 4 wr hR.ds.grew hR.ds.cur)
          go_wp2_with fail
          refine HA.out.mono ?_
          rintro e w6 ⟨x, rfl, hx, hg6, hC6⟩
          have hR6 := hR.call hb hg6 hC6
          have hW6 := own_call hW hg6 (by omega)
          have hO6 := own_call hO hg6 (by omega)
          have hsz6 := hR6.res.lt
          clear hx
          go_wp2_with (refine wpl_app (by rfl) _ _ (by rfl) (w.heap.size + 1) BW j cw w6.heap.size W (x : Int) (by rfl) (by rfl) (hW6.alloc _) (cell_new w6 _) (by omega) (by simp; omega) ?_; intro g cap w7 hW7 hgrow7 hat7 hlt7)
          go_roundw
          case rel => exact ⟨j + 1, _, cap, _, by omega, by go_num, rfl, hW7, own_other hW6 hO6 HD.out hgrow7, own_apart hO6 HD.out hat7, hR6.app hW6 (by omega) (by omega) hgrow7⟩
          case measure => simp [intOf]; omega
        · obtain rfl : j = N := by omega
          obtain ⟨gB, rfl, hgB1, hgB2⟩ := hO.form hm0
          go_wp2
          go_loopw [12] (fun t wr => ∃ (s : Nat) (L2 : List Int), s ≤ m ∧ t = .int .i64 s ∧ Own wr (w.heap.size + 1) BW j cw W ∧ Own wr (w.heap.size + 1) (some ⟨gB, 0, none⟩) m cr L2 ∧ DR w wr bc A n c (.int .i64 0) (.slice none 0 0)) (fun t _ => m - (intOf t).toNat)
          case atStart => exact ⟨0, L, Nat.zero_le _, rfl, hW, hO, hR⟩
          clear hW hO hR
          case round =>
            obtain ⟨s, L2, hs, rfl, hW, hO, hR⟩ := hrel
            have HP := hide (show ((p2 j : Nat) : Int) = (m : Int) by rw [HM.out])
            by_cases hlt : s < m
            · have hlt2 : (s : Int) < ((p2 j : Nat) : Int) := by rw [HP.out]; omega
              have hs10 : s < 1024 := by omega
              go_wp2
              clear hlt2
              go_loopw [13] (fun t wr => ∃ (i : Nat) (L3 : List Int), i ≤ j ∧ t = .int .i64 i ∧ Own wr (w.heap.size + 1) BW j cw W ∧ Own wr (w.heap.size + 1) (some ⟨gB, 0, none⟩) m cr L3 ∧ DR w wr bc A n c (.int .i64 0) (.slice none 0 0)) (fun t _ => j - (intOf t).toNat)
              case atStart => exact ⟨0, L2, Nat.zero_le _, rfl, hW, hO, hR⟩
              clear hW hO hR
              case round =>
                obtain ⟨i, L3, hi, rfl, hW, hO, hR⟩ := hrel
                by_cases hij : i < j
                · cases hq : hasB s i
                  · go_wp2
                    go_roundw
                    case rel => exact ⟨i + 1, L3, by omega, by go_num, hW, hO, hR⟩
                    case measure => simp [intOf]; omega
                  · obtain ⟨gW, rfl, hgW1, hgW2⟩ := hW.form (by omega)
                    have hneq := HD.out gW gB rfl rfl
                    have c1 := hW.cell hij
                    have c2 := hO.cell hlt
                    have f2 := hO.frozen s
                    have i1 : (0 : Int) ≤ (s : Int) := by omega
                    have i2 : (s : Int) < (m : Int) := by omega
                    have i3 : (0 : Int) ≤ (i : Int) := by omega
                    have i4 : (i : Int) < (j : Int) := by omega
                    go_wp2
                    go_region
                    all_goals
                      go_wp2
                      go_roundw
                      case rel => exact ⟨i + 1, _, by omega, by go_num, hW.far (by intro g hA; injection hA with hA; injection hA with hA _; simp; omega) _, hO.set_ s _, (hR.drew).store (by simp; omega) hb _⟩
                      case measure => simp [intOf]; omega
                · obtain rfl : i = j := by omega
                  go_wp2
                  go_roundw
                  case rel => exact ⟨s + 1, L3, by omega, by go_num, hW, hO, hR⟩
                  case measure => simp [intOf]; omega
            · have hge : ¬ (s : Int) < ((p2 j : Nat) : Int) := by rw [HP.out]; omega
              have hO6 := hO
              have hR6 := hR
              clear hO hR hW
              have v0 := hR6.res.cell0
              have v1 := hR6.res.cell1
              have z0 := hR6.res.frozen
              have z1 := hR6.res.frozen0
              have y := (hR6.res.set0 (.int .i64 (j : Int))).set1 (.slice (some ⟨gB, 0, none⟩ : Option Addr) m cr)
              have y0 := y.cell0
              have y1 := y.cell1
              have hbb := hb
              clear hb
              go_wp2
              refine bodyPost_ret (v := .agg #[.int .i64 (j : Int), .slice (some ⟨gB, 0, none⟩ : Option Addr) m cr]) (by simp [results, Try.results212, go_sem, y0, y1]) rfl ⟨j, m, (some ⟨gB, 0, none⟩ : Option Addr), cr, L2, rfl, hN4, HM.out, ?_, ?_⟩
              · have hl := fun g (hA : (some ⟨gB, 0, none⟩ : Option Addr) = some ⟨g, 0, none⟩) => row_low hO6 hA
                exact ((hO6.far (fun g hA => by have := hl g hA; simp; omega) _).far (fun g hA => by have := hl g hA; simp; omega) _).less (by omega)
              · have hd := (hR6.ds.store (p := ⟨w.heap.size, 0, none⟩) (Nat.le_refl _) hbb (.int .i64 (j : Int))).store (p := ⟨w.heap.size, 1, none⟩) (Nat.le_refl _) hbb (.slice (some ⟨gB, 0, none⟩ : Option Addr) m cr)
                exact ⟨hd.grew, hd.cur⟩
end Go.Proofs.Ytokeejachclpeaa
