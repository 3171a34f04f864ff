/-
  Walks: a function drawn, with bounds on its values: all but the first are from -15 to 15.
-/
import Derived.Test.YtokeejachclpeaaDrawB
namespace Go.Proofs.Ytokeejachclpeaa
open Go.RowKit

/-- All numbers of a list lie between two bounds (0 beyond its end too). -/
def In (L : List Int) (l h : Int) : Prop := ∀ k, l ≤ gv L k ∧ gv L k ≤ h
theorem gv_out {L : List Int} {k : Nat} (h : L.length ≤ k) : gv L k = 0 := by simp [gv, List.getD, List.getElem?_eq_none h]
theorem in_nil' {l h : Int} (hl : l ≤ 0) (hh : 0 ≤ h) : In [] l h := fun k => by rw [gv_out (Nat.zero_le k)]; exact ⟨hl, hh⟩
theorem in_nil (l h : Int) (hl : l ≤ 0 := by omega) (hh : 0 ≤ h := by omega) : Hid (In [] l h) := in_nil' hl hh
theorem gv_snoc (L : List Int) (y : Int) (k : Nat) : gv (L ++ [y]) k = gv L k ∨ gv (L ++ [y]) k = y := by
  by_cases h : k < L.length
  · left
    rw [gv_get (by simp; omega), gv_get h, List.getElem_append_left h]
  · by_cases h2 : k = L.length
    · right
      rw [gv_get (by simp; omega), List.getElem_append_right (by omega)]
      simp [h2]
    · left
      rw [gv_out (by simp; omega), gv_out (by omega)]
theorem in_snoc {L : List Int} {l h y : Int} (hL : In L l h) (h1 : l ≤ y) (h2 : y ≤ h) : In (L ++ [y]) l h := fun k => by
  rcases gv_snoc L y k with e | e <;> rw [e]
  · exact hL k
  · exact ⟨h1, h2⟩
theorem In.wide {L : List Int} {l h l' h' : Int} (hL : In L l h) (h1 : l' ≤ l ∧ h ≤ h') : In L l' h' := fun k => by have := hL k; omega
theorem gv_set3 (L : List Int) (s : Nat) (u : Int) (k : Nat) : gv (L.set s u) k = gv L k ∨ (k = s ∧ gv (L.set s u) k = u) := by
  by_cases h : k < L.length
  · rw [gv_get (by simpa using h), List.getElem_set]
    split
    · rename_i e
      exact .inr ⟨e.symm, rfl⟩
    · left; rw [gv_get h]
  · left; rw [gv_out (by simp; omega), gv_out (by omega)]
/-- While weights are taken off: sets before s are done, i elements of s, none behind. -/
structure MidT (L : List Int) (s i : Nat) : Prop where
  all : In L (-15) 15
  later : ∀ k, s < k → 0 ≤ gv L k
  at_ : -3 * (i : Int) ≤ gv L s
theorem mid_start {L : List Int} (h : In L 0 15) : MidT L 0 0 := ⟨h.wide (by omega), fun k _ => (h k).1, by have := (h 0).1; omega⟩
theorem MidT.next {L : List Int} {s i : Nat} (h : MidT L s i) : MidT L s (i + 1) := ⟨h.all, h.later, by have := h.at_; omega⟩
theorem MidT.over {L : List Int} {s i : Nat} (h : MidT L s i) : MidT L (s + 1) 0 := ⟨h.all, fun k hk => h.later k (by omega), by have := h.later (s + 1) (by omega); omega⟩
theorem MidT.sub {L : List Int} {s i : Nat} {y : Int} (h : MidT L s i) (h0 : 0 ≤ y) (h3 : y ≤ 3) (hi : i ≤ 4) : MidT (L.set s (gv L s - y)) s (i + 1) := by
  have h1 := h.at_
  have h2 := (h.all s).2
  refine ⟨fun k => ?_, fun k hk => ?_, ?_⟩
  · rcases gv_set3 L s (gv L s - y) k with e | ⟨_, e⟩ <;> rw [e]
    · exact h.all k
    · omega
  · rcases gv_set3 L s (gv L s - y) k with e | ⟨he, e⟩
    · rw [e]; exact h.later k hk
    · omega
  · rcases gv_set3 L s (gv L s - y) s with e | ⟨_, e⟩ <;> rw [e] <;> omega
theorem pop_le5 (s : Nat) : popN s ≤ 5 := by unfold popN; omega
/-- All numbers but the first are small. -/
def TameL (L : List Int) : Prop := ∀ k, 0 < k → -15 ≤ gv L k ∧ gv L k ≤ 15
theorem In.tame {L : List Int} (h : In L (-15) 15) : TameL L := fun k _ => h k
theorem TameL.set0 {L : List Int} (h : TameL L) (u : Int) : TameL (L.set 0 u) := fun k hk => by
  rcases gv_set3 L 0 u k with e | ⟨he, _⟩
  · rw [e]; exact h k hk
  · omega
set_option maxHeartbeats 4000000 in
theorem l2CoverT_any (bc : Nat) (A : Option Addr) (n c N : Nat) (w : World) (hN : N ≤ 5) (hb : bc < w.heap.size) (hB : Byts w A n) (hne : Apart A n bc) (hC : Cur w bc A n c) :
    Calls Try.prog 220 #[.pointer (some ⟨bc, 0, none⟩), .int .i64 (N : Int)] w fun e w' => ∃ (B : Option Addr) (cr : Nat) (L : List Int), e = .returned (.slice B (2 ^ N) cr) ∧ Own w' w.heap.size B (2 ^ N) cr L ∧ w.grownBy w' (some bc) ∧ Cur w' bc A n c ∧ In L 0 15 := by
  have hN40 : N ≤ 40 := by omega
  have h32 : p2 N ≤ 32 := Nat.le_trans (Nat.pow_le_pow_right (by decide) hN) (by decide)
  have hp0 := p2_pos N
  have HBel := hide (fun (k : Int) W (h : w.grownBy W (some bc)) (hc : Cur W bc A n c) => l1Below_any bc A n c k W (byts_grown hB h hne) hne hc)
  have hg0 : w.grownBy ((w.alloc (.cells #[] 3)).alloc (.cells #[] 3)) (some bc) := draw_trans (draw_below ((Below.refl _ _).alloc (Nat.le_refl _) _)) (draw_below ((Below.refl _ _).alloc (Nat.le_refl _) _))
  have hC0 : Cur ((w.alloc (.cells #[] 3)).alloc (.cells #[] 3)) bc A n c := by
    obtain ⟨i, h, hi, hc⟩ := hC
    exact ⟨i, h, hi, ((Below.heap_alloc _ _ bc (by simp; omega)).trans (Below.heap_alloc w _ bc hb)).trans hc⟩
  have hO1 := (own_none w).alloc (.cells #[] 3)
  have z1 : (w.alloc (.cells #[] 3)).heap.size = w.heap.size + 1 := by simp
  have hO2 := (own_none (w.alloc (.cells #[] 3))).less (B' := w.heap.size) (by simp)
  rw [z1] at hO2
  clear z1
  go_enter Try.func220, Try.ntmps220
  go_wp2_with fail
  refine (HBel.out 5 _ hg0 hC0).mono ?_
  rintro e w1 ⟨k0, rfl, hk0, hg1, hC1⟩
  have hk5 : k0 < 5 := by omega
  have hgw1 := draw_trans hg0 hg1
  have o1 := dr_row (w := w) hO1 hg1 hb
  have o2 := dr_row (w := w) hO2 hg1 hb
  clear hk0 hg0 hC0 hO1 hO2 hg1
  go_wp2
  go_loopw [5, 6, 7] (fun l m t wr => ∃ (j r : Nat) (B : Option Addr) (cr : Nat) (S : Option Addr) (cs : Nat) (L M : List Int), t = .int .i64 (j : Int) ∧ l = .slice B r cr ∧ m = .slice S r cs ∧ r + j ≤ 5 ∧ Own wr w.heap.size B r cr L ∧ Own wr w.heap.size S r cs M ∧ (∀ g g', B = some ⟨g, 0, none⟩ → S = some ⟨g', 0, none⟩ → g ≠ g') ∧ w.grownBy wr (some bc) ∧ Cur wr bc A n c ∧ Hid (In L 0 3)) (fun _ _ t _ => (intOf t).toNat)
  case atStart => exact ⟨k0, 0, _, 0, _, 0, _, _, rfl, rfl, rfl, by omega, o1, o2, (fun g g' h1 h2 => by injection h1 with h1; injection h1 with h1 _; injection h2 with h2; injection h2 with h2 _; omega), hgw1, hC1, in_nil _ _⟩
  clear o1 o2 hgw1 hC1
  case round =>
    obtain ⟨j, r, B, cr, S, cs, L, M, rfl, rfl, rfl, hrj, hoB, hoS, hd, hgw, hCr, hIn⟩ := hrel
    have Hd := hide hd; clear hd
    by_cases hj : 0 < j
    · have HA := hide (HBel.out 3 wr hgw hCr)
      go_wp2_with fail
      refine HA.out.mono ?_
      rintro e w2 ⟨x, rfl, hx, hg2, hC2⟩
      have hx3 : x < 3 := by omega
      have oB2 := dr_row (w := w) hoB hg2 hb
      have oS2 := dr_row (w := w) hoS hg2 hb
      have hgw2 := draw_trans hgw hg2
      have hsz2 := hgw2.size
      clear hx
      go_wp2_with (refine wpl_app (by rfl) _ _ (by rfl) w.heap.size B r cr w2.heap.size L (1 + (x : Int)) (by rfl) (by rfl) (oB2.alloc _) (cell_new w2 _) (by omega) (by simp; omega) ?_; intro g cap w3 hoB3 hgrow hat hlt3; have hgw3 := dr_app oB2 hgw2 hgrow; have hC3 := dr_cur oB2 hb hC2 hgrow; have oS3 := dr_other oB2 oS2 Hd.out hgrow; have hd3 := hide (dr_dis oS2 Hd.out hat))
      have HA4 := hide (HBel.out ((p2 N : Nat) : Int) w3 hgw3 hC3)
      refine HA4.out.mono ?_
      rintro e w4 ⟨y, rfl, hy, hg4, hC4⟩
      have oB4 := dr_row (w := w) hoB3 hg4 hb
      have oS4 := dr_row (w := w) oS3 hg4 hb
      have hgw4 := draw_trans hgw3 hg4
      have hsz4 := hgw4.size
      clear hy
      go_wp2_with (refine wpl_app (by rfl) _ _ (by rfl) w.heap.size S r cs w4.heap.size M (y : Int) (by rfl) (by rfl) (oS4.alloc _) (cell_new w4 _) (by omega) (by simp; omega) ?_; intro g2 cap2 w5 hoS5 hgrow5 hat5 hlt5; have hgw5 := dr_app oS4 hgw4 hgrow5; have hC5 := dr_cur oS4 hb hC4 hgrow5; have oB5 := dr_other oS4 oB4 (fun a b h1 h2 => (hd3.out b a h2 h1).symm) hgrow5; have hd5 := hide (dr_dis oB4 (fun a b h1 h2 => (hd3.out b a h2 h1).symm) hat5))
      go_roundw
      case rel => exact ⟨j - 1, r + 1, _, cap, _, cap2, _, _, by go_num, rfl, rfl, by omega, oB5, hoS5, (fun a b h1 h2 => (hd5.out b a h2 h1).symm), hgw5, hC5, hide (in_snoc hIn.out (by omega) (by omega))⟩
      case measure => simp [intOf]; omega
    · obtain rfl : j = 0 := by omega
      obtain ⟨wq, rfl⟩ : ∃ wq : World, wq = wr := ⟨_, rfl⟩
      have hO3 := own_none wq
      have hB3 := (Below.refl wq.heap.size wq).alloc (Nat.le_refl _) (.cells #[] 3)
      have hIB := hoB.ints
      have hIS := hoS.ints
      go_wp2
      go_loopw [8, 9] (fun l t w2 => ∃ (s : Nat) (B3 : Option Addr) (cr3 : Nat) (V : List Int), s ≤ p2 N ∧ t = .int .i64 s ∧ l = .slice B3 s cr3 ∧ Own w2 wq.heap.size B3 s cr3 V ∧ Below wq.heap.size wq w2 ∧ Hid (In V 0 15)) (fun _ t _ => p2 N - (intOf t).toNat)
      case atStart => exact ⟨0, _, 0, _, Nat.zero_le _, rfl, rfl, hO3, hB3, in_nil _ _⟩
      clear hO3 hB3
      case round =>
        obtain ⟨s, B3, cr3, V, hs, rfl, rfl, hoV, hbl, hVn⟩ := hrel
        by_cases hlt : s < p2 N
        · have hIB2 := hIB.below hbl (Nat.le_refl _)
          have hIS2 := hIS.below hbl (Nat.le_refl _)
          have hblsz := hbl.size
          go_wp2
          go_loop [10, 11] (fun a t => ∃ (h : Int) (i : Nat), i ≤ r ∧ t = .int .i64 i ∧ a = .int .i64 h ∧ 0 ≤ h ∧ h ≤ 3 * (i : Int)) (fun _ t => r - (intOf t).toNat)
          case atStart => exact ⟨0, 0, Nat.zero_le _, rfl, rfl, by omega, by omega⟩
          case round =>
            obtain ⟨h, i, hi, rfl, rfl, h0, h3⟩ := hrel
            have hr5 : r ≤ 5 := by omega
            obtain ⟨b0, b3⟩ := hIn.out i
            by_cases hir : i < r
            · obtain ⟨bS, offS, rfl, hbS, hcS⟩ := hIS2.at_ hir
              obtain ⟨bB, offB, rfl, hbB, hcB⟩ := hIB2.at_ hir
              cases hq : (bits .and .i64 (gv M i) (s : Int) != 0)
              · go_wp2
                go_round
                case rel => exact ⟨h, i + 1, by omega, by go_num, rfl, by omega, by omega⟩
                case measure => simp [intOf]; omega
              · go_wp2
                go_round
                case rel => exact ⟨_, i + 1, by omega, by go_num, rfl, by omega, by omega⟩
                case measure => simp [intOf]; omega
            · obtain rfl : i = r := by omega
              go_wp2_with (refine wpl_app (by rfl) _ _ (by rfl) wq.heap.size B3 s cr3 _ V h (by rfl) (by rfl) (hoV.alloc _) (cell_new _ _) (by omega) (by simp; omega) ?_; intro g cap w6 hoV6 hgrow6 hat6 hlt6)
              go_roundw
              case rel => exact ⟨s + 1, by omega, by omega, _, _, ⟨rfl, rfl, rfl⟩, ⟨_, hoV6, app_below hbl hblsz hoV hgrow6 (Below.refl _ _), hide (in_snoc hVn.out (by omega) (by omega))⟩⟩
              case measure => simp [intOf]; omega
        · obtain rfl : s = p2 N := by omega
          go_wp2
          go_ret
          refine ⟨B3, cr3, V, rfl, hoV.less hgw.size, draw_trans hgw (draw_below hbl), ?_, hVn.out⟩
          obtain ⟨i, h, hi, hc⟩ := hCr
          exact ⟨i, h, hi, (hbl.block bc (Array.getElem?_eq_some_iff.1 hc).1).trans hc⟩
theorem l2CoverT_m (bc : Nat) (A : Option Addr) (n c N : Nat) (w : World) (hN : N ≤ 5) (hb : bc < w.heap.size) (hB : Byts w A n) (hne : Apart A n bc) (hC : Cur w bc A n c) :
    Calls Try.prog 220 #[.pointer (some ⟨bc, 0, none⟩), .int .i64 (N : Int)] w fun e w' => ∃ (m : Nat) (B : Option Addr) (cr : Nat) (L : List Int), e = .returned (.slice B m cr) ∧ m = p2 N ∧ Own w' w.heap.size B m cr L ∧ w.grownBy w' (some bc) ∧ Cur w' bc A n c ∧ In L 0 15 :=
  (l2CoverT_any bc A n c N w hN hb hB hne hC).mono fun _ _ ⟨B, cr, L, h1, h2, h3, h4, h5⟩ => ⟨2 ^ N, B, cr, L, h1, rfl, h2, h3, h4, h5⟩
/-- A function that was drawn: at most four elements, a value for each set, in new memory. -/
def FnDrawnT (w w' : World) (bc : Nat) (A : Option Addr) (n c : Nat) (e : Ending) : Prop :=
  ∃ (N m : Nat) (B : Option Addr) (cr : Nat) (L : List Int), e = .returned (.agg #[.int .i64 (N : Int), .slice B m cr]) ∧ N ≤ 4 ∧ m = 2 ^ N ∧ Own w' w.heap.size B m cr L ∧ w.grownBy w' (some bc) ∧ Cur w' bc A n c ∧ In L (-15) 15
set_option maxHeartbeats 8000000 in
theorem l2DrawT_any (bc : Nat) (A : Option Addr) (n c : Nat) (w : World) (hb : bc < w.heap.size) (hB : Byts w A n) (hne : Apart A n bc) (hC : Cur w bc A n c) :
    Calls Try.prog 212 #[.pointer (some ⟨bc, 0, none⟩), .int .i64 4] w fun e w' => FnDrawnT w w' bc A n c e := by
  have HBel := hide (fun (k : Int) W (h : w.grownBy W (some bc)) (hc : Cur W bc A n c) => l1Below_any bc A n c k W (byts_grown hB h hne) hne hc)
  have HOnce := hide (fun (k : Int) W (h : w.grownBy W (some bc)) (hc : Cur W bc A n c) => l1Once_any bc A n c k W (byts_grown hB h hne) hne hc)
  have HCov := hide (fun (N : Nat) (hN : N ≤ 5) W (hb : bc < W.heap.size) (h : w.grownBy W (some bc)) (hc : Cur W bc A n c) => l2CoverT_m bc A n c N W hN hb (byts_grown hB h hne) hne hc)
  have hR0 := DR.start hC (.int .i64 0) (.slice none 0 0)
  clear hB hne hC
  go_enter Try.func212, Try.ntmps212
  go_wp2_with fail
  refine (HBel.out 5 _ hR0.ds.grew hR0.ds.cur).mono ?_
  rintro e w1 ⟨N, rfl, hN, hg1, hC1⟩
  have hR1 := hR0.call hb hg1 hC1
  have hN4 : N ≤ 4 := by omega
  have hN40 : N ≤ 40 := by omega
  have h16 : p2 N ≤ 16 := Nat.le_trans (Nat.pow_le_pow_right (by decide) hN4) (by decide)
  have hp0 := p2_pos N
  have hsz1 := hR1.res.lt
  clear hN hg1 hC1 hR0
  have hO1 := own_zero w1 (B := w.heap.size + 1) (by omega)
  have hR2 := hR1.alloc (.cells #[] 3)
  clear hR1
  go_wp2_with fail
  refine (HBel.out 5 _ hR2.ds.grew hR2.ds.cur).mono ?_
  rintro e w2 ⟨k0, rfl, hk0, hg2, hC2⟩
  have hR3 := hR2.call hb hg2 hC2
  have hO3 := own_call hO1 hg2 (by omega)
  have hsz3 := hR3.res.lt
  have hk05 : k0 < 5 := by omega
  clear hR2 hO1 hg2 hC2 hk0 hsz1
  by_cases h0 : k0 = 0
  · subst h0
    go_wp2
    go_loopw [6, 7] (fun l t wr => ∃ (s : Nat) (B : Option Addr) (cr : Nat) (L : List Int), s ≤ p2 N ∧ t = .int .i64 s ∧ l = .slice B s cr ∧ Own wr (w.heap.size + 1) B s cr L ∧ DR w wr bc A n c (.int .i64 0) (.slice none 0 0) ∧ Hid (In L (-15) 15)) (fun _ t _ => p2 N - (intOf t).toNat)
    case atStart => exact ⟨0, _, 0, _, Nat.zero_le _, rfl, rfl, hO3, hR3, in_nil _ _⟩
    clear hO3 hR3 hsz3
    case round =>
      obtain ⟨s, B, cr, L, hs, rfl, rfl, hO, hR, hIn⟩ := hrel
      by_cases hlt : s < p2 N
      · have HA := hide (HBel.out 6 wr hR.ds.grew hR.ds.cur)
        go_wp2_with fail
        refine HA.out.mono ?_
        rintro e w4 ⟨x, rfl, hx, hg4, hC4⟩
        have hx6 : x < 6 := by omega
        have hR4 := hR.call hb hg4 hC4
        have hO4 := own_call hO hg4 (by omega)
        have hsz4 := hR4.res.lt
        clear hx
        go_wp2_with (refine wpl_app (by rfl) _ _ (by rfl) (w.heap.size + 1) B s cr w4.heap.size L ((x : Int) - 1) (by rfl) (by rfl) (hO4.alloc _) (cell_new w4 _) (by omega) (by simp; omega) ?_; intro g cap w5 hO5 hgrow5 hat5 hlt5)
        go_roundw
        case rel => exact ⟨s + 1, _, cap, _, by omega, by go_num, rfl, hO5, hR4.app hO4 (by omega) (by omega) hgrow5, hide (in_snoc hIn.out (by omega) (by omega))⟩
        case measure => simp [intOf]; omega
      · obtain rfl : s = p2 N := by omega
        have v0 := hR.res.cell0
        have v1 := hR.res.cell1
        have z0 := hR.res.frozen
        have z1 := hR.res.frozen0
        have y := (hR.res.set0 (.int .i64 (N : Int))).set1 (.slice B (p2 N) cr)
        have y0 := y.cell0
        have y1 := y.cell1
        have hbb := hb
        clear hb
        go_wp2
        refine bodyPost_ret (v := .agg #[.int .i64 (N : Int), .slice B (p2 N) cr]) (by simp [results, Try.results212, go_sem, y0, y1]) rfl ⟨N, p2 N, B, cr, L, rfl, hN4, rfl, ?_, ?_⟩
        · have hl := fun g (hA : B = some ⟨g, 0, none⟩) => row_low hO hA
          exact ((hO.far (fun g hA => by have := hl g hA; simp; omega) _).far (fun g hA => by have := hl g hA; simp; omega) _).less (by omega)
        · have hd := (hR.ds.store (p := ⟨w.heap.size, 0, none⟩) (Nat.le_refl _) hbb (.int .i64 (N : Int))).store (p := ⟨w.heap.size, 1, none⟩) (Nat.le_refl _) hbb (.slice B (p2 N) cr)
          exact ⟨hd.grew, hd.cur, hIn.out⟩
  by_cases h1 : k0 = 1
  · subst h1
    have HA := hide (HBel.out ((N : Int) + 1) w2 hR3.ds.grew hR3.ds.cur)
    go_wp2_with fail
    refine HA.out.mono ?_
    rintro e w4 ⟨top, rfl, htop, hg4, hC4⟩
    have htop5 : top ≤ 4 := by omega
    have hR4 := hR3.call hb hg4 hC4
    have hO4 := own_call hO3 hg4 (by omega)
    clear htop hg4 hC4 hR3 hO3 hsz3
    go_wp2
    go_loopw [6, 9] (fun l t wr => ∃ (s : Nat) (B : Option Addr) (cr : Nat) (L : List Int), s ≤ p2 N ∧ t = .int .i64 s ∧ l = .slice B s cr ∧ Own wr (w.heap.size + 1) B s cr L ∧ DR w wr bc A n c (.int .i64 0) (.slice none 0 0) ∧ Hid (In L 0 15)) (fun _ t _ => p2 N - (intOf t).toNat)
    case atStart => exact ⟨0, _, 0, _, Nat.zero_le _, rfl, rfl, hO4, hR4, in_nil _ _⟩
    clear hO4 hR4
    case round =>
      obtain ⟨s, B, cr, L, hs, rfl, rfl, hO, hR, hIn⟩ := hrel
      have hsz4 := hR.res.lt
      by_cases hlt : s < p2 N
      · go_wp2_with fail
        have hpop := pop_le5 s
        refine (l2Size_any s wr (by omega)).mono ?_
        rintro e w4 ⟨rfl, rfl⟩
        go_wp2_with (refine wpl_app (by rfl) _ _ (by rfl) (w.heap.size + 1) B s cr wr.heap.size L _ (by rfl) (by rfl) (hO.alloc _) (cell_new wr _) (by omega) (by simp; omega) ?_; intro g cap w5 hO5 hgrow5 hat5 hlt5)
        all_goals
          go_roundw
          case rel => exact ⟨s + 1, _, cap, _, by omega, by go_num, rfl, hO5, hR.app hO (by omega) (by omega) hgrow5, hide (in_snoc hIn.out (by omega) (by omega))⟩
          case measure => simp [intOf]; omega
      · obtain ⟨m, rfl⟩ : ∃ m : Nat, m = s := ⟨_, rfl⟩
        have hm : m = p2 N := by omega
        have HM := hide hm
        have hm16 : m ≤ 16 := by omega
        have hm0 : 0 < m := by omega
        have hge : ¬ (m : Int) < ((p2 N : Nat) : Int) := by omega
        clear hm hs hlt
        have hOB := hO
        have hRB := hR
        clear hO hR
        obtain ⟨wy, rfl⟩ : ∃ wy : World, wy = wr := ⟨_, rfl⟩
        have HA := hide (HOnce.out 2 wy hRB.ds.grew hRB.ds.cur)
        go_wp2_with fail
        refine HA.out.mono ?_
        rintro e w5 ⟨x, rfl, hg5, hC5⟩
        have hR5 := hRB.call hb hg5 hC5
        have hO5 := own_call hOB hg5 (by omega)
        clear hRB hOB hg5 hC5
        cases x
        · have v0 := hR5.res.cell0
          have v1 := hR5.res.cell1
          have z0 := hR5.res.frozen
          have z1 := hR5.res.frozen0
          have y := (hR5.res.set0 (.int .i64 (N : Int))).set1 (.slice B m cr)
          have y0 := y.cell0
          have y1 := y.cell1
          have hbb := hb
          clear hb
          go_wp2
          refine bodyPost_ret (v := .agg #[.int .i64 (N : Int), .slice B m cr]) (by simp [results, Try.results212, go_sem, y0, y1]) rfl ⟨N, m, B, cr, L, rfl, hN4, HM.out, ?_, ?_⟩
          · have hl := fun g (hA : B = some ⟨g, 0, none⟩) => row_low hO5 hA
            exact ((hO5.far (fun g hA => by have := hl g hA; simp; omega) _).far (fun g hA => by have := hl g hA; simp; omega) _).less (by omega)
          · have hd := (hR5.ds.store (p := ⟨w.heap.size, 0, none⟩) (Nat.le_refl _) hbb (.int .i64 (N : Int))).store (p := ⟨w.heap.size, 1, none⟩) (Nat.le_refl _) hbb (.slice B m cr)
            exact ⟨hd.grew, hd.cur, hIn.out.wide (by omega)⟩
        · have hsz5 := hR5.res.lt
          have hW0 := own_zero w5 (B := w.heap.size + 1) (by omega)
          have hO5a := hO5.alloc (.cells #[] 3)
          have hR5a := hR5.alloc (.cells #[] 3)
          have hdis : ∀ g g', (some ⟨w5.heap.size, 0, none⟩ : Option Addr) = some ⟨g, 0, none⟩ → B = some ⟨g', 0, none⟩ → g ≠ g' := by
            intro g g' h1 h2
            injection h1 with h1; injection h1 with h1 _
            have := own_lt hO5 h2
            omega
          clear hO5 hR5
          go_wp2
          go_loopw [10, 11] (fun l t wr => ∃ (j : Nat) (BW : Option Addr) (cw : Nat) (W : List Int), j ≤ N ∧ t = .int .i64 j ∧ l = .slice BW j cw ∧ Own wr (w.heap.size + 1) BW j cw W ∧ Own wr (w.heap.size + 1) B m cr L ∧ (∀ g g', BW = some ⟨g, 0, none⟩ → B = some ⟨g', 0, none⟩ → g ≠ g') ∧ DR w wr bc A n c (.int .i64 0) (.slice none 0 0) ∧ Hid (In W 0 3)) (fun _ t _ => N - (intOf t).toNat)
          case atStart => exact ⟨0, _, 0, _, Nat.zero_le _, rfl, rfl, hW0, hO5a, hdis, hR5a, in_nil _ _⟩
          clear hW0 hO5a hR5a hdis
          case round =>
            obtain ⟨j, BW, cw, W, hj, rfl, rfl, hW, hO, hdis, hR, hWn⟩ := hrel
            have HD := hide hdis; clear hdis
            by_cases hlt : j < N
            · have HA := hide (HBel.out 4 wr hR.ds.grew hR.ds.cur)
              go_wp2_with fail
              refine HA.out.mono ?_
              rintro e w6 ⟨x, rfl, hx, hg6, hC6⟩
              have hR6 := hR.call hb hg6 hC6
              have hW6 := own_call hW hg6 (by omega)
              have hO6 := own_call hO hg6 (by omega)
              have hx4 : x < 4 := by omega
              have hsz6 := hR6.res.lt
              clear hx
              go_wp2_with (refine wpl_app (by rfl) _ _ (by rfl) (w.heap.size + 1) BW j cw w6.heap.size W (x : Int) (by rfl) (by rfl) (hW6.alloc _) (cell_new w6 _) (by omega) (by simp; omega) ?_; intro g cap w7 hW7 hgrow7 hat7 hlt7)
              go_roundw
              case rel => exact ⟨j + 1, _, cap, _, by omega, by go_num, rfl, hW7, own_other hW6 hO6 HD.out hgrow7, own_apart hO6 HD.out hat7, hR6.app hW6 (by omega) (by omega) hgrow7, hide (in_snoc hWn.out (by omega) (by omega))⟩
              case measure => simp [intOf]; omega
            · obtain rfl : j = N := by omega
              obtain ⟨gB, rfl, hgB1, hgB2⟩ := hO.form hm0
              go_wp2
              go_loopw [12] (fun t wr => ∃ (s : Nat) (L2 : List Int), s ≤ m ∧ t = .int .i64 s ∧ Own wr (w.heap.size + 1) BW j cw W ∧ Own wr (w.heap.size + 1) (some ⟨gB, 0, none⟩) m cr L2 ∧ DR w wr bc A n c (.int .i64 0) (.slice none 0 0) ∧ Hid (MidT L2 s 0)) (fun t _ => m - (intOf t).toNat)
              case atStart => exact ⟨0, L, Nat.zero_le _, rfl, hW, hO, hR, hide (mid_start hIn.out)⟩
              clear hW hO hR
              case round =>
                obtain ⟨s, L2, hs, rfl, hW, hO, hR, hMid⟩ := hrel
                have HP := hide (show ((p2 j : Nat) : Int) = (m : Int) by rw [HM.out])
                by_cases hlt : s < m
                · have hlt2 : (s : Int) < ((p2 j : Nat) : Int) := by rw [HP.out]; omega
                  have hs10 : s < 1024 := by omega
                  go_wp2
                  clear hlt2
                  go_loopw [13] (fun t wr => ∃ (i : Nat) (L3 : List Int), i ≤ j ∧ t = .int .i64 i ∧ Own wr (w.heap.size + 1) BW j cw W ∧ Own wr (w.heap.size + 1) (some ⟨gB, 0, none⟩) m cr L3 ∧ DR w wr bc A n c (.int .i64 0) (.slice none 0 0) ∧ Hid (MidT L3 s i)) (fun t _ => j - (intOf t).toNat)
                  case atStart => exact ⟨0, L2, Nat.zero_le _, rfl, hW, hO, hR, hMid⟩
                  clear hW hO hR
                  case round =>
                    obtain ⟨i, L3, hi, rfl, hW, hO, hR, hM3⟩ := hrel
                    by_cases hij : i < j
                    · cases hq : hasB s i
                      · go_wp2
                        go_roundw
                        case rel => exact ⟨i + 1, L3, by omega, by go_num, hW, hO, hR, hide hM3.out.next⟩
                        case measure => simp [intOf]; omega
                      · obtain ⟨gW, rfl, hgW1, hgW2⟩ := hW.form (by omega)
                        have hneq := HD.out gW gB rfl rfl
                        have c1 := hW.cell hij
                        have c2 := hO.cell hlt
                        have f2 := hO.frozen s
                        have i1 : (0 : Int) ≤ (s : Int) := by omega
                        have i2 : (s : Int) < (m : Int) := by omega
                        have i3 : (0 : Int) ≤ (i : Int) := by omega
                        have i4 : (i : Int) < (j : Int) := by omega
                        have w0 := hWn.out i
                        have v0 := hM3.out.all s
                        have t9 : IntKind.i64.wrap (gv L3 s - gv W i) = gv L3 s - gv W i := IntWalk.i64_in _ (by omega)
                        have hstep := hide (hM3.out.sub w0.1 w0.2 (by omega))
                        go_wp2
                        go_region
                        all_goals
                          go_wp2
                          go_roundw
                          case rel => exact ⟨i + 1, _, by omega, by go_num, hW.far (by intro g hA; injection hA with hA; injection hA with hA _; simp; omega) _, hO.set_ s _, (hR.drew).store (by simp; omega) hb _, hstep⟩
                          case measure => simp [intOf]; omega
                    · obtain rfl : i = j := by omega
                      go_wp2
                      go_roundw
                      case rel => exact ⟨s + 1, L3, by omega, by go_num, hW, hO, hR, hide hM3.out.over⟩
                      case measure => simp [intOf]; omega
                · have hge : ¬ (s : Int) < ((p2 j : Nat) : Int) := by rw [HP.out]; omega
                  have hO6 := hO
                  have hR6 := hR
                  clear hO hR hW
                  have v0 := hR6.res.cell0
                  have v1 := hR6.res.cell1
                  have z0 := hR6.res.frozen
                  have z1 := hR6.res.frozen0
                  have y := (hR6.res.set0 (.int .i64 (j : Int))).set1 (.slice (some ⟨gB, 0, none⟩ : Option Addr) m cr)
                  have y0 := y.cell0
                  have y1 := y.cell1
                  have hbb := hb
                  clear hb
                  go_wp2
                  refine bodyPost_ret (v := .agg #[.int .i64 (j : Int), .slice (some ⟨gB, 0, none⟩ : Option Addr) m cr]) (by simp [results, Try.results212, go_sem, y0, y1]) rfl ⟨j, m, (some ⟨gB, 0, none⟩ : Option Addr), cr, L2, rfl, hN4, HM.out, ?_, ?_⟩
                  · have hl := fun g (hA : (some ⟨gB, 0, none⟩ : Option Addr) = some ⟨g, 0, none⟩) => row_low hO6 hA
                    exact ((hO6.far (fun g hA => by have := hl g hA; simp; omega) _).far (fun g hA => by have := hl g hA; simp; omega) _).less (by omega)
                  · have hd := (hR6.ds.store (p := ⟨w.heap.size, 0, none⟩) (Nat.le_refl _) hbb (.int .i64 (j : Int))).store (p := ⟨w.heap.size, 1, none⟩) (Nat.le_refl _) hbb (.slice (some ⟨gB, 0, none⟩ : Option Addr) m cr)
                    exact ⟨hd.grew, hd.cur, hMid.out.all⟩
  · have e0 : ((k0 : Int) == 0) = false := by simp; omega
    have e1 : ((k0 : Int) == 1) = false := by simp; omega
    have HA := hide (HCov.out N (by omega) w2 (by have := hR3.ds.cur.lt; omega) hR3.ds.grew hR3.ds.cur)
    clear h0 h1
    go_wp2_with fail
    refine HA.out.mono ?_
    rintro e w4 ⟨m, B, cr, L, rfl, hm, hO4, hg4, hC4, hIn0⟩
    have hIn := hide hIn0; clear hIn0
    have hRB := hR3.call hb hg4 hC4
    have hOB := hO4.less (B' := w.heap.size + 1) (by omega)
    have HM := hide hm
    have hm16 : m ≤ 16 := by omega
    have hm0 : 0 < m := by omega
    clear hm hO4 hg4 hC4 hR3 hO3 hsz3 e0 e1 HA
    have HA2 := hide (HOnce.out 2 w4 hRB.ds.grew hRB.ds.cur)
    go_wp2_with fail
    refine HA2.out.mono ?_
    rintro e w5 ⟨x, rfl, hg5, hC5⟩
    have hR5 := hRB.call hb hg5 hC5
    have hO5 := own_call hOB hg5 (by omega)
    clear hRB hOB hg5 hC5
    cases x
    · have v0 := hR5.res.cell0
      have v1 := hR5.res.cell1
      have z0 := hR5.res.frozen
      have z1 := hR5.res.frozen0
      have y := (hR5.res.set0 (.int .i64 (N : Int))).set1 (.slice B m cr)
      have y0 := y.cell0
      have y1 := y.cell1
      have hbb := hb
      clear hb
      go_wp2
      refine bodyPost_ret (v := .agg #[.int .i64 (N : Int), .slice B m cr]) (by simp [results, Try.results212, go_sem, y0, y1]) rfl ⟨N, m, B, cr, L, rfl, hN4, HM.out, ?_, ?_⟩
      · have hl := fun g (hA : B = some ⟨g, 0, none⟩) => row_low hO5 hA
        exact ((hO5.far (fun g hA => by have := hl g hA; simp; omega) _).far (fun g hA => by have := hl g hA; simp; omega) _).less (by omega)
      · have hd := (hR5.ds.store (p := ⟨w.heap.size, 0, none⟩) (Nat.le_refl _) hbb (.int .i64 (N : Int))).store (p := ⟨w.heap.size, 1, none⟩) (Nat.le_refl _) hbb (.slice B m cr)
        exact ⟨hd.grew, hd.cur, hIn.out.wide (by omega)⟩
    · have hsz5 := hR5.res.lt
      have hW0 := own_zero w5 (B := w.heap.size + 1) (by omega)
      have hO5a := hO5.alloc (.cells #[] 3)
      have hR5a := hR5.alloc (.cells #[] 3)
      have hdis : ∀ g g', (some ⟨w5.heap.size, 0, none⟩ : Option Addr) = some ⟨g, 0, none⟩ → B = some ⟨g', 0, none⟩ → g ≠ g' := by
        intro g g' h1 h2
        injection h1 with h1; injection h1 with h1 _
        have := own_lt hO5 h2
        omega
      clear hO5 hR5
      go_wp2
      go_loopw [10, 11] (fun l t wr => ∃ (j : Nat) (BW : Option Addr) (cw : Nat) (W : List Int), j ≤ N ∧ t = .int .i64 j ∧ l = .slice BW j cw ∧ Own wr (w.heap.size + 1) BW j cw W ∧ Own wr (w.heap.size + 1) B m cr L ∧ (∀ g g', BW = some ⟨g, 0, none⟩ → B = some ⟨g', 0, none⟩ → g ≠ g') ∧ DR w wr bc A n c (.int .i64 0) (.slice none 0 0) ∧ Hid (In W 0 3)) (fun _ t _ => N - (intOf t).toNat)
      case atStart => exact ⟨0, _, 0, _, Nat.zero_le _, rfl, rfl, hW0, hO5a, hdis, hR5a, in_nil _ _⟩
      clear hW0 hO5a hR5a hdis
      case round =>
        obtain ⟨j, BW, cw, W, hj, rfl, rfl, hW, hO, hdis, hR, hWn⟩ := hrel
        have HD := hide hdis; clear hdis
        by_cases hlt : j < N
        · have HA := hide (HBel.out 4 wr hR.ds.grew hR.ds.cur)
          go_wp2_with fail
          refine HA.out.mono ?_
          rintro e w6 ⟨x, rfl, hx, hg6, hC6⟩
          have hR6 := hR.call hb hg6 hC6
          have hW6 := own_call hW hg6 (by omega)
          have hO6 := own_call hO hg6 (by omega)
          have hx4 : x < 4 := by omega
          have hsz6 := hR6.res.lt
          clear hx
          go_wp2_with (refine wpl_app (by rfl) _ _ (by rfl) (w.heap.size + 1) BW j cw w6.heap.size W (x : Int) (by rfl) (by rfl) (hW6.alloc _) (cell_new w6 _) (by omega) (by simp; omega) ?_; intro g cap w7 hW7 hgrow7 hat7 hlt7)
          go_roundw
          case rel => exact ⟨j + 1, _, cap, _, by omega, by go_num, rfl, hW7, own_other hW6 hO6 HD.out hgrow7, own_apart hO6 HD.out hat7, hR6.app hW6 (by omega) (by omega) hgrow7, hide (in_snoc hWn.out (by omega) (by omega))⟩
          case measure => simp [intOf]; omega
        · obtain rfl : j = N := by omega
          obtain ⟨gB, rfl, hgB1, hgB2⟩ := hO.form hm0
          go_wp2
          go_loopw [12] (fun t wr => ∃ (s : Nat) (L2 : List Int), s ≤ m ∧ t = .int .i64 s ∧ Own wr (w.heap.size + 1) BW j cw W ∧ Own wr (w.heap.size + 1) (some ⟨gB, 0, none⟩) m cr L2 ∧ DR w wr bc A n c (.int .i64 0) (.slice none 0 0) ∧ Hid (MidT L2 s 0)) (fun t _ => m - (intOf t).toNat)
          case atStart => exact ⟨0, L, Nat.zero_le _, rfl, hW, hO, hR, hide (mid_start hIn.out)⟩
          clear hW hO hR
          case round =>
            obtain ⟨s, L2, hs, rfl, hW, hO, hR, hMid⟩ := hrel
            have HP := hide (show ((p2 j : Nat) : Int) = (m : Int) by rw [HM.out])
            by_cases hlt : s < m
            · have hlt2 : (s : Int) < ((p2 j : Nat) : Int) := by rw [HP.out]; omega
              have hs10 : s < 1024 := by omega
              go_wp2
              clear hlt2
              go_loopw [13] (fun t wr => ∃ (i : Nat) (L3 : List Int), i ≤ j ∧ t = .int .i64 i ∧ Own wr (w.heap.size + 1) BW j cw W ∧ Own wr (w.heap.size + 1) (some ⟨gB, 0, none⟩) m cr L3 ∧ DR w wr bc A n c (.int .i64 0) (.slice none 0 0) ∧ Hid (MidT L3 s i)) (fun t _ => j - (intOf t).toNat)
              case atStart => exact ⟨0, L2, Nat.zero_le _, rfl, hW, hO, hR, hMid⟩
              clear hW hO hR
              case round =>
                obtain ⟨i, L3, hi, rfl, hW, hO, hR, hM3⟩ := hrel
                by_cases hij : i < j
                · cases hq : hasB s i
                  · go_wp2
                    go_roundw
                    case rel => exact ⟨i + 1, L3, by omega, by go_num, hW, hO, hR, hide hM3.out.next⟩
                    case measure => simp [intOf]; omega
                  · obtain ⟨gW, rfl, hgW1, hgW2⟩ := hW.form (by omega)
                    have hneq := HD.out gW gB rfl rfl
                    have c1 := hW.cell hij
                    have c2 := hO.cell hlt
                    have f2 := hO.frozen s
                    have i1 : (0 : Int) ≤ (s : Int) := by omega
                    have i2 : (s : Int) < (m : Int) := by omega
                    have i3 : (0 : Int) ≤ (i : Int) := by omega
                    have i4 : (i : Int) < (j : Int) := by omega
                    have w0 := hWn.out i
                    have v0 := hM3.out.all s
                    have t9 : IntKind.i64.wrap (gv L3 s - gv W i) = gv L3 s - gv W i := IntWalk.i64_in _ (by omega)
                    have hstep := hide (hM3.out.sub w0.1 w0.2 (by omega))
                    go_wp2
                    go_region
                    all_goals
                      go_wp2
                      go_roundw
                      case rel => exact ⟨i + 1, _, by omega, by go_num, hW.far (by intro g hA; injection hA with hA; injection hA with hA _; simp; omega) _, hO.set_ s _, (hR.drew).store (by simp; omega) hb _, hstep⟩
                      case measure => simp [intOf]; omega
                · obtain rfl : i = j := by omega
                  go_wp2
                  go_roundw
                  case rel => exact ⟨s + 1, L3, by omega, by go_num, hW, hO, hR, hide hM3.out.over⟩
                  case measure => simp [intOf]; omega
            · have hge : ¬ (s : Int) < ((p2 j : Nat) : Int) := by rw [HP.out]; omega
              have hO6 := hO
              have hR6 := hR
              clear hO hR hW
              have v0 := hR6.res.cell0
              have v1 := hR6.res.cell1
              have z0 := hR6.res.frozen
              have z1 := hR6.res.frozen0
              have y := (hR6.res.set0 (.int .i64 (j : Int))).set1 (.slice (some ⟨gB, 0, none⟩ : Option Addr) m cr)
              have y0 := y.cell0
              have y1 := y.cell1
              have hbb := hb
              clear hb
              go_wp2
              refine bodyPost_ret (v := .agg #[.int .i64 (j : Int), .slice (some ⟨gB, 0, none⟩ : Option Addr) m cr]) (by simp [results, Try.results212, go_sem, y0, y1]) rfl ⟨j, m, (some ⟨gB, 0, none⟩ : Option Addr), cr, L2, rfl, hN4, HM.out, ?_, ?_⟩
              · have hl := fun g (hA : (some ⟨gB, 0, none⟩ : Option Addr) = some ⟨g, 0, none⟩) => row_low hO6 hA
                exact ((hO6.far (fun g hA => by have := hl g hA; simp; omega) _).far (fun g hA => by have := hl g hA; simp; omega) _).less (by omega)
              · have hd := (hR6.ds.store (p := ⟨w.heap.size, 0, none⟩) (Nat.le_refl _) hbb (.int .i64 (j : Int))).store (p := ⟨w.heap.size, 1, none⟩) (Nat.le_refl _) hbb (.slice (some ⟨gB, 0, none⟩ : Option Addr) m cr)
                exact ⟨hd.grew, hd.cur, hMid.out.all⟩
/-- Any function that was drawn, in new memory; all values but the first are small. -/
def AnyDrawnT (w w' : World) (bc : Nat) (A : Option Addr) (n c : Nat) (e : Ending) : Prop :=
  ∃ (E : Int) (r : Nat) (B : Option Addr) (cr : Nat) (L : List Int), e = .returned (.agg #[.int .i64 E, .slice B r cr]) ∧ r ≤ 16 ∧ Own w' w.heap.size B r cr L ∧ w.grownBy w' (some bc) ∧ Cur w' bc A n c ∧ TameL L
set_option maxHeartbeats 8000000 in
theorem l2AnyT_any (bc : Nat) (A : Option Addr) (n c : Nat) (w : World) (hb : bc < w.heap.size) (hB : Byts w A n) (hne : Apart A n bc) (hC : Cur w bc A n c) :
    Calls Try.prog 164 #[.pointer (some ⟨bc, 0, none⟩)] w fun e w' => AnyDrawnT w w' bc A n c e := by
  have HBel := hide (fun (k : Int) W (h : w.grownBy W (some bc)) (hc : Cur W bc A n c) => l1Below_any bc A n c k W (byts_grown hB h hne) hne hc)
  have HPick := hide (fun (B : Option Addr) (r cr : Nat) (L : List Int) W (hL : Ints W B r L) (hr : 0 < r) (h : w.grownBy W (some bc)) (h2 : ∀ b off, B = some ⟨b, off, none⟩ → b ≠ bc) (hc : Cur W bc A n c) => l1PickInt_any bc A n c B r cr L W hL hr (byts_grown hB h hne) hne h2 hc)
  have HDraw := hide (fun W (hb : bc < W.heap.size) (h : w.grownBy W (some bc)) (hc : Cur W bc A n c) => l2DrawT_any bc A n c W hb (byts_grown hB h hne) hne hc)
  have hR0 := DR.start hC (.int .i64 0) (.slice none 0 0)
  clear hB hne hC
  go_enter Try.func164, Try.ntmps164
  go_wp2_with fail
  refine (HDraw.out _ (by simp; omega) hR0.ds.grew hR0.ds.cur).mono ?_
  rintro e w1 ⟨N, m, B, cr, L, rfl, hN4, hm, hO1, hg1, hC1, hIn0⟩
  have hIn := hide hIn0; clear hIn0
  have hR1 := hR0.call hb hg1 hC1
  have hm16 : m ≤ 16 := by rw [hm]; exact Nat.le_trans (Nat.pow_le_pow_right (by decide) hN4) (by decide)
  have hm0 : 0 < m := by rw [hm]; exact Nat.two_pow_pos N
  have hO1' : Own w1 (w.heap.size + 1) B m cr L := by simpa using hO1
  have hsz1 := hR1.res.lt
  have hR2 := hR1.alloc (.cells #[.int .i64 (N : Int), .slice B m cr] 26)
  have hT2 : Two (w1.alloc (.cells #[.int .i64 (N : Int), .slice B m cr] 26)) w1.heap.size (.int .i64 (N : Int)) (.slice B m cr) := heap_alloc_new w1 _
  have hO2 := hO1'.alloc (.cells #[.int .i64 (N : Int), .slice B m cr] 26)
  obtain ⟨b3, hb3⟩ : ∃ b3, b3 = w1.heap.size := ⟨_, rfl⟩
  have hwb : w.heap.size < b3 := by omega
  have hBl := hide (fun g (hA : B = some ⟨g, 0, none⟩) => show g < b3 from by have := own_lt hO1' hA; omega)
  rw [← hb3] at hT2
  clear hR0 hg1 hC1 hO1 hO1' hR1 hm hsz1
  go_wp2_with fail
  refine (HBel.out 16 _ hR2.ds.grew hR2.ds.cur).mono ?_
  rintro e w2 ⟨k, rfl, hk, hg2, hC2⟩
  have hR3 := hR2.call hb hg2 hC2
  have hT3 := hT2.same (hg2.block b3 hT2.lt (fun hk => by injection hk with hk; omega))
  have hO3 := own_call hO2 hg2 (by omega)
  have hk16 : k < 16 := by omega
  have hlt3 := hT3.lt
  clear hR2 hT2 hO2 hg2 hC2 hk
  rw [← hb3]
  clear hb3
  by_cases h0 : k = 0
  · subst h0
    have hI := ints_five w2 (-1) 6 5 0 9223372036854775807
    have hR4 := hR3.alloc (.cells #[.int .i64 (-1), .int .i64 6, .int .i64 5, .int .i64 0, .int .i64 9223372036854775807] 3)
    have HP := hide (HPick.out _ 5 5 _ _ hI (by omega) hR4.ds.grew (by intro b off h; injection h with h; injection h with h _; have := hR3.res.lt; omega) hR4.ds.cur)
    have hO4 := hO3.alloc (.cells #[.int .i64 (-1), .int .i64 6, .int .i64 5, .int .i64 0, .int .i64 9223372036854775807] 3)
    have hT4 := hT3.below ((Below.refl w2.heap.size w2).alloc (Nat.le_refl _) (.cells #[.int .i64 (-1), .int .i64 6, .int .i64 5, .int .i64 0, .int .i64 9223372036854775807] 3)) hlt3
    clear hI
    go_wp2_with fail
    refine HP.out.mono ?_
    rintro e w5 ⟨x, hx, rfl, hg5, hC5⟩
    have hR5 := hR4.call hb hg5 hC5
    have hO5 := own_call hO4 hg5 (by omega)
    have hT5' := hT4.same (hg5.block b3 hT4.lt (fun hk => by injection hk with hk; omega))
    obtain ⟨E, hE⟩ : ∃ E, E = gv [-1, 6, 5, 0, 9223372036854775807] x := ⟨_, rfl⟩
    rw [← hE]
    have f0 := hT5'.frozen0
    have u0 := hT5'.cell0
    have hT5 := hT5'.set0 (.int .i64 E)
    have hR6 := hR5.store (p := ⟨b3, 0, none⟩) (by simp; omega) hb (.int .i64 E)
    have hO6 := hO5.far (p := ⟨b3, 0, none⟩) (fun g hA => by have := hBl.out g hA; simp; omega) (.int .i64 E)
    clear hR4 hO4 hT4 hg5 hC5 hR3 hT3 hO3 hE hR5 hO5
    have c0 := hT5.cell0
    have c1 := hT5.cell1
    have v0 := hR6.res.cell0
    have v1 := hR6.res.cell1
    have z0 := hR6.res.frozen
    have z1 := hR6.res.frozen0
    have y := (hR6.res.set0 (.int .i64 (E))).set1 (.slice B m cr)
    have y0 := y.cell0
    have y1 := y.cell1
    have hbb := hb
    clear hb
    go_wp2
    refine bodyPost_ret (v := .agg #[.int .i64 (E), .slice B m cr]) (by simp [results, Try.results164, go_sem, y0, y1]) rfl ⟨E, m, B, cr, L, rfl, hm16, ?_, ?_⟩
    · have hl := fun g (hA : B = some ⟨g, 0, none⟩) => row_low hO6 hA
      exact ((hO6.far (fun g hA => by have := hl g hA; simp; omega) _).far (fun g hA => by have := hl g hA; simp; omega) _).less (by omega)
    · have hd := (hR6.ds.store (p := ⟨w.heap.size, 0, none⟩) (Nat.le_refl _) hbb (.int .i64 (E))).store (p := ⟨w.heap.size, 1, none⟩) (Nat.le_refl _) hbb (.slice B m cr)
      exact ⟨hd.grew, hd.cur, hIn.out.tame⟩
  by_cases h1 : k = 1
  · subst h1
    obtain ⟨g0, rfl, hgB1, hgB2⟩ := hO3.form hm0
    have hI := ints_five w2.drew 1 (-1) 1001 (-9223372036854775808) 1000
    have hR4 := (hR3.drew).alloc (.cells #[.int .i64 1, .int .i64 (-1), .int .i64 1001, .int .i64 (-9223372036854775808), .int .i64 1000] 3)
    have HP := hide (HPick.out _ 5 5 _ _ hI (by omega) hR4.ds.grew (by intro b off h; injection h with h; injection h with h _; have := hR3.res.lt; simp at h; omega) hR4.ds.cur)
    have hO4 := (show Own w2.drew _ _ _ _ _ from hO3).alloc (.cells #[.int .i64 1, .int .i64 (-1), .int .i64 1001, .int .i64 (-9223372036854775808), .int .i64 1000] 3)
    have hT4 := (show Two w2.drew _ _ _ from hT3).below ((Below.refl w2.drew.heap.size w2.drew).alloc (Nat.le_refl _) (.cells #[.int .i64 1, .int .i64 (-1), .int .i64 1001, .int .i64 (-9223372036854775808), .int .i64 1000] 3)) hlt3
    have c1 := hT3.cell1
    have c0 := hO3.cell (k := 0) hm0
    have hgb3 := hBl.out g0 rfl
    have i0 : (0 : Int) < (m : Int) := by omega
    clear hI
    go_wp2
    go_region_held3 (fun w' => w'.cell? ⟨b3, 1, none⟩ = some (.slice (some ⟨g0, 0, none⟩) m cr))
      (first
        | go_keep
        | exact (hT4.same (hg5.block b3 hT4.lt (fun hk => by injection hk with hk; omega))).cell1
        | exact ((hT4.same (hg5.block b3 hT4.lt (fun hk => by injection hk with hk; omega))).far (by simp; omega) _).cell1)
      (first
        | (go_at_call 209; refine HP.out.mono ?_; rintro e w5 ⟨x, hx, rfl, hg5, hC5⟩; have hR5 := hR4.call hb hg5 hC5; have hO5 := own_call hO4 hg5 (by omega); have f5 := hO5.frozen 0; have q5 := hO5.cell hm0))
    have hT5' := hT4.same (hg5.block b3 hT4.lt (fun hk => by injection hk with hk; omega))
    have hT5 := hT5'.far (p := ⟨g0, 0, none⟩) (by simp; omega) (.int .i64 (gv [1, -1, 1001, -9223372036854775808, 1000] x))
    have hR6 := hR5.store (p := ⟨g0, 0, none⟩) (by simp; omega) hb (.int .i64 (gv [1, -1, 1001, -9223372036854775808, 1000] x))
    have hO6 := hO5.set_ 0 (gv [1, -1, 1001, -9223372036854775808, 1000] x)
    clear hR4 hO4 hT4 hg5 hC5 hR3 hT3 hO3 hR5 hO5 c0 c1 f5 q5
    have c0 := hT5.cell0
    have c1 := hT5.cell1
    have v0 := hR6.res.cell0
    have v1 := hR6.res.cell1
    have z0 := hR6.res.frozen
    have z1 := hR6.res.frozen0
    have y := (hR6.res.set0 (.int .i64 (N : Int))).set1 (.slice (some ⟨g0, 0, none⟩) m cr)
    have y0 := y.cell0
    have y1 := y.cell1
    have hbb := hb
    clear hb
    go_wp2
    refine bodyPost_ret (v := .agg #[.int .i64 (N : Int), .slice (some ⟨g0, 0, none⟩) m cr]) (by simp [results, Try.results164, go_sem, y0, y1]) rfl ⟨(N : Int), m, _, cr, L.set 0 (gv [1, -1, 1001, -9223372036854775808, 1000] x), rfl, hm16, ?_, ?_⟩
    · have hl := fun g (hA : (some ⟨g0, 0, none⟩ : Option Addr) = some ⟨g, 0, none⟩) => row_low hO6 hA
      exact ((hO6.far (fun g hA => by have := hl g hA; simp; omega) _).far (fun g hA => by have := hl g hA; simp; omega) _).less (by omega)
    · have hd := (hR6.ds.store (p := ⟨w.heap.size, 0, none⟩) (Nat.le_refl _) hbb (.int .i64 (N : Int))).store (p := ⟨w.heap.size, 1, none⟩) (Nat.le_refl _) hbb (.slice (some ⟨g0, 0, none⟩) m cr)
      exact ⟨hd.grew, hd.cur, hIn.out.tame.set0 _⟩
  have e0 : ((k : Int) == 0) = false := by simp; omega
  have e1 : ((k : Int) == 1) = false := by simp; omega
  have c0 := hT3.cell0
  have c1 := hT3.cell1
  have v0 := hR3.res.cell0
  have v1 := hR3.res.cell1
  have z0 := hR3.res.frozen
  have z1 := hR3.res.frozen0
  have y := (hR3.res.set0 (.int .i64 (N : Int))).set1 (.slice B m cr)
  have y0 := y.cell0
  have y1 := y.cell1
  have hbb := hb
  clear hb h0 h1
  go_wp2
  refine bodyPost_ret (v := .agg #[.int .i64 (N : Int), .slice B m cr]) (by simp [results, Try.results164, go_sem, y0, y1]) rfl ⟨(N : Int), m, B, cr, L, rfl, hm16, ?_, ?_⟩
  · have hl := fun g (hA : B = some ⟨g, 0, none⟩) => row_low hO3 hA
    exact ((hO3.far (fun g hA => by have := hl g hA; simp; omega) _).far (fun g hA => by have := hl g hA; simp; omega) _).less (by omega)
  · have hd := (hR3.ds.store (p := ⟨w.heap.size, 0, none⟩) (Nat.le_refl _) hbb (.int .i64 (N : Int))).store (p := ⟨w.heap.size, 1, none⟩) (Nat.le_refl _) hbb (.slice B m cr)
    exact ⟨hd.grew, hd.cur, hIn.out.tame⟩
end Go.Proofs.Ytokeejachclpeaa
