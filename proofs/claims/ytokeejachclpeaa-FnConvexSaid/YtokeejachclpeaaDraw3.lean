/-
  Walks: a coverage function drawn.
-/
import Derived.Test.YtokeejachclpeaaDraw2
namespace Go.Proofs.Ytokeejachclpeaa
open Go.RowKit

theorem dr_row {w wr : World} {bc r cr : Nat} {B : Option Addr} {L : List Int} {w1 : World} (hown : Own wr w.heap.size B r cr L) (hg : wr.grownBy w1 (some bc)) (hb : bc < w.heap.size) : Own w1 w.heap.size B r cr L :=
  hown.keep fun g hlt hA => hg.block g hlt (fun hk => by
    injection hk with hk
    rcases hown.where_ with h0 | ⟨g', h1, h2, h3⟩
    · rw [h0] at hA; cases hA
    · rw [h1] at hA; injection hA with hA; injection hA with hA _; omega)
theorem dr_app {w wr w1 : World} {o : Obj} {bc r cr : Nat} {B : Option Addr} {L : List Int} (hown : Own wr w.heap.size B r cr L) (hgw : w.grownBy wr (some bc)) (hg : (wr.alloc o).grownBy w1 (B.map (·.block))) : w.grownBy w1 (some bc) := by
  have h0 : w.grownBy (wr.alloc o) (some bc) := draw_trans hgw (draw_below ((Below.refl _ _).alloc (Nat.le_refl _) _))
  refine ⟨hg.os.trans h0.os, hg.tape.trans h0.tape, hg.output.trans h0.output, Nat.le_trans h0.size hg.size, fun i hi hne => ?_⟩
  rw [hg.block i (Nat.lt_of_lt_of_le hi h0.size) (fun hk => ?_)]
  · exact h0.block i hi hne
  · rcases hown.where_ with h1 | ⟨g', h1, h2, h3⟩
    · rw [h1] at hk; cases hk
    · rw [h1] at hk; simp at hk; omega
theorem dr_cur {w wr w1 : World} {o : Obj} {bc r cr n c : Nat} {A B : Option Addr} {L : List Int} (hown : Own wr w.heap.size B r cr L) (hb : bc < w.heap.size) (hC : Cur wr bc A n c) (hg : (wr.alloc o).grownBy w1 (B.map (·.block))) : Cur w1 bc A n c := by
  obtain ⟨i, h, hi, hc⟩ := hC
  have hlt : bc < wr.heap.size := (Array.getElem?_eq_some_iff.1 hc).1
  refine ⟨i, h, hi, ?_⟩
  rw [hg.block bc (by simp; omega) (fun hk => ?_)]
  · exact (Below.heap_alloc wr o bc hlt).trans hc
  · rcases hown.where_ with h1 | ⟨g', h1, h2, h3⟩
    · rw [h1] at hk; cases hk
    · rw [h1] at hk; simp at hk; omega
theorem dr_other {w wr w1 : World} {o : Obj} {r cr r2 cr2 : Nat} {B B2 : Option Addr} {L L2 : List Int} (hown : Own wr w.heap.size B r cr L) (h2 : Own wr w.heap.size B2 r2 cr2 L2) (hd : ∀ g g', B = some ⟨g, 0, none⟩ → B2 = some ⟨g', 0, none⟩ → g ≠ g') (hg : (wr.alloc o).grownBy w1 (B.map (·.block))) : Own w1 w.heap.size B2 r2 cr2 L2 :=
  (h2.alloc o).keep fun g hlt hA => hg.block g hlt (fun hk => by
    rcases hown.where_ with h1 | ⟨g', h1, _, _⟩
    · rw [h1] at hk; cases hk
    · rw [h1] at hk; simp at hk; exact hd g' g h1 hA hk.symm)
theorem dr_dis {w wr : World} {o : Obj} {g r2 cr2 : Nat} {B B2 : Option Addr} {L2 : List Int} (h2 : Own wr w.heap.size B2 r2 cr2 L2) (hd : ∀ g g', B = some ⟨g, 0, none⟩ → B2 = some ⟨g', 0, none⟩ → g ≠ g') (hat : B = some ⟨g, 0, none⟩ ∨ g = (wr.alloc o).heap.size) : ∀ g1 g', (some ⟨g, 0, none⟩ : Option Addr) = some ⟨g1, 0, none⟩ → B2 = some ⟨g', 0, none⟩ → g1 ≠ g' := by
  intro g1 g' h1 h3
  injection h1 with h1; injection h1 with h1 _
  subst h1
  rcases hat with h | h
  · exact hd g g' h h3
  · rcases h2.where_ with h4 | ⟨g2, h4, _, h5⟩
    · rw [h4] at h3; cases h3
    · rw [h4] at h3; injection h3 with h3; injection h3 with h3 _
      simp at h; omega
set_option maxHeartbeats 4000000 in
theorem l2Cover_any (bc : Nat) (A : Option Addr) (n c N : Nat) (w : World) (hN : N ≤ 5) (hb : bc < w.heap.size) (hB : Byts w A n) (hne : Apart A n bc) (hC : Cur w bc A n c) :
    Calls Try.prog 220 #[.pointer (some ⟨bc, 0, none⟩), .int .i64 (N : Int)] w fun e w' => ∃ (B : Option Addr) (cr : Nat) (L : List Int), e = .returned (.slice B (2 ^ N) cr) ∧ Own w' w.heap.size B (2 ^ N) cr L ∧ w.grownBy w' (some bc) ∧ Cur w' bc A n c := by
  have hN40 : N ≤ 40 := by omega
  have h32 : p2 N ≤ 32 := Nat.le_trans (Nat.pow_le_pow_right (by decide) hN) (by decide)
  have hp0 := p2_pos N
  have HBel := hide (fun (k : Int) W (h : w.grownBy W (some bc)) (hc : Cur W bc A n c) => l1Below_any bc A n c k W (byts_grown hB h hne) hne hc)
  have hg0 : w.grownBy ((w.alloc (.cells #[] 3)).alloc (.cells #[] 3)) (some bc) := draw_trans (draw_below ((Below.refl _ _).alloc (Nat.le_refl _) _)) (draw_below ((Below.refl _ _).alloc (Nat.le_refl _) _))
  have hC0 : Cur ((w.alloc (.cells #[] 3)).alloc (.cells #[] 3)) bc A n c := by
    obtain ⟨i, h, hi, hc⟩ := hC
    exact ⟨i, h, hi, ((Below.heap_alloc _ _ bc (by simp; omega)).trans (Below.heap_alloc w _ bc hb)).trans hc⟩
  have hO1 := (own_none w).alloc (.cells #[] 3)
  have z1 : (w.alloc (.cells #[] 3)).heap.size = w.heap.size + 1 := by simp
  have hO2 := (own_none (w.alloc (.cells #[] 3))).less (B' := w.heap.size) (by simp)
  rw [z1] at hO2
  clear z1
  go_enter Try.func220, Try.ntmps220
  go_wp2_with fail
  refine (HBel.out 5 _ hg0 hC0).mono ?_
  rintro e w1 ⟨k0, rfl, hk0, hg1, hC1⟩
  have hk5 : k0 < 5 := by omega
  have hgw1 := draw_trans hg0 hg1
  have o1 := dr_row (w := w) hO1 hg1 hb
  have o2 := dr_row (w := w) hO2 hg1 hb
  clear hk0 hg0 hC0 hO1 hO2 hg1
  go_wp2
  go_loopw [5, 6, 7] (fun l m t wr => ∃ (j r : Nat) (B : Option Addr) (cr : Nat) (S : Option Addr) (cs : Nat) (L M : List Int), t = .int .i64 (j : Int) ∧ l = .slice B r cr ∧ m = .slice S r cs ∧ r + j ≤ 5 ∧ Own wr w.heap.size B r cr L ∧ Own wr w.heap.size S r cs M ∧ (∀ g g', B = some ⟨g, 0, none⟩ → S = some ⟨g', 0, none⟩ → g ≠ g') ∧ w.grownBy wr (some bc) ∧ Cur wr bc A n c) (fun _ _ t _ => (intOf t).toNat)
  case atStart => exact ⟨k0, 0, _, 0, _, 0, _, _, rfl, rfl, rfl, by omega, o1, o2, (fun g g' h1 h2 => by injection h1 with h1; injection h1 with h1 _; injection h2 with h2; injection h2 with h2 _; omega), hgw1, hC1⟩
  clear o1 o2 hgw1 hC1
  case round =>
    obtain ⟨j, r, B, cr, S, cs, L, M, rfl, rfl, rfl, hrj, hoB, hoS, hd, hgw, hCr⟩ := hrel
    have Hd := hide hd; clear hd
    by_cases hj : 0 < j
    · have HA := hide (HBel.out 3 wr hgw hCr)
      go_wp2_with fail
      refine HA.out.mono ?_
      rintro e w2 ⟨x, rfl, hx, hg2, hC2⟩
      have hx3 : x < 3 := by omega
      have oB2 := dr_row (w := w) hoB hg2 hb
      have oS2 := dr_row (w := w) hoS hg2 hb
      have hgw2 := draw_trans hgw hg2
      have hsz2 := hgw2.size
      clear hx
      go_wp2_with (refine wpl_app (by rfl) _ _ (by rfl) w.heap.size B r cr w2.heap.size L (1 + (x : Int)) (by rfl) (by rfl) (oB2.alloc _) (cell_new w2 _) (by omega) (by simp; omega) ?_; intro g cap w3 hoB3 hgrow hat hlt3; have hgw3 := dr_app oB2 hgw2 hgrow; have hC3 := dr_cur oB2 hb hC2 hgrow; have oS3 := dr_other oB2 oS2 Hd.out hgrow; have hd3 := hide (dr_dis oS2 Hd.out hat))
      have HA4 := hide (HBel.out ((p2 N : Nat) : Int) w3 hgw3 hC3)
      refine HA4.out.mono ?_
      rintro e w4 ⟨y, rfl, hy, hg4, hC4⟩
      have oB4 := dr_row (w := w) hoB3 hg4 hb
      have oS4 := dr_row (w := w) oS3 hg4 hb
      have hgw4 := draw_trans hgw3 hg4
      have hsz4 := hgw4.size
      clear hy
      go_wp2_with (refine wpl_app (by rfl) _ _ (by rfl) w.heap.size S r cs w4.heap.size M (y : Int) (by rfl) (by rfl) (oS4.alloc _) (cell_new w4 _) (by omega) (by simp; omega) ?_; intro g2 cap2 w5 hoS5 hgrow5 hat5 hlt5; have hgw5 := dr_app oS4 hgw4 hgrow5; have hC5 := dr_cur oS4 hb hC4 hgrow5; have oB5 := dr_other oS4 oB4 (fun a b h1 h2 => (hd3.out b a h2 h1).symm) hgrow5; have hd5 := hide (dr_dis oB4 (fun a b h1 h2 => (hd3.out b a h2 h1).symm) hat5))
      go_roundw
      case rel => exact ⟨j - 1, r + 1, _, cap, _, cap2, _, _, by go_num, rfl, rfl, by omega, oB5, hoS5, (fun a b h1 h2 => (hd5.out b a h2 h1).symm), hgw5, hC5⟩
      case measure => simp [intOf]; omega
    · obtain rfl : j = 0 := by omega
      obtain ⟨wq, rfl⟩ : ∃ wq : World, wq = wr := ⟨_, rfl⟩
      have hO3 := own_none wq
      have hB3 := (Below.refl wq.heap.size wq).alloc (Nat.le_refl _) (.cells #[] 3)
      have hIB := hoB.ints
      have hIS := hoS.ints
      go_wp2
      go_loopw [8, 9] (fun l t w2 => ∃ (s : Nat) (B3 : Option Addr) (cr3 : Nat) (V : List Int), s ≤ p2 N ∧ t = .int .i64 s ∧ l = .slice B3 s cr3 ∧ Own w2 wq.heap.size B3 s cr3 V ∧ Below wq.heap.size wq w2) (fun _ t _ => p2 N - (intOf t).toNat)
      case atStart => exact ⟨0, _, 0, _, Nat.zero_le _, rfl, rfl, hO3, hB3⟩
      clear hO3 hB3
      case round =>
        obtain ⟨s, B3, cr3, V, hs, rfl, rfl, hoV, hbl⟩ := hrel
        by_cases hlt : s < p2 N
        · have hIB2 := hIB.below hbl (Nat.le_refl _)
          have hIS2 := hIS.below hbl (Nat.le_refl _)
          have hblsz := hbl.size
          go_wp2
          go_loop [10, 11] (fun a t => ∃ (h : Int) (i : Nat), i ≤ r ∧ t = .int .i64 i ∧ a = .int .i64 h) (fun _ t => r - (intOf t).toNat)
          case atStart => exact ⟨0, 0, Nat.zero_le _, rfl, rfl⟩
          case round =>
            obtain ⟨h, i, hi, rfl, rfl⟩ := hrel
            by_cases hir : i < r
            · obtain ⟨bS, offS, rfl, hbS, hcS⟩ := hIS2.at_ hir
              obtain ⟨bB, offB, rfl, hbB, hcB⟩ := hIB2.at_ hir
              cases hq : (bits .and .i64 (gv M i) (s : Int) != 0)
              · go_wp2
                go_round
                case rel => exact ⟨h, i + 1, by omega, by go_num, rfl⟩
                case measure => simp [intOf]; omega
              · go_wp2
                go_round
                case rel => exact ⟨_, i + 1, by omega, by go_num, rfl⟩
                case measure => simp [intOf]; omega
            · obtain rfl : i = r := by omega
              go_wp2_with (refine wpl_app (by rfl) _ _ (by rfl) wq.heap.size B3 s cr3 _ V h (by rfl) (by rfl) (hoV.alloc _) (cell_new _ _) (by omega) (by simp; omega) ?_; intro g cap w6 hoV6 hgrow6 hat6 hlt6)
              go_roundw
              case rel => exact ⟨s + 1, by omega, by omega, _, _, ⟨rfl, rfl, rfl⟩, ⟨_, hoV6⟩, app_below hbl hblsz hoV hgrow6 (Below.refl _ _)⟩
              case measure => simp [intOf]; omega
        · obtain rfl : s = p2 N := by omega
          go_wp2
          go_ret
          refine ⟨B3, cr3, V, rfl, hoV.less hgw.size, draw_trans hgw (draw_below hbl), ?_⟩
          obtain ⟨i, h, hi, hc⟩ := hCr
          exact ⟨i, h, hi, (hbl.block bc (Array.getElem?_eq_some_iff.1 hc).1).trans hc⟩
end Go.Proofs.Ytokeejachclpeaa
