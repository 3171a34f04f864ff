/-
  Walks: level sets, by the program and by the reference.
-/
import Derived.Test.YtpdobkbnfphkfaaLev
namespace Go.Proofs.Ytpdobkbnfphkfaa
open Go.RowKit

theorem row_low {w : World} {B n c g : Nat} {A : Option Addr} {xs : List Int} (h : Own w B A n c xs) (hA : A = some ⟨g, 0, none⟩) : B ≤ g := (own_range h g hA).1
set_option maxHeartbeats 2000000 in
theorem specLevelSets_any (A : Option Addr) (n c : Nat) (x : List Int) (w : World) (hx : Ints w A n x) :
    Calls Try.prog 68 #[.slice A n c] w fun e w' => ∃ B r cr, e = .returned (.tuple #[.slice B r cr, .bool (vecOk 1000 x)]) ∧ Own w' w.heap.size B r cr (levL x) ∧ r ≤ 1048576 ∧ Below w.heap.size w w' := by
  have hxl := hide hx.len
  have hB0 := (Below.refl w.heap.size w).alloc (Nat.le_refl _) (.cells #[] 3)
  have hO0 := own_zero w (Nat.le_refl w.heap.size)
  have HD := hide (specOrderFor_any A n c x _ (hx.alloc (.cells #[] 3)))
  cases hok : vecOk 1000 x
  · have e0 : levL x = [] := by simp [levL, hok]
    have e1 : ordF x = [] := by simp [ordF, hok]
    rw [e0]; clear e0
    rw [hok, e1] at HD
    clear hok e1
    go_enter Try.func68, Try.ntmps68
    go_wp2_with fail
    refine HD.out.mono ?_
    rintro e w1 ⟨B0, r0, cr0, rfl, own0, hr0, hb1⟩
    have hz : r0 = 0 := own0.len.symm
    subst hz
    have ho1 := hO0.below hb1 (by simp)
    go_wp2
    go_loopw [4, 8] (fun l t wr => l = .slice (some ⟨w.heap.size, 0, none⟩) 0 0 ∧ t = .int .i64 0 ∧ wr = w1) (fun _ _ _ => 0)
    case atStart => exact ⟨rfl, rfl, rfl⟩
    case round =>
      obtain ⟨rfl, rfl, rfl⟩ := hrel
      go_wp2
      go_ret2
      exact ⟨_, 0, 0, rfl, ho1, by omega, hB0.trans (hb1.mono (by simp))⟩
  have e0 : levL x = levT x (ordD x n) n := by simp [levL, hok, hxl.out]
  have e1 : ordF x = ordD x n := by simp [ordF, hok, hxl.out]
  rw [e0]; clear e0
  rw [hok, e1] at HD
  have hn5 : n ≤ 5 := by rw [← hxl.out]; exact (vecOk_true hok).1
  have hO := ordD_ok x n
  have hol := hide (ordD_len x n)
  have HE := hide (fun k (hkn : k < n) => ord_elem hO (k := k) (by rw [hol.out]; exact hkn))
  have HS := hide (fun k (hkn : k ≤ n) => (show seenN (ordD x n) k < 32 by
    have h1 := ord_seen hO (k := k) (by rw [hol.out]; exact hkn)
    have h2 : (2 : Nat) ^ n ≤ 32 := Nat.pow_le_pow_right (by omega) hn5
    omega))
  clear hok hO e1
  generalize ordD x n = O at *
  go_enter Try.func68, Try.ntmps68
  go_wp2_with fail
  refine HD.out.mono ?_
  rintro e w1 ⟨B0, rr, cr0, rfl, own0, hr0, hb1⟩
  have hrn : rr = n := by have := own0.len; have := hol.out; omega
  subst hrn
  have ho1 := hO0.below hb1 (by simp)
  have hbw : Below w.heap.size w w1 := hB0.trans (hb1.mono (by simp))
  have hne0 : ∀ g, (some ⟨w.heap.size, 0, none⟩ : Option Addr) = some ⟨g, 0, none⟩ → ∀ g', B0 = some ⟨g', 0, none⟩ → g ≠ g' := by
    intro g h1 g' h2
    injection h1 with h1; injection h1 with h1 _
    have := row_low own0 h2
    simp at this; omega
  have own0' := own0.less (B' := w.heap.size) (by simp)
  go_wp2
  go_loopw [4, 7, 8] (fun l s t wr => ∃ (k r : Nat) (B : Option Addr) (cr : Nat), k ≤ rr ∧ t = .int .i64 k ∧ s = .int .i64 ((seenN O k : Nat) : Int) ∧ l = .slice B r cr ∧ r ≤ k ∧ Own wr w.heap.size B r cr (levT x O k) ∧ Own wr w.heap.size B0 rr cr0 O ∧ (∀ g, B = some ⟨g, 0, none⟩ → ∀ g', B0 = some ⟨g', 0, none⟩ → g ≠ g') ∧ Below w.heap.size w wr) (fun _ _ t _ => rr - (intOf t).toNat)
  case atStart => exact ⟨0, 0, _, 0, Nat.zero_le _, rfl, rfl, rfl, Nat.le_refl _, ho1, own0', hne0, hbw⟩
  clear ho1 own0' hne0 hbw
  case round =>
    obtain ⟨k, r, B, cr, hk, rfl, rfl, rfl, hrk, hown, ownO, hne, hbel⟩ := hrel
    have Hne := hide hne; clear hne
    by_cases hlt : k < rr
    · obtain ⟨e, he, hen, hsn⟩ := HE.out k hlt
      have hs := HS.out k (by omega)
      have hs2 := HS.out (k + 1) (by omega)
      rw [hsn] at hs2
      have hsn' := hide hsn
      obtain ⟨bo, rfl, hboB, hbol⟩ := ownO.form (by omega)
      have o1 := ownO.cell hlt
      rw [he] at o1
      have hst := hide (show levT x O (k + 1) = if levP x O k then levT x O k ++ [((seenN O (k + 1) : Nat) : Int)] else levT x O k from rfl)
      obtain ⟨b, off, rfl, hb, hc⟩ := hx.all_ (by omega)
      have cE : wr.cell? ⟨b, off + e, none⟩ = some (.int .i64 (gv x e)) := (hbel.cell (p := ⟨b, off + e, none⟩) hb).trans (hc e hen)
      have s10 : seenN O k < 1024 := by omega
      have e40 : e ≤ 40 := by omega
      have i1 : (0 : Int) ≤ (k : Int) := by omega
      have i2 : (k : Int) < (rr : Int) := by omega
      have i3 : (0 : Int) ≤ (e : Int) := by omega
      have i4 : (e : Int) < (rr : Int) := by omega
      have HG := hide (fun (g cap : Nat) (L2 : List Int) (w3 : World) (q : Nat) (y : Int) (hgrow : ((wr.drewN q).alloc (.cells #[.int .i64 y] 3)).grownBy w3 (B.map (·.block))) (hat : B = some ⟨g, 0, none⟩ ∨ g = ((wr.drewN q).alloc (.cells #[.int .i64 y] 3)).heap.size) =>
        (show Own w3 w.heap.size (some ⟨bo, 0, none⟩) rr cr0 O ∧ (∀ g2, (some ⟨g, 0, none⟩ : Option Addr) = some ⟨g2, 0, none⟩ → ∀ g', (some ⟨bo, 0, none⟩ : Option Addr) = some ⟨g', 0, none⟩ → g2 ≠ g') ∧ Below w.heap.size w w3 from by
          refine ⟨(((ownO.below (below_drewN (Below.refl wr.heap.size wr) q) (Nat.le_refl _)).alloc _).keep fun g2 hg2 hA => hgrow.block g2 hg2 (fun hk2 => ?_)), ?_, app_belowN hbel hown hgrow hbel.size⟩
          · injection hA with hA; injection hA with hA _
            rcases hown.where_ with h0 | ⟨gb, h1, _, _⟩
            · rw [h0] at hk2; cases hk2
            · rw [h1] at hk2; simp at hk2
              exact Hne.out gb h1 bo rfl (by omega)
          · intro g2 h1 g' h2
            injection h1 with h1; injection h1 with h1 _
            injection h2 with h2; injection h2 with h2 _
            rcases hat with h | h
            · subst h1; exact fun h5 => Hne.out g h bo rfl (by omega)
            · simp at h
              omega))
      by_cases hlast : k + 1 = rr
      · have hs3 := hide (show levT x O (k + 1) = levT x O k ++ [((insN (seenN O k) e : Nat) : Int)] by rw [hst.out, show levP x O k = true by simp [levP, hol.out, hlast], if_pos rfl, hsn'.out])
        have hd : ((k : Int) + 1 == (rr : Int)) = true := by simp; omega
        clear he hsn
        generalize seenN O k = s at *
        generalize levT x O k = L at *
        go_wp2
        go_quiet (fail)
        go_wp2_with (refine wpl_app (by rfl) _ _ (by rfl) w.heap.size B r cr (wr.drewN nq).heap.size L ((insN s e : Nat) : Int) (by rfl) (by rfl) ((hown.below (below_drewN (Below.refl wr.heap.size wr) nq) (Nat.le_refl _)).alloc _) (cell_new (wr.drewN nq) _) (by omega) (by have := hbel.size; simp; omega) ?_; intro g cap w3 hown3 hgrow hat hlt3)
        have H3 := HG.out g cap L w3 nq _ hgrow hat
        go_roundw
        case rel => exact ⟨k + 1, r + 1, _, cap, by omega, by go_num, by rw [hsn'.out], rfl, by omega, by rw [hs3.out]; exact hown3, H3.1, H3.2.1, H3.2.2⟩
        case measure => simp [intOf]; omega
      · have hk1 : k + 1 < rr := by omega
        obtain ⟨q, hq, hqn, _⟩ := HE.out (k + 1) hk1
        have o2 := ownO.cell hk1
        rw [hq] at o2
        have cQ : wr.cell? ⟨b, off + q, none⟩ = some (.int .i64 (gv x q)) := (hbel.cell (p := ⟨b, off + q, none⟩) hb).trans (hc q hqn)
        have i5 : (0 : Int) ≤ (k : Int) + 1 := by omega
        have i6 : (k : Int) + 1 < (rr : Int) := by omega
        have i7 : (0 : Int) ≤ (q : Int) := by omega
        have i8 : (q : Int) < (rr : Int) := by omega
        have hd : ((k : Int) + 1 == (rr : Int)) = false := by simp; omega
        have hP := hide (show levP x O k = decide (gv x q < gv x e) by
          have h0 : decide (k + 1 = O.length) = false := by simp [hol.out]; omega
          unfold levP
          rw [hq, he, Int.toNat_natCast, Int.toNat_natCast, h0, Bool.false_or])
        clear he hsn hq hc
        cases hne : decide (gv x q < gv x e)
        · have hs3 := hide (show levT x O (k + 1) = levT x O k by rw [hst.out, hP.out, hne]; rfl)
          generalize seenN O k = s at *
          go_wp2
          go_quiet (fail)
          go_wp2
          go_roundw
          case rel => exact ⟨k + 1, r, B, cr, by omega, by go_num, by rw [hsn'.out], rfl, by omega, by rw [hs3.out]; exact hown.below (below_drewN (Below.refl wr.heap.size wr) _) (Nat.le_refl _), ownO.below (below_drewN (Below.refl wr.heap.size wr) _) (Nat.le_refl _), Hne.out, below_drewN hbel _⟩
          case measure => simp [intOf]; omega
        · have hs3 := hide (show levT x O (k + 1) = levT x O k ++ [((insN (seenN O k) e : Nat) : Int)] by rw [hst.out, hP.out, hne, if_pos rfl, hsn'.out])
          generalize seenN O k = s at *
          generalize levT x O k = L at *
          go_wp2
          go_quiet (fail)
          go_wp2_with (refine wpl_app (by rfl) _ _ (by rfl) w.heap.size B r cr (wr.drewN nq).heap.size L ((insN s e : Nat) : Int) (by rfl) (by rfl) ((hown.below (below_drewN (Below.refl wr.heap.size wr) nq) (Nat.le_refl _)).alloc _) (cell_new (wr.drewN nq) _) (by omega) (by have := hbel.size; simp; omega) ?_; intro g cap w3 hown3 hgrow hat hlt3)
          have H3 := HG.out g cap L w3 nq _ hgrow hat
          go_roundw
          case rel => exact ⟨k + 1, r + 1, _, cap, by omega, by go_num, by rw [hsn'.out], rfl, by omega, by rw [hs3.out]; exact hown3, H3.1, H3.2.1, H3.2.2⟩
          case measure => simp [intOf]; omega
    · obtain rfl : k = rr := by omega
      go_wp2
      go_ret2
      exact ⟨B, r, cr, rfl, hown, by omega, hbel⟩
end Go.Proofs.Ytpdobkbnfphkfaa
