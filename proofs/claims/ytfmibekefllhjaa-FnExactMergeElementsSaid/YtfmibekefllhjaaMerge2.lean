/-
  Walks: elements merged, by the program.
-/
import Derived.Test.YtfmibekefllhjaaMerge
import Derived.Deep.RegionWith
namespace Go.Proofs.Ytfmibekefllhjaa
open Go.RowKit

set_option maxHeartbeats 2000000 in
theorem makeMrg_any (N : Nat) (val : Nat → Int) (cp0 : Value) (cp1 : Value) (cp2 : Value) (cp3 : Value) (w : World) (hN : N ≤ 5) (hok : isFn N (valL val (2 ^ N)) = true)
    (hcl : ∀ W, Below w.heap.size w W → ∀ s : Nat, s < 2 ^ N → Calls Try.prog 50 #[.int .i64 (s : Int), cp0, cp1, cp2, cp3] W fun e w' => e = .returned (.int .i64 (val s)) ∧ Below W.heap.size W w') :
    Calls Try.prog 49 #[.int .i64 (N : Int), .func (.func 50) #[] #[cp0, cp1, cp2, cp3]] w fun e w' => ∃ B r cr, e = .returned (.tuple #[.agg #[.int .i64 (N : Int), .slice B r cr], .bool true]) ∧ Own w' w.heap.size B r cr (valL val (2 ^ N)) ∧ r ≤ 1048576 ∧ Below w.heap.size w w' := by
  have HCL := hide hcl
  have HOK := hide hok
  clear hcl hok
  have h32 : p2 N ≤ 32 := Nat.pow_le_pow_right (n := 2) (by omega) hN
  have hN40 : N ≤ 40 := by omega
  have hB0 : Below w.heap.size w (w.alloc (.cells #[.int .i64 0, .slice none 0 0] 27)) := (Below.refl _ _).alloc (Nat.le_refl _) _
  go_enter Try.func49, Try.ntmps49
  go_wp2
  rw [shl_a N hN40]
  go_loopw [13] (fun i wr => ∃ (k : Nat) (B : Option Addr) (cr : Nat), k ≤ p2 N ∧ i = .int .i64 k ∧ Own wr (w.heap.size + 2) B k cr (valL val k) ∧ Two wr w.heap.size (.int .i64 0) (.slice none 0 0) ∧ Two wr (w.heap.size + 1) (.int .i64 (N : Int)) (.slice B k cr) ∧ Below w.heap.size w wr) (fun i _ => p2 N - (intOf i).toNat)
  case atStart => exact ⟨0, none, 0, Nat.zero_le _, rfl, own_nil _ _, two_start w _ _ _ _, two_start2 w _ _ _ _, hB0.alloc (by simp) _⟩
  clear hB0
  case round =>
    obtain ⟨k, B, cr, hk, rfl, hown, ht0, ht1, hbel⟩ := hrel
    have m0 := ht1.cell1
    have hsz1 := ht1.lt
    by_cases hlt : k < p2 N
    · have HV := hide (valL_snoc val k)
      go_wp2
      go_region_law (first
        | (go_simp; go_at_call 50; refine (HCL.out _ hbel.drew k hlt).mono ?_; rintro e w2 ⟨rfl, hb2⟩; have hown2 : Own w2 _ _ _ _ _ := (show Own wr.drew _ _ _ _ _ from hown).below hb2 (Nat.le_refl _); have ht1b := (show Two wr.drew _ _ _ from ht1).below hb2 hsz1; have ht0b := (show Two wr.drew _ _ _ from ht0).below hb2 (by simp; omega); have m2 := ht1b.cell1; have hsz2 := hb2.size; have hsz3 := ht1b.lt)
        | (refine step_app (by rfl) _ _ (by rfl) (w.heap.size + 2) B k cr w2.heap.size (valL val k) (val k) (by rfl) (by rfl) (hown2.alloc _) (cell_new w2 _) (by omega) (by simp; omega) ?_; intro g cap w3 hown3 hgrow hat hlt3; have hbl3 := app_block hown2 hgrow rfl (show w.heap.size + 1 < w.heap.size + 2 by omega) (by omega); have hbl4 := app_block hown2 hgrow rfl (show w.heap.size < w.heap.size + 2 by omega) (by omega); have u1 := ht1b.same hbl3; have u0 := ht0b.same hbl4; have m3 := u1.cell1; have f3 := u1.frozen))
      all_goals
        go_wp2
        go_roundw
        case rel => exact ⟨k + 1, _, cap, by omega, by go_num, by rw [HV.out]; exact hown3.far (app_ne (b := w.heap.size + 1) hown2 hat (by simp; omega) (by omega)) _, u0.far (by simp) _, u1.set1 _, ((hbel.drew.trans (hb2.mono hbel.size)).trans (below_app hown2 hgrow rfl (by omega) (by omega))).setCell (by simp) _⟩
        case measure => simp [intOf]; omega
    · obtain rfl : k = p2 N := by omega
      have z0 := ht0.frozen
      have z1 := ht0.frozen0
      have z2 := ht1.cell0
      go_wp2_with fail
      refine (isFunction_any (N : Int) B _ cr _ _ hown.ints).mono ?_
      rintro e w2 ⟨rfl, hb2⟩
      rw [show isFn (N : Int) (valL val (p2 N)) = true from HOK.out]
      have v0 := (ht0.below hb2 (by omega)).cell0
      have v1 := (ht0.below hb2 (by omega)).cell1
      have v2 := (ht0.below hb2 (by omega)).frozen0
      have v3 := (ht0.below hb2 (by omega)).frozen
      have x0 := (ht1.below hb2 hsz1).cell0
      have x1 := (ht1.below hb2 hsz1).cell1
      have y := ((ht0.below hb2 (by omega)).set0 (.int .i64 (N : Int))).set1 (.slice B (p2 N) cr)
      have y0 := y.cell0
      have y1 := y.cell1
      go_wp2
      refine bodyPost_ret (v := .tuple #[.agg #[.int .i64 (N : Int), .slice B (p2 N) cr], .bool true]) (by simp [results, Try.results49, go_sem, y0, y1]) rfl ⟨B, p2 N, cr, rfl, ?_, by omega, ?_⟩
      · have o2 := hown.below hb2 (Nat.le_refl _)
        have hl := fun g (hA : B = some ⟨g, 0, none⟩) => row_low hown hA
        exact ((o2.far (fun g hA => by have := hl g hA; simp; omega) _).far (fun g hA => by have := hl g hA; simp; omega) _).less (by omega)
      · exact ((hbel.trans (hb2.mono hbel.size)).setCell (Nat.le_refl _) _).setCell (Nat.le_refl _) _
set_option maxHeartbeats 1000000 in
theorem mrgFn_any (N : Nat) (A : Option Addr) (n c : Nat) (v : List Int) (B : Option Addr) (r cr : Nat) (L : List Int) (x a b bl ba bb bf : Nat) (w : World) (hv : Ints w A n v) (fo : FnOk N n v) (hL : Ints w B r L) (hr : r ≤ 5)
    (he : ∀ j, j < r → ∃ q : Nat, gv L j = (q : Int) ∧ q < N) (hx : x < 32) (hb : b < N) (_ha : a < N)
    (l0 : w.cell? ⟨bl, 0, none⟩ = some (.slice B r cr)) (a0 : w.cell? ⟨ba, 0, none⟩ = some (.int .i64 (a : Int))) (b0 : w.cell? ⟨bb, 0, none⟩ = some (.int .i64 (b : Int))) (f1 : w.cell? ⟨bf, 1, none⟩ = some (.slice A n c)) :
    Calls Try.prog 50 #[.int .i64 (x : Int), .pointer (some ⟨bl, 0, none⟩), .pointer (some ⟨ba, 0, none⟩), .pointer (some ⟨bb, 0, none⟩), .pointer (some ⟨bf, 0, none⟩)] w fun e w' => e = .returned (.int .i64 (gv v (mrgI L a b x))) ∧ Below w.heap.size w w' := by
  have hll := hL.len
  have hN := fo.hN
  have n32 := fo.n32
  have hlt : sprT L x r < n := by rw [fo.hn]; exact sprT_lt (fun j hj => by obtain ⟨q, h1, h2⟩ := he j (by omega); omega) r (by omega)
  have hins := fo.ins hlt hb
  have HSp := hide (spread_any B r cr L x N w hL hr hN (by omega) he)
  have em := hide (show mrgI L a b x = if hasB (sprT L x r) a then insN (sprT L x r) b else sprT L x r by unfold mrgI; rw [hll])
  obtain ⟨bv, off, rfl, hbb, hc⟩ := hv.all_ fo.n0
  have c1 := hc _ hlt
  have c2 := hc _ hins
  clear hc hll he
  generalize sprT L x r = t at *
  have t10 : t < 1024 := by omega
  have a40 : a ≤ 40 := by omega
  have b40 : b ≤ 40 := by omega
  have i1 : (0 : Int) ≤ (t : Int) := by omega
  have i2 : (t : Int) < (n : Int) := by omega
  have i3 : (0 : Int) ≤ ((insN t b : Nat) : Int) := by omega
  have i4 : ((insN t b : Nat) : Int) < (n : Int) := by omega
  cases hh : hasB t a
  · have em2 := hide (em.out.trans (by rw [hh]; rfl) : mrgI L a b x = t)
    go_enter Try.func50, Try.ntmps50
    go_wp2_with fail
    refine HSp.out.mono ?_
    rintro e w1 ⟨rfl, rfl⟩
    go_wp2
    go_ret
    exact ⟨by rw [em2.out]; rfl, Below.refl _ _⟩
  · have em2 := hide (em.out.trans (by rw [hh]; rfl) : mrgI L a b x = insN t b)
    go_enter Try.func50, Try.ntmps50
    go_wp2_with fail
    refine HSp.out.mono ?_
    rintro e w1 ⟨rfl, rfl⟩
    go_wp2
    go_ret
    exact ⟨by rw [em2.out]; rfl, Below.refl _ _⟩
end Go.Proofs.Ytfmibekefllhjaa
