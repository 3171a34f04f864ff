/-
  Walks: elements merged, by the reference.
-/
import Derived.Test.YtfmibekefllhjaaMerge3
namespace Go.Proofs.Ytfmibekefllhjaa
open Go.RowKit

def BY (w W : World) (N : Int) (A : Option Addr) (n c : Nat) : Prop := FB w W N A n c ∧ Two W (w.heap.size + 1) (.int .i64 0) (.slice none 0 0)
theorem BY.step {w W W' : World} {N : Int} {A : Option Addr} {n c : Nat} (h : BY w W N A n c) (hb : Below W.heap.size W W') : BY w W' N A n c := ⟨h.1.step hb, h.2.below hb h.2.lt⟩
set_option maxHeartbeats 4000000 in
theorem specMergeElements_any (E : Int) (A : Option Addr) (n c : Nat) (v : List Int) (a b : Int) (w : World) (hv : Ints w A n v) :
    Calls Try.prog 15 #[.agg #[.int .i64 E, .slice A n c], .int .i64 a, .int .i64 b] w fun e w' => ∃ B r cr, e = .returned (.tuple #[.agg #[.int .i64 (mgE E v a b), .slice B r cr], .bool (mgOk E v a b)]) ∧ Own w' w.heap.size B r cr (mgL E v a b) ∧ r ≤ 1048576 ∧ Below w.heap.size w w' := by
  have hX0 : BY w ((w.alloc (.cells #[.int .i64 E, .slice A n c] 27)).alloc (.cells #[.int .i64 0, .slice none 0 0] 27)) E A n c := ⟨(FB.start w E A n c).step ((Below.refl _ _).alloc (Nat.le_refl _) _), two_start2 w _ _ _ _⟩
  obtain ⟨hbel0, hz0, r0, r1⟩ := hX0.1.parts
  have hcall := specIsFunction_any E A n c v _ (hv.below hbel0 (Nat.le_refl _))
  cases hf : isFn E v
  · have e2 : mgOk E v a b = false := by simp [mgOk, hf]
    have e0 : mgL E v a b = [] := by simp [mgL, e2]
    have e1 : mgE E v a b = 0 := by simp [mgE, e2]
    rw [e2, e0, e1]; clear e0 e1 e2
    rw [hf] at hcall
    have HC := hide hcall; clear hcall
    go_enter Try.func15, Try.ntmps15
    go_wp2_with fail
    refine HC.out.mono ?_
    rintro e w1 ⟨rfl, hb1⟩
    have hX1 := hX0.step hb1
    have t1 := hX1.2
    have a0 := t1.cell0
    have a1 := t1.cell1
    have a2 := t1.frozen0
    have a3 := t1.frozen
    have y := (t1.set0 (.int .i64 0)).set1 (.slice none 0 0)
    have y0 := y.cell0
    have y1 := y.cell1
    go_wp2
    refine bodyPost_ret (v := .tuple #[.agg #[.int .i64 0, .slice none 0 0], .bool false]) (by simp [results, Try.results15, go_sem, y0, y1]) rfl ⟨none, 0, 0, rfl, own_nil _ _, by omega, ?_⟩
    exact (hX1.1.1.setCell (by simp) _).setCell (by simp) _
  rw [hf] at hcall
  have HC := hide hcall; clear hcall
  obtain ⟨N, rfl, fo⟩ := FnOk.of hf hv
  have hN := fo.hN
  have hw1 : IntKind.i64.wrap ((N : Int) - 1) = (N : Int) - 1 := IntWalk.i64_in _ (by omega)
  cases hia : inR a 0 ((N : Int) - 1)
  · have e2 : mgOk N v a b = false := by simp [mgOk, hia]
    have e0 : mgL N v a b = [] := by simp [mgL, e2]
    have e1 : mgE N v a b = 0 := by simp [mgE, e2]
    rw [e2, e0, e1]; clear e0 e1 e2
    clear r0 r1
    go_enter Try.func15, Try.ntmps15
    go_wp2_with fail
    refine HC.out.mono ?_
    rintro e w1 ⟨rfl, hb1⟩
    have hX1 := hX0.step hb1
    obtain ⟨hbel1, hz1, r0, r1⟩ := hX1.1.parts
    go_wp2_with fail
    refine (l1In_any _ _ _ _).mono ?_
    rintro e w2 ⟨rfl, rfl⟩
    rw [hia]
    clear r0 r1
    have t1 := hX1.2
    have a0 := t1.cell0
    have a1 := t1.cell1
    have a2 := t1.frozen0
    have a3 := t1.frozen
    have y := (t1.set0 (.int .i64 0)).set1 (.slice none 0 0)
    have y0 := y.cell0
    have y1 := y.cell1
    go_wp2
    refine bodyPost_ret (v := .tuple #[.agg #[.int .i64 0, .slice none 0 0], .bool false]) (by simp [results, Try.results15, go_sem, y0, y1]) rfl ⟨none, 0, 0, rfl, own_nil _ _, by omega, ?_⟩
    exact (hX1.1.1.setCell (by simp) _).setCell (by simp) _
  have Hia := hide hia
  cases hib : inR b 0 ((N : Int) - 1)
  · have e2 : mgOk N v a b = false := by simp [mgOk, hib]
    have e0 : mgL N v a b = [] := by simp [mgL, e2]
    have e1 : mgE N v a b = 0 := by simp [mgE, e2]
    rw [e2, e0, e1]; clear e0 e1 e2
    clear r0 r1
    go_enter Try.func15, Try.ntmps15
    go_wp2_with fail
    refine HC.out.mono ?_
    rintro e w1 ⟨rfl, hb1⟩
    have hX1 := hX0.step hb1
    obtain ⟨hbel1, hz1, r0, r1⟩ := hX1.1.parts
    go_wp2_with fail
    refine (l1In_any _ _ _ _).mono ?_
    rintro e w2 ⟨rfl, rfl⟩
    rw [hia]
    go_wp2_with fail
    refine (l1In_any _ _ _ _).mono ?_
    rintro e w2 ⟨rfl, rfl⟩
    rw [hib]
    clear r0 r1
    have t1 := hX1.2
    have a0 := t1.cell0
    have a1 := t1.cell1
    have a2 := t1.frozen0
    have a3 := t1.frozen
    have y := (t1.set0 (.int .i64 0)).set1 (.slice none 0 0)
    have y0 := y.cell0
    have y1 := y.cell1
    go_wp2
    refine bodyPost_ret (v := .tuple #[.agg #[.int .i64 0, .slice none 0 0], .bool false]) (by simp [results, Try.results15, go_sem, y0, y1]) rfl ⟨none, 0, 0, rfl, own_nil _ _, by omega, ?_⟩
    exact (hX1.1.1.setCell (by simp) _).setCell (by simp) _
  have Hib := hide hib
  by_cases hab : a = b
  case pos =>
    have e3 : (a == b) = true := by simp [hab]
    have e2 : mgOk N v a b = false := by simp [mgOk, hab]
    have e0 : mgL N v a b = [] := by simp [mgL, e2]
    have e1 : mgE N v a b = 0 := by simp [mgE, e2]
    rw [e2, e0, e1]; clear e0 e1 e2
    clear r0 r1 hia hib hab
    go_enter Try.func15, Try.ntmps15
    go_wp2_with fail
    refine HC.out.mono ?_
    rintro e w1 ⟨rfl, hb1⟩
    have hX1 := hX0.step hb1
    obtain ⟨hbel1, hz1, r0, r1⟩ := hX1.1.parts
    go_wp2_with fail
    refine (l1In_any _ _ _ _).mono ?_
    rintro e w2 ⟨rfl, rfl⟩
    rw [Hia.out]
    go_wp2_with fail
    refine (l1In_any _ _ _ _).mono ?_
    rintro e w2 ⟨rfl, rfl⟩
    rw [Hib.out]
    have t1 := hX1.2
    have a0 := t1.cell0
    have a1 := t1.cell1
    have a2 := t1.frozen0
    have a3 := t1.frozen
    have y := (t1.set0 (.int .i64 0)).set1 (.slice none 0 0)
    have y0 := y.cell0
    have y1 := y.cell1
    go_wp2
    refine bodyPost_ret (v := .tuple #[.agg #[.int .i64 0, .slice none 0 0], .bool false]) (by simp [results, Try.results15, go_sem, y0, y1]) rfl ⟨none, 0, 0, rfl, own_nil _ _, by omega, ?_⟩
    exact (hX1.1.1.setCell (by simp) _).setCell (by simp) _
  have e3 : (a == b) = false := by simp [hab]
  have hvl := hv.len
  have e2 : mgOk N v a b = true := by simp [mgOk, hf, hia, hib, hab]
  have e0 : mgL N v a b = valL (mgV v a.toNat b.toNat) (2 ^ (N - 1)) := by simp [mgL, e2]
  have e1 : mgE N v a b = (N : Int) - 1 := by simp [mgE, e2]
  rw [e2, e0, e1]; clear e0 e1 e2
  obtain ⟨a, rfl⟩ : ∃ q : Nat, a = (q : Int) := ⟨a.toNat, by have := inR_true hia; omega⟩
  obtain ⟨b, rfl⟩ : ∃ q : Nat, b = (q : Int) := ⟨b.toNat, by have := inR_true hib; omega⟩
  have ha : a < N := by have := inR_true hia; omega
  have hb : b < N := by have := inR_true hib; omega
  rw [Int.toNat_natCast, Int.toNat_natCast]
  have n32 := fo.n32
  have n0 := fo.n0
  have b40 : b ≤ 40 := by omega
  have a40 : a ≤ 40 := by omega
  have hmf := hide (mg_fn (a := a) fo hb)
  have pb := fo.p2 hb
  have d10 : n - 1 < 1024 := by omega
  have p10 : p2 b < 1024 := by omega
  have hcnt := hide (show (eltL (n - 1 - p2 b)).length = N - 1 by rw [fo.hn]; exact elt_count ⟨N, by omega⟩ ⟨b, by omega⟩ hb)
  have hel := hide (elt_lt fo hb)
  have eV := hide (fun s => (show mgV v a b s = gv v (mrgI (eltL (n - 1 - p2 b)) a b s) by unfold mgV; rw [hvl]))
  have hlt5 : n - 1 - p2 b < 32 := by omega
  have HA := hide (fun W => fn_full fo ▸ l2Full_any N W (by omega))
  have HSp := hide (fun x W (hx : x < 32) => l5Spread_any (n - 1 - p2 b) x W hlt5 (by omega))
  obtain ⟨b0, off0, rfl, hbb0, hc0⟩ := hv.all_ n0
  have HCC := hide hc0
  have hML := hide (fun x => mrg_lt (a := a) (x := x) fo hb)
  have pN : 2 ^ (N - 1) ≤ 32 := Nat.le_trans (Nat.pow_le_pow_right (by decide) (show N - 1 ≤ 5 by omega)) (by decide)
  have hsub : IntKind.i64.wrap (((n - 1 : Nat) : Int) - ((p2 b : Nat) : Int)) = ((n - 1 - p2 b : Nat) : Int) := by rw [IntWalk.i64_in _ (by omega)]; omega
  have htn : ((N : Int) - 1).toNat = N - 1 := by omega
  have hge : (0 : Int) ≤ (N : Int) - 1 := by omega
  have hMG := hide (fun x => (show mgV v a b x = gv v (if hasB (sprT (eltL (n - 1 - p2 b)) x (eltL (n - 1 - p2 b)).length) a then insN (sprT (eltL (n - 1 - p2 b)) x (eltL (n - 1 - p2 b)).length) b else sprT (eltL (n - 1 - p2 b)) x (eltL (n - 1 - p2 b)).length) from eV.out x))
  have hM2 := hide (fun x => (show (if hasB (sprT (eltL (n - 1 - p2 b)) x (eltL (n - 1 - p2 b)).length) a then insN (sprT (eltL (n - 1 - p2 b)) x (eltL (n - 1 - p2 b)).length) b else sprT (eltL (n - 1 - p2 b)) x (eltL (n - 1 - p2 b)).length) < n from hML.out x))
  have HT := hide (fun x => (show sprT (eltL (n - 1 - p2 b)) x (eltL (n - 1 - p2 b)).length < n by
    have h2 := sprT_lt (L := eltL (n - 1 - p2 b)) (x := x) (N := N) (fun j hj => by obtain ⟨q, h3, h4⟩ := hel.out j hj; omega) _ (Nat.le_refl _)
    rwa [← fo.hn] at h2))
  clear r0 r1 hia hib hab hf hvl hc0 hcnt hel hmf eV
  generalize eltL (n - 1 - p2 b) = L at *
  generalize n - 1 - p2 b = R at *
  have h40 : N - 1 ≤ 40 := by omega
  generalize hM : N - 1 = M at *
  have HM0 := hide hM
  clear hM
  have pM : p2 M ≤ 32 := pN
  go_enter Try.func15, Try.ntmps15
  go_wp2_with fail
  refine HC.out.mono ?_
  rintro e w1 ⟨rfl, hb1⟩
  have hX1 := hX0.step hb1
  obtain ⟨hbel1, hz1, r0, r1⟩ := hX1.1.parts
  go_wp2_with fail
  refine (l1In_any _ _ _ _).mono ?_
  rintro e w2 ⟨rfl, rfl⟩
  rw [Hia.out]
  go_wp2_with fail
  refine (l1In_any _ _ _ _).mono ?_
  rintro e w2 ⟨rfl, rfl⟩
  rw [Hib.out]
  have hX2 := hX1.step ((Below.refl w1.heap.size w1).alloc (Nat.le_refl _) (.cells #[] 3))
  have hX3 : BY w (w1.alloc (.cells #[] 3)) N (some ⟨b0, off0, none⟩) n c := hX2
  have hltw := hX1.2.lt
  have hO := (own_none w1).less (B' := w.heap.size + 2) (by omega)
  have hB2 := hX2.1.1
  have s0 := hX2.1.2.2.1
  have s1 := hX2.1.2.2.2
  go_wp2
  go_quiet ((go_at_call 43; exact quiet_left (HA.out _)))
  go_wp2
  try simp only [shl_a b b40]
  clear r0 r1 s0 s1 hsub
  have hOq : Own ((w1.alloc (.cells #[] 3)).drewN nq) (w.heap.size + 2) (some ⟨w1.heap.size, 0, none⟩) 0 0 [] := hO.below (below_drewN (Below.refl _ _) _) (Nat.le_refl _)
  have hXq : BY w ((w1.alloc (.cells #[] 3)).drewN nq) N (some ⟨b0, off0, none⟩) n c := hX2.step (below_drewN (Below.refl _ _) _)
  go_loopw [8, 10] (fun l t wr => ∃ (k : Nat) (B : Option Addr) (cr : Nat), k ≤ p2 M ∧ t = .int .i64 k ∧ l = .slice B k cr ∧ Own wr (w.heap.size + 2) B k cr (valL (mgV v a b) k) ∧ BY w wr N (some ⟨b0, off0, none⟩) n c) (fun _ t _ => p2 M - (intOf t).toNat)
  case atStart => exact ⟨0, _, 0, Nat.zero_le _, rfl, rfl, hOq, hXq⟩
  clear hOq hXq hO hX2 hX3
  case round =>
    obtain ⟨k, B, cr, hk, rfl, rfl, hown, hXr⟩ := hrel
    obtain ⟨hbelr, hzr, r0, r1⟩ := hXr.1.parts
    by_cases hlt : k < p2 M
    · have hs := hide (valL_snoc (mgV v a b) k)
      have hmg := hMG.out k
      have ht := HT.out k
      have hm2 := hM2.out k
      have HS1 := hide (fun W => HSp.out k W (by omega))
      generalize sprT L k L.length = T at *
      have T10 : T < 1024 := by omega
      have HP := hide pM
      cases hh : hasB T a
      · rw [hh] at hmg hm2
        have hmg2 := hide (hmg.trans rfl : mgV v a b k = gv v T)
        have i1 : (0 : Int) ≤ (T : Int) := by omega
        have i2 : (T : Int) < (n : Int) := by omega
        clear hmg hm2
        go_wp2_with fail
        refine (HS1.out _).mono ?_
        rintro e w5 ⟨rfl, hb5⟩
        have hX5 := hXr.step hb5
        have o5 := hown.below hb5 (Nat.le_refl _)
        clear r0 r1
        obtain ⟨hbel5, hz5, r0, r1⟩ := hX5.1.parts
        have cT : w5.cell? ⟨b0, off0 + T, none⟩ = some (.int .i64 (gv v T)) := (hbel5.cell (p := ⟨b0, off0 + T, none⟩) hbb0).trans (HCC.out _ ht)
        have hlt5' := hX5.2.lt
        go_wp2_with (refine wpl_app (by rfl) _ _ (by rfl) (w.heap.size + 2) B k cr w5.heap.size (valL (mgV v a b) k) (gv v T) (by rfl) (by rfl) (o5.alloc _) (cell_new w5 _) (by omega) (by simp; omega) ?_; intro g cap w6 hown6 hgrow hat hlt6)
        go_roundw
        case rel => exact ⟨k + 1, _, cap, by omega, by go_num, rfl, by rw [hs.out, hmg2.out]; exact hown6, app_FB hX5.1 (o5.less (by omega)) hgrow (Below.refl _ _) rfl, hX5.2.same (app_block o5 hgrow rfl (by omega) hlt5')⟩
        case measure => simp [intOf]; omega
      · rw [hh] at hmg hm2
        have hmg2 := hide (hmg.trans rfl : mgV v a b k = gv v (insN T b))
        have hins : insN T b < n := hm2
        have eo : orN T (p2 b) = insN T b := rfl
        have i1 : (0 : Int) ≤ ((insN T b : Nat) : Int) := by omega
        have i2 : ((insN T b : Nat) : Int) < (n : Int) := by omega
        clear hmg hm2
        go_wp2_with fail
        refine (HS1.out _).mono ?_
        rintro e w5 ⟨rfl, hb5⟩
        have hX5 := hXr.step hb5
        have o5 := hown.below hb5 (Nat.le_refl _)
        clear r0 r1
        obtain ⟨hbel5, hz5, r0, r1⟩ := hX5.1.parts
        have cT : w5.cell? ⟨b0, off0 + insN T b, none⟩ = some (.int .i64 (gv v (insN T b))) := (hbel5.cell (p := ⟨b0, off0 + insN T b, none⟩) hbb0).trans (HCC.out _ hins)
        have hlt5' := hX5.2.lt
        go_wp2_with (refine wpl_app (by rfl) _ _ (by rfl) (w.heap.size + 2) B k cr w5.heap.size (valL (mgV v a b) k) (gv v (insN T b)) (by rfl) (by rfl) (o5.alloc _) (cell_new w5 _) (by omega) (by simp; omega) ?_; intro g cap w6 hown6 hgrow hat hlt6)
        go_roundw
        case rel => exact ⟨k + 1, _, cap, by omega, by go_num, rfl, by rw [hs.out, hmg2.out]; exact hown6, app_FB hX5.1 (o5.less (by omega)) hgrow (Below.refl _ _) rfl, hX5.2.same (app_block o5 hgrow rfl (by omega) hlt5')⟩
        case measure => simp [intOf]; omega
    · obtain rfl : k = p2 M := by omega
      have tr := hXr.2
      have a0 := tr.cell0
      have a1 := tr.cell1
      have a2 := tr.frozen0
      have a3 := tr.frozen
      have y := (tr.set0 (.int .i64 ((N : Int) - 1))).set1 (.slice B (p2 M) cr)
      have y0 := y.cell0
      have y1 := y.cell1
      go_wp2
      refine bodyPost_ret (v := .tuple #[.agg #[.int .i64 ((N : Int) - 1), .slice B (p2 M) cr], .bool true]) (by simp [results, Try.results15, go_sem, y0, y1]) rfl ⟨B, p2 M, cr, rfl, ?_, by omega, ?_⟩
      · have hl := fun g (hA : B = some ⟨g, 0, none⟩) => row_low hown hA
        exact ((hown.far (fun g hA => by have := hl g hA; simp; omega) _).far (fun g hA => by have := hl g hA; simp; omega) _).less (by omega)
      · exact (hXr.1.1.setCell (by simp) _).setCell (by simp) _
end Go.Proofs.Ytfmibekefllhjaa
