/-
  Walks: fractions in lowest terms.
  Walks: curvature.
  Walks: greed for a size.
  Walks: does greed reach its part; the ratio of greed to the best.
-/
import Derived.Test.YtokeejachclpeaaCore
import Derived.BigQuiet
import Derived.Test.YtokeejachclpeaaSubM
import Derived.Test.YtokeejachclpeaaBelM
import Derived.Test.YtokeejachclpeaaClass
import Derived.Test.YtokeejachclpeaaMinM
namespace Go.Proofs.Ytokeejachclpeaa
open Go.RowKit

theorem gcd_step (x y : Nat) : Nat.gcd y (x % y) = Nat.gcd x y := by
  rw [Nat.gcd_comm y, ← Nat.gcd_rec, Nat.gcd_comm]
theorem l13Divisor_any (a b : Nat) (w : World) (ha : a ≤ 100000) (hb : b ≤ 100000) (h0 : 0 < Nat.gcd a b) :
    Calls Try.prog 206 #[.int .i64 (a : Int), .int .i64 (b : Int)] w fun e w' => e = .returned (.int .i64 ((Nat.gcd a b : Nat) : Int)) ∧ w = w' := by
  go_enter Try.func206, Try.ntmps206
  go_wp2
  go_loop [0, 1] (fun s t => ∃ x y : Nat, s = .int .i64 (x : Int) ∧ t = .int .i64 (y : Int) ∧ x ≤ 100000 ∧ y ≤ 100000 ∧ Nat.gcd x y = Nat.gcd a b) (fun _ t => (intOf t).toNat)
  case atStart => exact ⟨a, b, rfl, rfl, ha, hb, rfl⟩
  case round =>
    obtain ⟨x, y, rfl, rfl, hx, hy, hg⟩ := hrel
    by_cases hy0 : 0 < y
    · have hst := hide (gcd_step x y)
      have Hg := hide hg; clear hg
      have hlt := Nat.mod_lt x hy0
      go_wp2
      go_round
      case rel => exact ⟨y, x % y, rfl, by congr 1, hy, by omega, by rw [hst.out, Hg.out]⟩
      case measure => simp [intOf]; omega
    · obtain rfl : y = 0 := by omega
      rw [Nat.gcd_zero_right] at hg
      subst hg
      go_wp2
      all_goals go_ret
      all_goals exact ⟨ret_int (by omega), rfl⟩
theorem lowest_any (a b : Nat) (w : World) (ha : a ≤ 100000) (hb : b ≤ 100000) (h0 : 0 < Nat.gcd a b) :
    Calls Try.prog 205 #[.int .i64 (a : Int), .int .i64 (b : Int)] w fun e w' => e = .returned (.tuple #[.int .i64 ((a / Nat.gcd a b : Nat) : Int), .int .i64 ((b / Nat.gcd a b : Nat) : Int)]) ∧ Below w.heap.size w w' := by
  go_enter Try.func205, Try.ntmps205
  go_wp2
  go_loopw [6, 7] (fun s t wr => ∃ x y : Nat, s = .int .i64 (x : Int) ∧ t = .int .i64 (y : Int) ∧ x ≤ 100000 ∧ y ≤ 100000 ∧ Nat.gcd x y = Nat.gcd a b ∧ Below w.heap.size w wr) (fun _ t _ => (intOf t).toNat)
  case atStart => exact ⟨a, b, rfl, rfl, ha, hb, rfl, Below.refl _ _⟩
  case round =>
    obtain ⟨x, y, rfl, rfl, hx, hy, hg, hbel⟩ := hrel
    by_cases hy0 : 0 < y
    · have hst := hide (gcd_step x y)
      have Hg := hide hg; clear hg
      have hlt := Nat.mod_lt x hy0
      go_wp2
      go_quiet (fail)
      go_wp2
      go_roundw
      case rel => exact ⟨y, x % y, rfl, by congr 1, hy, by omega, by rw [hst.out, Hg.out], below_drewN hbel _⟩
      case measure => simp [intOf]; omega
    · obtain rfl : y = 0 := by omega
      rw [Nat.gcd_zero_right] at hg
      subst hg
      have d1 : wrap64 ((a : Int) / ((Nat.gcd a b : Nat) : Int)) = ((a / Nat.gcd a b : Nat) : Int) := by
        have := Nat.div_le_self a (Nat.gcd a b)
        rw [show (a : Int) / ((Nat.gcd a b : Nat) : Int) = ((a / Nat.gcd a b : Nat) : Int) by norm_cast]
        generalize a / Nat.gcd a b = q at *
        exact IntWalk.wrap64_in _ (by omega)
      have d2 : wrap64 ((b : Int) / ((Nat.gcd a b : Nat) : Int)) = ((b / Nat.gcd a b : Nat) : Int) := by
        have := Nat.div_le_self b (Nat.gcd a b)
        rw [show (b : Int) / ((Nat.gcd a b : Nat) : Int) = ((b / Nat.gcd a b : Nat) : Int) by norm_cast]
        generalize b / Nat.gcd a b = q at *
        exact IntWalk.wrap64_in _ (by omega)
      go_wp2
      go_quiet (fail)
      go_wp2
      go_ret2
      exact ⟨by rw [← d1, ← d2]; rfl, below_drewN hbel _⟩
end Go.Proofs.Ytokeejachclpeaa
namespace Go.Proofs.Ytokeejachclpeaa
open Go.RowKit

/-- What element k adds last. -/
def lastN (v : List Int) (n k : Nat) : Int := gv v (n - 1) - gv v (n - 1 - p2 k)
/-- What element k loses of its own value. -/
def lostN (v : List Int) (n k : Nat) : Int := gv v (p2 k) - lastN v n k
/-- Is the part that k loses greater than a/b? -/
def curB (v : List Int) (n k : Nat) (a b : Int) : Bool := decide (0 < gv v (p2 k)) && decide (a * gv v (p2 k) < lostN v n k * b)
def curT (v : List Int) (n : Nat) : Nat → Int × Int
  | 0 => (0, 1)
  | k + 1 => if curB v n k (curT v n k).1 (curT v n k).2 then (lostN v n k, gv v (p2 k)) else curT v n k
theorem prod_bd' {x y l q : Int} (h1 : -l ≤ x) (h2 : x ≤ l) (h3 : 1 ≤ y) (h4 : y ≤ q) : -(l * q) ≤ x * y ∧ x * y ≤ l * q := by
  have hl : 0 ≤ l := by omega
  have h5 : x * y ≤ l * y := Int.mul_le_mul_of_nonneg_right h2 (by omega)
  have h6 : l * y ≤ l * q := Int.mul_le_mul_of_nonneg_left h4 hl
  have h7 : -l * y ≤ x * y := Int.mul_le_mul_of_nonneg_right h1 (by omega)
  have h8 : -l * y = -(l * y) := Int.neg_mul _ _
  omega
theorem last_bits : ∀ N : Fin 6, ∀ k : Fin 5, k.val < N.val → (2 ^ N.val - 1) ^^^ ((2 ^ N.val - 1) &&& 2 ^ k.val) = 2 ^ N.val - 1 - 2 ^ k.val ∧ (2 ^ N.val - 1 - 2 ^ k.val) ||| 2 ^ k.val = 2 ^ N.val - 1 ∧ 2 ^ k.val ≤ 2 ^ N.val - 1 := by decide +kernel
theorem fn_last {N n : Nat} {v : List Int} (fo : FnOk N n v) {k : Nat} (hk : k < N) : diffN (n - 1) (p2 k) = n - 1 - p2 k ∧ insN (n - 1 - p2 k) k = n - 1 ∧ p2 k ≤ n - 1 := by
  have hN := fo.hN
  have h := last_bits ⟨N, by omega⟩ ⟨k, by omega⟩ hk
  rw [fo.hn]
  exact h
theorem fn_lastb {N n : Nat} {v : List Int} (fo : FnOk N n v) {k : Nat} (_hk : k < N) : -2000 ≤ lastN v n k ∧ lastN v n k ≤ 2000 := by
  have h0 := fo.n0
  have := fo.bd (s := n - 1) (by omega)
  have := fo.bd (s := n - 1 - p2 k) (by omega)
  unfold lastN; omega
theorem cur_inv {N n : Nat} {v : List Int} (fo : FnOk N n v) : ∀ k, k ≤ N → 0 ≤ (curT v n k).1 ∧ (curT v n k).1 ≤ 4000 ∧ 1 ≤ (curT v n k).2 ∧ (curT v n k).2 ≤ 1000
  | 0, _ => by simp [curT]
  | k + 1, hk => by
    have ih := cur_inv fo k (by omega)
    unfold curT
    cases hb : curB v n k (curT v n k).1 (curT v n k).2
    · simpa using ih
    · simp only [curB, Bool.and_eq_true, decide_eq_true_eq] at hb
      obtain ⟨h1, h2⟩ := hb
      have h3 := fo.bd (fo.p2 (k := k) (by omega))
      have h4 := fn_lastb fo (k := k) (by omega)
      have h5 : 0 ≤ (curT v n k).1 * gv v (p2 k) := Int.mul_nonneg ih.1 (Int.le_of_lt h1)
      have h6 : 0 < lostN v n k * (curT v n k).2 := by omega
      have h7 : 0 < lostN v n k := Int.pos_of_mul_pos_left h6 (by omega)
      simp only [if_true]
      have h8 : lostN v n k ≤ 4000 := by unfold lostN; omega
      omega
def curA (E : Int) (v : List Int) : Nat := (curT v v.length E.toNat).1.toNat
def curD (E : Int) (v : List Int) : Nat := (curT v v.length E.toNat).2.toNat
def curX (E : Int) (v : List Int) : Int := if polyB E v then ((curA E v / Nat.gcd (curA E v) (curD E v) : Nat) : Int) else 0
def curY (E : Int) (v : List Int) : Int := if polyB E v then ((curD E v / Nat.gcd (curA E v) (curD E v) : Nat) : Int) else 0
theorem poly_fn {E : Int} {v : List Int} (h : polyB E v = true) : isFn E v = true := by
  simp only [polyB, Bool.and_eq_true] at h; exact grd_fn h.1

theorem top_bits : ∀ s : Fin 32, s.val ≠ 0 → ∃ e : Fin 5, ∃ t : Fin 32, t.val < s.val ∧ t.val ||| 2 ^ e.val = s.val ∧ 2 ^ e.val ≤ s.val := by decide +kernel
theorem top_bit (N : Nat) (hN : N ≤ 5) (s : Nat) (hs : s < 2 ^ N) (h0 : s ≠ 0) : ∃ e t : Nat, e < N ∧ t < s ∧ insN t e = s := by
  have h32 : (2 : Nat) ^ N ≤ 32 := Nat.pow_le_pow_right (by omega) hN
  obtain ⟨e, t, h1, h2, h3⟩ := top_bits ⟨s, by omega⟩ h0
  refine ⟨e.val, t.val, ?_, h1, h2⟩
  have h4 : 2 ^ e.val < 2 ^ N := Nat.lt_of_le_of_lt h3 hs
  exact (Nat.pow_lt_pow_iff_right (by omega)).1 h4
theorem poly_pos {E : Int} {v : List Int} (h : polyB E v = true) : ∀ s, s < v.length → 0 ≤ gv v s := by
  simp only [polyB, grdB, Bool.and_eq_true, decide_eq_true_eq] at h
  obtain ⟨⟨hf, h0⟩, hi, _⟩ := h
  obtain ⟨N, rfl, hN, hl, _⟩ := isFn_true hf
  obtain ⟨_, hg⟩ := inc_gain hi
  have hpop : ∀ s : Nat, s < v.length → 0 ≤ gv v s := by
    intro s
    induction s using Nat.strongRecOn with
    | ind s ih =>
      intro hs
      by_cases hz : s = 0
      · subst hz; omega
      · have hb := top_bit N hN s (by omega) (by omega)
        obtain ⟨e, t, he, ht, hte⟩ := hb
        have h1 := ih t ht (by omega)
        have h2 := hg t (by omega) e (by omega)
        unfold gainN at h2
        rw [hte] at h2
        omega
  exact hpop
set_option maxHeartbeats 2000000 in
theorem curvatureOf_any (E : Int) (A : Option Addr) (n c : Nat) (v : List Int) (w : World) (hv : Ints w A n v) :
    Calls Try.prog 118 #[.agg #[.int .i64 E, .slice A n c]] w fun e w' => e = .returned (.tuple #[.int .i64 (curX E v), .int .i64 (curY E v), .bool (polyB E v)]) ∧ Below w.heap.size w w' := by
  have hF0 := FB.start w E A n c
  obtain ⟨hbel0, hz0, r0, r1⟩ := hF0.parts
  have hcall := isPolymatroid_any E A n c v _ (hv.below hbel0 (Nat.le_refl _))
  cases hp : polyB E v
  · have e0 : curX E v = 0 := by simp [curX, hp]
    have e1 : curY E v = 0 := by simp [curY, hp]
    rw [e0, e1]; clear e0 e1
    rw [hp] at hcall
    have HC := hide hcall; clear hcall
    go_enter Try.func118, Try.ntmps118
    go_wp2_with fail
    refine HC.out.mono ?_
    rintro e w1 ⟨rfl, hb1⟩
    go_wp2
    go_ret3
    exact ⟨rfl, (hF0.step hb1).1⟩
  have hf := poly_fn hp
  have Hf := hide hf
  have hvl := hv.len
  rw [hp] at hcall
  have HC := hide hcall; clear hcall
  have e0 : curX E v = ((curA E v / Nat.gcd (curA E v) (curD E v) : Nat) : Int) := by simp [curX, hp]
  have e1 : curY E v = ((curD E v / Nat.gcd (curA E v) (curD E v) : Nat) : Int) := by simp [curY, hp]
  rw [e0, e1]; clear e0 e1 hp
  obtain ⟨N, rfl, fo⟩ := FnOk.of hf hv
  clear hf
  obtain ⟨aN, haN⟩ := Int.eq_ofNat_of_zero_le (cur_inv fo N (Nat.le_refl _)).1
  obtain ⟨dN, hdN⟩ := Int.eq_ofNat_of_zero_le (show 0 ≤ (curT v n N).2 by have := cur_inv fo N (Nat.le_refl _); omega)
  have eA : curA N v = aN := by simp [curA, hvl, haN]
  have eD : curD N v = dN := by simp [curD, hvl, hdN]
  have HaN := hide haN
  have HdN := hide hdN
  clear haN hdN
  rw [eA, eD]; clear eA eD hvl
  have HI := hide (fun k (hk : k ≤ N) => cur_inv fo k hk)
  obtain ⟨b, off, rfl, hbb, hc⟩ := hv.all_ fo.n0
  have HCC := hide hc; clear hc
  have hN := fo.hN
  have n32 := fo.n32
  have n0 := fo.n0
  have hfull := p2_full fo.hn
  have HA := hide (fun W => hfull ▸ allOf_any N (some ⟨b, off, none⟩) n c W (by omega))
  clear r0 r1 hfull
  go_enter Try.func118, Try.ntmps118
  go_wp2_with fail
  refine HC.out.mono ?_
  rintro e w1 ⟨rfl, hb1⟩
  have hFB := hF0.step hb1
  obtain ⟨hbel, hz, r0, r1⟩ := hFB.parts
  go_wp2
  clear r0 r1
  go_loopw [5, 6, 16] (fun x y t wr => ∃ k : Nat, k ≤ N ∧ t = .int .i64 k ∧ x = .int .i64 (curT v n k).1 ∧ y = .int .i64 (curT v n k).2 ∧ FB w wr N (some ⟨b, off, none⟩) n c) (fun _ _ t _ => N - (intOf t).toNat)
  case atStart => exact ⟨0, Nat.zero_le _, rfl, rfl, rfl, hFB⟩
  case round =>
    obtain ⟨k, hk, rfl, rfl, rfl, hFBr⟩ := hrel
    obtain ⟨hbelr, hzr, r0, r1⟩ := hFBr.parts
    obtain ⟨q1, q2, q3, q4⟩ := HI.out k hk
    by_cases hlt : k < N
    · have hk40 : k ≤ 40 := by omega
      have pk := fo.p2 hlt
      have c1 : wr.cell? ⟨b, off + p2 k, none⟩ = some (.int .i64 (gv v (p2 k))) := (hbelr.cell (p := ⟨b, off + p2 k, none⟩) hbb).trans (HCC.out _ pk)
      have i1 : (0 : Int) ≤ ((p2 k : Nat) : Int) := by omega
      have i2 : ((p2 k : Nat) : Int) < (n : Int) := by omega
      obtain ⟨g1, g2⟩ := fo.bd pk
      have hstep := hide (show curT v n (k + 1) = if curB v n k (curT v n k).1 (curT v n k).2 then (lostN v n k, gv v (p2 k)) else curT v n k from rfl)
      by_cases hown : gv v (p2 k) ≤ 0
      · have hs := hide (show curT v n (k + 1) = curT v n k by rw [hstep.out, show curB v n k (curT v n k).1 (curT v n k).2 = false by simp [curB]; intro h; omega]; rfl)
        go_wp2
        go_roundw
        case rel => exact ⟨k + 1, by omega, by go_num, by rw [hs.out], by rw [hs.out], hFBr⟩
        case measure => simp [intOf]; omega
      · obtain ⟨l1, l2, l3⟩ := fn_last fo hlt
        obtain ⟨l4, l5⟩ := fn_lastb fo hlt
        have hlast := lastN v n k
        have HG := hide (fun W (h : Ints W (some ⟨b, off, none⟩) n v) => (show gainN v (diffN (n - 1) (p2 k)) k = lastN v n k by unfold gainN lastN; rw [l1, l2]) ▸ gain_any N (some ⟨b, off, none⟩) n c v (diffN (n - 1) (p2 k)) k W h Hf.out (by rw [l1]; omega) (by omega))
        have hvr := hv.below hbelr (Nat.le_refl _)
        have d10 : n - 1 < 1024 := by omega
        have p10 : p2 k < 1024 := by omega
        have t1 : IntKind.i64.wrap (gv v (p2 k) - lastN v n k) = lostN v n k := IntWalk.i64_in _ (by omega)
        have s1 : -4000 ≤ lostN v n k := by unfold lostN; omega
        have s2 : lostN v n k ≤ 4000 := by unfold lostN; omega
        obtain ⟨m1, m2⟩ := prod_bd' s1 s2 q3 q4
        obtain ⟨m3, m4⟩ := prod_bd' (show -4000 ≤ (curT v n k).1 by omega) q2 (show 1 ≤ gv v (p2 k) by omega) g2
        have q0 := wc_cell r0
        have q1' := wc_cell r1
        clear l1 l2 l3 l4 l5 hlast
        by_cases hgt : (curT v n k).1 * gv v (p2 k) < lostN v n k * (curT v n k).2
        · have hs := hide (show curT v n (k + 1) = (lostN v n k, gv v (p2 k)) by rw [hstep.out, show curB v n k (curT v n k).1 (curT v n k).2 = true by simp [curB, hgt]; omega]; rfl)
          generalize (curT v n k).1 = a at *
          generalize (curT v n k).2 = d at *
          go_wp2
          refine region_below (by kernel_rfl) (by kernel_rfl) ?_
          repeat (go_big_quiet_step (first | (go_at_call 149; refine wc_call (HA.out _)) | (go_at_call 197; refine wc_call (HG.out _ (wc_ints hvr _)))))
          refine wpQuiet_nil ?_
          intro _ hw'
          obtain ⟨p, rfl⟩ := hw'
          clear t1
          go_wp2
          go_roundw
          case rel => exact ⟨k + 1, by omega, by go_num, by rw [hs.out], by rw [hs.out], hFBr.step p.below⟩
          case measure => simp [intOf]; omega
        · have hs := hide (show curT v n (k + 1) = curT v n k by rw [hstep.out, show curB v n k (curT v n k).1 (curT v n k).2 = false by simp [curB]; intro h; omega]; rfl)
          generalize hxa : (curT v n k).1 = a at *
          generalize hxd : (curT v n k).2 = d at *
          have Hxa := hide hxa
          have Hxd := hide hxd
          clear hxa hxd
          go_wp2
          refine region_below (by kernel_rfl) (by kernel_rfl) ?_
          repeat (go_big_quiet_step (first | (go_at_call 149; refine wc_call (HA.out _)) | (go_at_call 197; refine wc_call (HG.out _ (wc_ints hvr _)))))
          refine wpQuiet_nil ?_
          intro _ hw'
          obtain ⟨p, rfl⟩ := hw'
          clear t1
          go_wp2
          go_roundw
          case rel => exact ⟨k + 1, by omega, by go_num, by rw [hs.out, Hxa.out], by rw [hs.out, Hxd.out], hFBr.step p.below⟩
          case measure => simp [intOf]; omega
    · obtain rfl : k = N := by omega
      have h5 := HaN.out
      have h6 := HdN.out
      clear HaN HdN HI
      generalize (curT v n k).1 = a at *
      generalize (curT v n k).2 = d at *
      subst h5
      subst h6
      obtain ⟨a, rfl⟩ : ∃ a, a = aN := ⟨_, rfl⟩
      obtain ⟨d, rfl⟩ : ∃ d, d = dN := ⟨_, rfl⟩
      have hg : 0 < Nat.gcd a d := Nat.gcd_pos_of_pos_right _ (by omega)
      go_wp2_with fail
      refine (lowest_any a d _ (by omega) (by omega) hg).mono ?_
      rintro e w2 ⟨rfl, hb2⟩
      go_wp2
      go_ret3
      exact ⟨rfl, (hFBr.step hb2).1⟩
set_option maxHeartbeats 2000000 in
theorem specCurvatureOf_any (E : Int) (A : Option Addr) (n c : Nat) (v : List Int) (w : World) (hv : Ints w A n v) :
    Calls Try.prog 119 #[.agg #[.int .i64 E, .slice A n c]] w fun e w' => e = .returned (.tuple #[.int .i64 (curX E v), .int .i64 (curY E v), .bool (polyB E v)]) ∧ Below w.heap.size w w' := by
  have hF0 := FB.start w E A n c
  obtain ⟨hbel0, hz0, r0, r1⟩ := hF0.parts
  have hcall := specIsPolymatroid_any E A n c v _ (hv.below hbel0 (Nat.le_refl _))
  cases hp : polyB E v
  · have e0 : curX E v = 0 := by simp [curX, hp]
    have e1 : curY E v = 0 := by simp [curY, hp]
    rw [e0, e1]; clear e0 e1
    rw [hp] at hcall
    have HC := hide hcall; clear hcall
    go_enter Try.func119, Try.ntmps119
    go_wp2_with fail
    refine HC.out.mono ?_
    rintro e w1 ⟨rfl, hb1⟩
    go_wp2
    go_ret3
    exact ⟨rfl, (hF0.step hb1).1⟩
  have hf := poly_fn hp
  have Hf := hide hf
  have hvl := hv.len
  rw [hp] at hcall
  have HC := hide hcall; clear hcall
  have e0 : curX E v = ((curA E v / Nat.gcd (curA E v) (curD E v) : Nat) : Int) := by simp [curX, hp]
  have e1 : curY E v = ((curD E v / Nat.gcd (curA E v) (curD E v) : Nat) : Int) := by simp [curY, hp]
  rw [e0, e1]; clear e0 e1
  have hpp := poly_pos hp
  clear hp
  obtain ⟨N, rfl, fo⟩ := FnOk.of hf hv
  clear hf
  obtain ⟨aN, haN⟩ := Int.eq_ofNat_of_zero_le (cur_inv fo N (Nat.le_refl _)).1
  obtain ⟨dN, hdN⟩ := Int.eq_ofNat_of_zero_le (show 0 ≤ (curT v n N).2 by have := cur_inv fo N (Nat.le_refl _); omega)
  have eA : curA N v = aN := by simp [curA, hvl, haN]
  have eD : curD N v = dN := by simp [curD, hvl, hdN]
  have HaN := hide haN
  have HdN := hide hdN
  clear haN hdN
  rw [eA, eD]; clear eA eD
  rw [hvl] at hpp
  have HP := hide hpp
  clear hvl hpp
  have HI := hide (fun k (hk : k ≤ N) => cur_inv fo k hk)
  obtain ⟨b, off, rfl, hbb, hc⟩ := hv.all_ fo.n0
  have HCC := hide hc; clear hc
  have hN := fo.hN
  have n32 := fo.n32
  have n0 := fo.n0
  have hfull := p2_full fo.hn
  have HA := hide (fun W => hfull ▸ l2Full_any N W (by omega))
  clear r0 r1 hfull
  go_enter Try.func119, Try.ntmps119
  go_wp2_with fail
  refine HC.out.mono ?_
  rintro e w1 ⟨rfl, hb1⟩
  have hFB := hF0.step hb1
  obtain ⟨hbel, hz, r0, r1⟩ := hFB.parts
  go_wp2_with fail
  refine (HA.out _).mono ?_
  rintro e w9 ⟨rfl, rfl⟩
  go_wp2
  clear r0 r1
  go_loopw [5, 6, 8] (fun x y t wr => ∃ k : Nat, k ≤ N ∧ t = .int .i64 k ∧ x = .int .i64 (curT v n k).1 ∧ y = .int .i64 (curT v n k).2 ∧ FB w wr N (some ⟨b, off, none⟩) n c) (fun _ _ t _ => N - (intOf t).toNat)
  case atStart => exact ⟨0, Nat.zero_le _, rfl, rfl, rfl, hFB⟩
  case round =>
    obtain ⟨k, hk, rfl, rfl, rfl, hFBr⟩ := hrel
    obtain ⟨hbelr, hzr, r0, r1⟩ := hFBr.parts
    obtain ⟨q1, q2, q3, q4⟩ := HI.out k hk
    by_cases hlt : k < N
    · have hk40 : k ≤ 40 := by omega
      have pk := fo.p2 hlt
      have c1 : wr.cell? ⟨b, off + p2 k, none⟩ = some (.int .i64 (gv v (p2 k))) := (hbelr.cell (p := ⟨b, off + p2 k, none⟩) hbb).trans (HCC.out _ pk)
      have i1 : (0 : Int) ≤ ((p2 k : Nat) : Int) := by omega
      have i2 : ((p2 k : Nat) : Int) < (n : Int) := by omega
      obtain ⟨g1, g2⟩ := fo.bd pk
      have hstep := hide (show curT v n (k + 1) = if curB v n k (curT v n k).1 (curT v n k).2 then (lostN v n k, gv v (p2 k)) else curT v n k from rfl)
      obtain ⟨l1, l2, l3⟩ := fn_last fo hlt
      obtain ⟨l4, l5⟩ := fn_lastb fo hlt
      have c2 : wr.cell? ⟨b, off + (n - 1), none⟩ = some (.int .i64 (gv v (n - 1))) := (hbelr.cell (p := ⟨b, off + (n - 1), none⟩) hbb).trans (HCC.out _ (by omega))
      have c3 : wr.cell? ⟨b, off + (n - 1 - p2 k), none⟩ = some (.int .i64 (gv v (n - 1 - p2 k))) := (hbelr.cell (p := ⟨b, off + (n - 1 - p2 k), none⟩) hbb).trans (HCC.out _ (by omega))
      have hlast := hide (show lostN v n k = gv v (p2 k) - gv v (n - 1) + gv v (n - 1 - p2 k) by unfold lostN lastN; omega)
      have s1 : -4000 ≤ lostN v n k := by unfold lostN; omega
      have s2 : lostN v n k ≤ 4000 := by unfold lostN; omega
      have g3 := fo.bd (s := n - 1) (by omega)
      have g4 := fo.bd (s := n - 1 - p2 k) (by omega)
      have hpos := HP.out _ pk
      have hr := hide (show (((n - 1 : Nat) : Int) - ((p2 k : Nat) : Int)) = ((n - 1 - p2 k : Nat) : Int) by omega)
      generalize hfn : n - 1 = d at *
      have Hfn := hide hfn
      generalize hrn : d - p2 k = r at *
      have Hrn := hide hrn
      have i3 : (0 : Int) ≤ (d : Int) := by omega
      have i4 : (d : Int) < (n : Int) := by omega
      have i5 : (0 : Int) ≤ (r : Int) := by omega
      have i6 : (r : Int) < (n : Int) := by omega
      have t0 : IntKind.i64.wrap ((d : Int) - ((p2 k : Nat) : Int)) = (r : Int) := by rw [← hrn]; rw [IntWalk.i64_in _ (by omega)]; omega
      clear l1 l2 l3 l4 l5 hfn hrn
      have t1 : IntKind.i64.wrap (gv v (p2 k) - gv v d) = gv v (p2 k) - gv v d := IntWalk.i64_in _ (by omega)
      have t2 : IntKind.i64.wrap (gv v (p2 k) - gv v d + gv v r) = lostN v n k := by rw [hlast.out]; exact IntWalk.i64_in _ (by omega)
      by_cases hown : gv v (p2 k) = 0
      · have hs := hide (show curT v n (k + 1) = curT v n k by rw [hstep.out, show curB v n k (curT v n k).1 (curT v n k).2 = false by simp [curB, hown]]; rfl)
        have ho : (gv v (p2 k) == 0) = true := by simp [hown]
        clear hown
        go_wp2
        go_quiet (fail)
        go_wp2
        go_roundw
        case rel => exact ⟨k + 1, by omega, by go_num, by rw [hs.out], by rw [hs.out], hFBr.drewN _⟩
        case measure => simp [intOf]; omega
      · have ho : (gv v (p2 k) == 0) = false := by simp [hown]
        obtain ⟨m1, m2⟩ := prod_bd' s1 s2 q3 q4
        obtain ⟨m3, m4⟩ := prod_bd' (show -4000 ≤ (curT v n k).1 by omega) q2 (show 1 ≤ gv v (p2 k) by omega) g2
        by_cases hgt : (curT v n k).1 * gv v (p2 k) < lostN v n k * (curT v n k).2
        · have hs := hide (show curT v n (k + 1) = (lostN v n k, gv v (p2 k)) by rw [hstep.out, show curB v n k (curT v n k).1 (curT v n k).2 = true by simp [curB, hgt]; omega]; rfl)
          generalize (curT v n k).1 = a at *
          generalize (curT v n k).2 = dd at *
          clear hown
          go_wp2
          go_quiet (fail)
          go_wp2
          go_quiet (fail)
          clear t1 t2 t0
          go_wp2
          go_roundw
          case rel => exact ⟨k + 1, by omega, by go_num, by rw [hs.out], by rw [hs.out], hFBr.drewN _⟩
          case measure => simp [intOf]; omega
        · have hs := hide (show curT v n (k + 1) = curT v n k by rw [hstep.out, show curB v n k (curT v n k).1 (curT v n k).2 = false by simp [curB]; intro h; omega]; rfl)
          generalize hxa : (curT v n k).1 = a at *
          generalize hxd : (curT v n k).2 = dd at *
          have Hxa := hide hxa
          have Hxd := hide hxd
          clear hxa hxd hown
          go_wp2
          go_quiet (fail)
          go_wp2
          go_quiet (fail)
          clear t1 t2 t0
          go_wp2
          go_roundw
          case rel => exact ⟨k + 1, by omega, by go_num, by rw [hs.out, Hxa.out], by rw [hs.out, Hxd.out], hFBr.drewN _⟩
          case measure => simp [intOf]; omega
    · obtain rfl : k = N := by omega
      have h5 := HaN.out
      have h6 := HdN.out
      clear HaN HdN HI
      generalize (curT v n k).1 = a at *
      generalize (curT v n k).2 = d at *
      subst h5
      subst h6
      obtain ⟨a, rfl⟩ : ∃ a, a = aN := ⟨_, rfl⟩
      obtain ⟨d, rfl⟩ : ∃ d, d = dN := ⟨_, rfl⟩
      have hg : 0 < Nat.gcd a d := Nat.gcd_pos_of_pos_right _ (by omega)
      have d1 : wrap64 ((a : Int) / ((Nat.gcd a d : Nat) : Int)) = ((a / Nat.gcd a d : Nat) : Int) := by
        have := Nat.div_le_self a (Nat.gcd a d)
        rw [show (a : Int) / ((Nat.gcd a d : Nat) : Int) = ((a / Nat.gcd a d : Nat) : Int) by norm_cast]
        generalize a / Nat.gcd a d = q at *
        exact IntWalk.wrap64_in _ (by omega)
      have d2 : wrap64 ((d : Int) / ((Nat.gcd a d : Nat) : Int)) = ((d / Nat.gcd a d : Nat) : Int) := by
        have := Nat.div_le_self d (Nat.gcd a d)
        rw [show (d : Int) / ((Nat.gcd a d : Nat) : Int) = ((d / Nat.gcd a d : Nat) : Int) by norm_cast]
        generalize d / Nat.gcd a d = q at *
        exact IntWalk.wrap64_in _ (by omega)
      go_wp2_with fail
      refine (l13Divisor_any a d _ (by omega) (by omega) hg).mono ?_
      rintro e w2 ⟨rfl, rfl⟩
      go_wp2
      go_quiet (fail)
      go_wp2
      go_ret3
      exact ⟨by rw [← d1, ← d2]; rfl, (hFBr.drewN _).1⟩
end Go.Proofs.Ytokeejachclpeaa
namespace Go.Proofs.Ytokeejachclpeaa
open Go.RowKit

/-- Is element e a better one to add to s than b? (b below 0: none yet.) -/
def betT (v : List Int) (s e : Nat) (b : Int) : Bool := decide (b < 0) || decide (gv v (insN s b.toNat) < gv v (insN s e))
/-- The first of the elements below e that adds most to s; -1: none. -/
def pickT (v : List Int) (s : Nat) : Nat → Int
  | 0 => -1
  | e + 1 => if (!hasB s e && betT v s e (pickT v s e)) = true then (e : Int) else pickT v s e
def pickN (v : List Int) (s N : Nat) : Nat := (pickT v s N).toNat
theorem pick_form (v : List Int) (s : Nat) : ∀ e, pickT v s e = -1 ∨ ∃ b : Nat, b < e ∧ pickT v s e = (b : Int)
  | 0 => .inl rfl
  | e + 1 => by
    unfold pickT
    split
    · exact .inr ⟨e, by omega, rfl⟩
    · rcases pick_form v s e with h | ⟨b, hb, h⟩
      · exact .inl h
      · exact .inr ⟨b, by omega, h⟩
theorem pick_some (v : List Int) (s : Nat) : ∀ e, (∃ j, j < e ∧ hasB s j = false) → ∃ b : Nat, b < e ∧ pickT v s e = (b : Int)
  | 0, h => by obtain ⟨j, hj, _⟩ := h; omega
  | e + 1, h => by
    unfold pickT
    split
    · exact ⟨e, by omega, rfl⟩
    · rename_i hn
      rcases pick_form v s e with h1 | ⟨b, hb, h1⟩
      · exfalso
        obtain ⟨j, hj, hh⟩ := h
        by_cases he : j = e
        · subst he
          apply hn
          simp [hh, h1, betT]
        · obtain ⟨b, hb, h2⟩ := pick_some v s e ⟨j, by omega, hh⟩
          omega
      · exact ⟨b, by omega, h1⟩
theorem pop_ins : ∀ s : Fin 32, ∀ k : Fin 5, popN (insN s.val k.val) ≤ popN s.val + 1 := by decide +kernel
theorem pop_room : ∀ N : Fin 6, ∀ s : Fin 32, s.val < 2 ^ N.val → popN s.val < N.val → ∃ j : Fin 5, j.val < N.val ∧ hasB s.val j.val = false := by decide +kernel
/-- The list and the set after j rounds. -/
def grN (v : List Int) (N : Nat) : Nat → List Int × Nat
  | 0 => ([], 0)
  | j + 1 => ((grN v N j).1 ++ [((pickN v (grN v N j).2 N : Nat) : Int)], insN (grN v N j).2 (pickN v (grN v N j).2 N))
theorem gr_pick {v : List Int} {N s j : Nat} (hN : N ≤ 5) (hs : s < 2 ^ N) (hp : popN s ≤ j) (hj : j < N) : pickT v s N = ((pickN v s N : Nat) : Int) ∧ pickN v s N < N := by
  have h32 : (2 : Nat) ^ N ≤ 32 := Nat.pow_le_pow_right (by omega) hN
  obtain ⟨i, hi, hh⟩ := pop_room ⟨N, by omega⟩ ⟨s, by omega⟩ hs (show popN s < N by omega)
  obtain ⟨b, hb, h⟩ := pick_some v s N ⟨i.val, hi, hh⟩
  unfold pickN; rw [h]
  exact ⟨by simp, by simpa using hb⟩
theorem gr_inv (v : List Int) {N : Nat} (hN : N ≤ 5) : ∀ j, j ≤ N → (grN v N j).2 < 2 ^ N ∧ popN (grN v N j).2 ≤ j ∧ (grN v N j).1.length = j
  | 0, _ => ⟨Nat.two_pow_pos N, by simp [grN, popN], rfl⟩
  | j + 1, hj => by
    obtain ⟨h1, h2, h3⟩ := gr_inv v hN j (by omega)
    obtain ⟨h4, h5⟩ := gr_pick (v := v) hN h1 h2 (by omega)
    have h32 : (2 : Nat) ^ N ≤ 32 := Nat.pow_le_pow_right (by omega) hN
    refine ⟨insN_lt h1 h5, ?_, by simp [grN, h3]⟩
    have := pop_ins ⟨(grN v N j).2, by omega⟩ ⟨pickN v (grN v N j).2 N, by omega⟩
    simp only [grN]
    simp only at this
    omega
def grL (E : Int) (v : List Int) (k : Int) : List Int := if bestOk E v k then (grN v E.toNat k.toNat).1 else []
def grV (E : Int) (v : List Int) (k : Int) : Int := if bestOk E v k then gv v (grN v E.toNat k.toNat).2 else 0

set_option maxHeartbeats 4000000 in
theorem greedyOfSize_any (E : Int) (A : Option Addr) (n c : Nat) (v : List Int) (k : Int) (w : World) (hv : Ints w A n v) :
    Calls Try.prog 98 #[.agg #[.int .i64 E, .slice A n c], .int .i64 k] w fun e w' => ∃ B r cr, e = .returned (.tuple #[.slice B r cr, .int .i64 (grV E v k), .bool (bestOk E v k)]) ∧ Own w' w.heap.size B r cr (grL E v k) ∧ r ≤ 1048576 ∧ Below w.heap.size w w' := by
  have hF0 := FB.start w E A n c
  obtain ⟨hbel0, hz0, r0, r1⟩ := hF0.parts
  have hcall := isFunction_any E A n c v _ (hv.below hbel0 (Nat.le_refl _))
  cases hf : isFn E v
  · have e0 : bestOk E v k = false := by simp [bestOk, hf]
    have e1 : grL E v k = [] := by simp [grL, e0]
    have e2 : grV E v k = 0 := by simp [grV, e0]
    rw [e0, e1, e2]; clear e0 e1 e2
    rw [hf] at hcall
    have HC := hide hcall; clear hcall
    go_enter Try.func98, Try.ntmps98
    go_wp2_with fail
    refine HC.out.mono ?_
    rintro e w1 ⟨rfl, hb1⟩
    go_wp2
    go_ret3
    exact ⟨none, 0, 0, rfl, own_nil _ _, by omega, (hF0.step hb1).1⟩
  rw [hf] at hcall
  have HC := hide hcall; clear hcall
  cases hr : inR k 0 E
  · have e0 : bestOk E v k = false := by simp [bestOk, hr]
    have e1 : grL E v k = [] := by simp [grL, e0]
    have e2 : grV E v k = 0 := by simp [grV, e0]
    rw [e0, e1, e2]; clear e0 e1 e2 r0 r1
    go_enter Try.func98, Try.ntmps98
    go_wp2_with fail
    refine HC.out.mono ?_
    rintro e w1 ⟨rfl, hb1⟩
    obtain ⟨hbel, hz, r0, r1⟩ := (hF0.step hb1).parts
    go_wp2_with fail
    refine (within_any _ _ _ _).mono ?_
    rintro e w2 ⟨rfl, rfl⟩
    rw [hr]
    go_wp2
    go_ret3
    exact ⟨none, 0, 0, rfl, own_nil _ _, by omega, hbel⟩
  obtain ⟨K, rfl⟩ : ∃ K : Nat, k = (K : Int) := ⟨k.toNat, by have := inR_true hr; omega⟩
  obtain ⟨N, rfl, fo⟩ := FnOk.of hf hv
  have hKN : K ≤ N := by have := inR_true hr; omega
  have e0 : bestOk N v K = true := by simp [bestOk, hr, hf]
  have e1 : grL N v K = (grN v N K).1 := by simp [grL, e0]
  have e2 : grV N v K = gv v (grN v N K).2 := by simp [grV, e0]
  rw [e0, e1, e2]; clear e0 e1 e2 r0 r1
  have Hf := hide hf
  have Hr := hide hr
  have hle := hv.le
  have n32 := fo.n32
  have hN := fo.hN
  have hnp := hide fo.hn
  have HI := hide (fun j (hj : j ≤ N) => gr_inv v hN j hj)
  clear hf hr
  obtain ⟨b, off, rfl, hbb, hc⟩ := hv.all_ fo.n0
  have HCC := hide hc; clear hc
  go_enter Try.func98, Try.ntmps98
  go_wp2_with fail
  refine HC.out.mono ?_
  rintro e w1 ⟨rfl, hb1⟩
  have hFB := hF0.step hb1
  obtain ⟨hbel, hz, r0, r1⟩ := hFB.parts
  go_wp2_with fail
  refine (within_any _ _ _ _).mono ?_
  rintro e w2 ⟨rfl, rfl⟩
  rw [Hr.out]
  go_wp2
  clear r0 r1
  go_loopw [7, 8, 22] (fun l s i wr => ∃ (j r : Nat) (B : Option Addr) (cr : Nat), j ≤ K ∧ i = .int .i64 j ∧ s = .int .i64 ((grN v N j).2 : Nat) ∧ l = .slice B r cr ∧ Own wr (w.heap.size + 1) B r cr (grN v N j).1 ∧ FB w wr N (some ⟨b, off, none⟩) n c) (fun _ _ i _ => K - (intOf i).toNat)
  case atStart => exact ⟨0, 0, none, 0, Nat.zero_le _, rfl, rfl, rfl, own_nil _ _, hFB⟩
  case round =>
    obtain ⟨j, r, B, cr, hj, rfl, rfl, rfl, hown, hFBr⟩ := hrel
    obtain ⟨hbelr, hzr, r0, r1⟩ := hFBr.parts
    obtain ⟨hs, hpop, hlen⟩ := HI.out j (by omega)
    have hrj : r = j := by rw [← hown.len, hlen]
    subst hrj
    rw [← hnp.out] at hs
    by_cases hlt : r < K
    · have hpk := gr_pick (v := v) hN (s := (grN v N r).2) (by rw [← hnp.out]; exact hs) hpop (by omega)
      have hgs1 := hide (show (grN v N (r + 1)).1 = (grN v N r).1 ++ [((pickN v (grN v N r).2 N : Nat) : Int)] from rfl)
      have hgs2 := hide (show (grN v N (r + 1)).2 = insN (grN v N r).2 (pickN v (grN v N r).2 N) from rfl)
      generalize (grN v N r).1 = L at *
      generalize (grN v N r).2 = s at *
      have hs10 : s < 1024 := by omega
      clear hpop
      have HP := hide hpk; clear hpk
      go_wp2
      clear r0 r1
      go_loopw [9, 26] (fun t i wi => ∃ e : Nat, e ≤ N ∧ i = .int .i64 e ∧ t = .int .i64 (pickT v s e) ∧ Own wi (w.heap.size + 1) B r cr L ∧ FB w wi N (some ⟨b, off, none⟩) n c) (fun _ i _ => N - (intOf i).toNat)
      case atStart => exact ⟨0, Nat.zero_le _, rfl, rfl, hown, hFBr⟩
      case round =>
        obtain ⟨e, he, rfl, rfl, howni, hFBi⟩ := hrel
        obtain ⟨hbeli, hzi, r0, r1⟩ := hFBi.parts
        by_cases hle2 : e < N
        · have hvi : Ints wr (some ⟨b, off, none⟩) n v := hv.below hbeli (Nat.le_refl _)
          have q0 := wc_cell r0
          have q1 := wc_cell r1
          have HG := hide (fun (q : Nat) (W : World) (h : Ints W (some ⟨b, off, none⟩) n v) (hq : q < N) => gain_any N (some ⟨b, off, none⟩) n c v s q W h Hf.out hs (by omega))
          have he40 : e ≤ 40 := by omega
          have hp := pick_form v s e
          have hst := hide (show pickT v s (e + 1) = if (!hasB s e && betT v s e (pickT v s e)) = true then (e : Int) else pickT v s e from rfl)
          cases hh : hasB s e
          · rcases hp with hp | ⟨q, hq, hp⟩
            · have hs2 := hide (hst.out.trans (by rw [hp, hh]; rfl) : pickT v s (e + 1) = (e : Int))
              rw [hp]; clear hp
              go_wp2
              go_quiet (fail)
              go_wp2
              go_roundw
              case rel => exact ⟨e + 1, by omega, by go_num, by rw [hs2.out], howni, hFBi.drewN _⟩
              case measure => simp [intOf]; omega
            · have hb0 : betT v s e (q : Int) = decide (gainN v s q < gainN v s e) := by
                have h0 : ¬ ((q : Int) < 0) := by omega
                rw [Bool.eq_iff_iff]
                simp only [betT, h0, decide_false, Bool.false_or, Int.toNat_natCast, decide_eq_true_eq]
                unfold gainN
                omega
              have hs2 := hide (hst.out.trans (by rw [hp, hh, hb0]; rfl) : pickT v s (e + 1) = if decide (gainN v s q < gainN v s e) = true then (e : Int) else (q : Int))
              rw [hp]; clear hp hb0
              have hqN : q < N := by omega
              have hq0 : decide ((q : Int) < 0) = false := by simp
              by_cases hlt3 : gainN v s q < gainN v s e
              · have hs3 := hide (hs2.out.trans (by simp [hlt3]) : pickT v s (e + 1) = (e : Int))
                go_wp2
                refine region_below (by kernel_rfl) (by kernel_rfl) ?_
                repeat (go_big_quiet_step ((go_at_call 197; refine wc_call (HG.out _ _ (wc_ints hvi _) ?_); assumption)))
                refine wpQuiet_nil ?_
                intro _ hw'
                obtain ⟨p, rfl⟩ := hw'
                go_wp2
                go_roundw
                case rel => exact ⟨e + 1, by omega, by go_num, by rw [hs3.out], howni.below p.below (Nat.le_refl _), hFBi.step p.below⟩
                case measure => simp [intOf]; omega
              · have hs3 := hide (hs2.out.trans (by simp [hlt3]) : pickT v s (e + 1) = (q : Int))
                have hlt4 : decide (gainN v s q < gainN v s e) = false := by simpa using hlt3
                go_wp2
                refine region_below (by kernel_rfl) (by kernel_rfl) ?_
                repeat (go_big_quiet_step ((go_at_call 197; refine wc_call (HG.out _ _ (wc_ints hvi _) ?_); assumption)))
                refine wpQuiet_nil ?_
                intro _ hw'
                obtain ⟨p, rfl⟩ := hw'
                go_wp2
                go_roundw
                case rel => exact ⟨e + 1, by omega, by go_num, by rw [hs3.out], howni.below p.below (Nat.le_refl _), hFBi.step p.below⟩
                case measure => simp [intOf]; omega
          · have hs2 := hide (hst.out.trans (by rw [hh]; rfl) : pickT v s (e + 1) = pickT v s e)
            go_wp2
            go_quiet (fail)
            go_wp2
            go_roundw
            case rel => exact ⟨e + 1, by omega, by go_num, by rw [hs2.out], howni, hFBi.drewN _⟩
            case measure => simp [intOf]; omega
        · obtain rfl : e = N := by omega
          obtain ⟨hp1, hp2⟩ := HP.out
          rw [hp1]
          have hq40 : pickN v s e ≤ 40 := by omega
          generalize pickN v s e = q at *
          clear hp1 hs
          have hsz := hFBi.2.1
          go_wp2_with (refine wpl_app (by rfl) _ _ (by rfl) (w.heap.size + 1) B r cr wr.heap.size L (q : Int) (by rfl) (by rfl) (howni.alloc _) (cell_new wr _) (by omega) (by simp; omega) ?_; intro g cap w4 hown4 hgrow hat hlt4)
          go_roundw
          case rel => exact ⟨r + 1, r + 1, _, cap, by omega, by go_num, by rw [hgs2.out], rfl, by rw [hgs1.out]; exact hown4, app_FB hFBi howni hgrow (Below.refl _ _) rfl⟩
          case measure => simp [intOf]; omega
    · obtain rfl : r = K := by omega
      have c2 : wr.cell? ⟨b, off + (grN v N r).2, none⟩ = some (.int .i64 (gv v (grN v N r).2)) := (hbelr.cell (p := ⟨b, off + (grN v N r).2, none⟩) hbb).trans (HCC.out _ hs)
      have i1 : (0 : Int) ≤ ((grN v N r).2 : Nat) := by omega
      have i2 : (((grN v N r).2 : Nat) : Int) < (n : Int) := by omega
      go_wp2
      go_quiet (fail)
      go_wp2
      go_ret3
      exact ⟨B, r, cr, rfl, (show Own _ _ _ _ _ _ from hown).less (Nat.le_succ _), by omega, (hFBr.drewN nq).1⟩
set_option maxHeartbeats 4000000 in
theorem specGreedyOfSize_any (E : Int) (A : Option Addr) (n c : Nat) (v : List Int) (k : Int) (w : World) (hv : Ints w A n v) :
    Calls Try.prog 99 #[.agg #[.int .i64 E, .slice A n c], .int .i64 k] w fun e w' => ∃ B r cr, e = .returned (.tuple #[.slice B r cr, .int .i64 (grV E v k), .bool (bestOk E v k)]) ∧ Own w' w.heap.size B r cr (grL E v k) ∧ r ≤ 1048576 ∧ Below w.heap.size w w' := by
  have hF0 := FB.start w E A n c
  obtain ⟨hbel0, hz0, r0, r1⟩ := hF0.parts
  have hcall := specIsFunction_any E A n c v _ (hv.below hbel0 (Nat.le_refl _))
  cases hf : isFn E v
  · have e0 : bestOk E v k = false := by simp [bestOk, hf]
    have e1 : grL E v k = [] := by simp [grL, e0]
    have e2 : grV E v k = 0 := by simp [grV, e0]
    rw [e0, e1, e2]; clear e0 e1 e2
    rw [hf] at hcall
    have HC := hide hcall; clear hcall
    go_enter Try.func99, Try.ntmps99
    go_wp2_with fail
    refine HC.out.mono ?_
    rintro e w1 ⟨rfl, hb1⟩
    go_wp2
    go_ret3
    have hF1 := hF0.step hb1
    exact ⟨_, 0, 0, rfl, (own_none _).less (Nat.le_of_lt hF1.2.1), by omega, (hF1.step ((Below.refl _ _).alloc (Nat.le_refl _) _)).1⟩
  rw [hf] at hcall
  have HC := hide hcall; clear hcall
  cases hr : inR k 0 E
  · have e0 : bestOk E v k = false := by simp [bestOk, hr]
    have e1 : grL E v k = [] := by simp [grL, e0]
    have e2 : grV E v k = 0 := by simp [grV, e0]
    rw [e0, e1, e2]; clear e0 e1 e2 r0 r1
    go_enter Try.func99, Try.ntmps99
    go_wp2_with fail
    refine HC.out.mono ?_
    rintro e w1 ⟨rfl, hb1⟩
    have hF1 := hF0.step hb1
    obtain ⟨hbel, hz, r0, r1⟩ := hF1.parts
    go_wp2_with fail
    refine (l1In_any _ _ _ _).mono ?_
    rintro e w2 ⟨rfl, rfl⟩
    rw [hr]
    go_wp2
    go_ret3
    exact ⟨_, 0, 0, rfl, (own_none _).less (Nat.le_of_lt hF1.2.1), by omega, (hF1.step ((Below.refl _ _).alloc (Nat.le_refl _) _)).1⟩
  obtain ⟨K, rfl⟩ : ∃ K : Nat, k = (K : Int) := ⟨k.toNat, by have := inR_true hr; omega⟩
  obtain ⟨N, rfl, fo⟩ := FnOk.of hf hv
  have hKN : K ≤ N := by have := inR_true hr; omega
  have e0 : bestOk N v K = true := by simp [bestOk, hr, hf]
  have e1 : grL N v K = (grN v N K).1 := by simp [grL, e0]
  have e2 : grV N v K = gv v (grN v N K).2 := by simp [grV, e0]
  rw [e0, e1, e2]; clear e0 e1 e2 r0 r1
  have Hf := hide hf
  have Hr := hide hr
  have hle := hv.le
  have n32 := fo.n32
  have hN := fo.hN
  have hnp := hide fo.hn
  have HI := hide (fun j (hj : j ≤ N) => gr_inv v hN j hj)
  clear hf hr
  obtain ⟨b, off, rfl, hbb, hc⟩ := hv.all_ fo.n0
  have HCC := hide hc; clear hc
  go_enter Try.func99, Try.ntmps99
  go_wp2_with fail
  refine HC.out.mono ?_
  rintro e w1 ⟨rfl, hb1⟩
  have hFB := hF0.step hb1
  obtain ⟨hbel, hz, r0, r1⟩ := hFB.parts
  go_wp2_with fail
  refine (l1In_any _ _ _ _).mono ?_
  rintro e w2 ⟨rfl, rfl⟩
  rw [Hr.out]
  go_wp2
  clear r0 r1
  have hFB0 := hFB.step ((Below.refl _ _).alloc (Nat.le_refl _) (.cells #[] 3))
  have hOwn0 := (own_none w1).less hz
  clear hFB hb1 hbel HC
  go_loopw [7, 8] (fun l s wr => ∃ (r : Nat) (B : Option Addr) (cr : Nat), r ≤ K ∧ s = .int .i64 ((grN v N r).2 : Nat) ∧ l = .slice B r cr ∧ Own wr (w.heap.size + 1) B r cr (grN v N r).1 ∧ FB w wr N (some ⟨b, off, none⟩) n c) (fun l _ _ => K - (match l with | .slice _ r _ => r | _ => 0))
  case atStart => exact ⟨0, _, 0, Nat.zero_le _, rfl, rfl, hOwn0, hFB0⟩
  clear hOwn0 hFB0
  case round =>
    obtain ⟨r, B, cr, hj, rfl, rfl, hown, hFBr⟩ := hrel
    obtain ⟨hbelr, hzr, r0, r1⟩ := hFBr.parts
    obtain ⟨hs, hpop, hlen⟩ := HI.out r (by omega)
    rw [← hnp.out] at hs
    by_cases hlt : r < K
    · have hpk := gr_pick (v := v) hN (s := (grN v N r).2) (by rw [← hnp.out]; exact hs) hpop (by omega)
      have hgs1 := hide (show (grN v N (r + 1)).1 = (grN v N r).1 ++ [((pickN v (grN v N r).2 N : Nat) : Int)] from rfl)
      have hgs2 := hide (show (grN v N (r + 1)).2 = insN (grN v N r).2 (pickN v (grN v N r).2 N) from rfl)
      generalize (grN v N r).1 = L at *
      generalize (grN v N r).2 = s at *
      have hs10 : s < 1024 := by omega
      clear hpop
      have HP := hide hpk; clear hpk
      go_wp2
      clear r0 r1
      go_loopw [9, 10] (fun t i wi => ∃ e : Nat, e ≤ N ∧ i = .int .i64 e ∧ t = .int .i64 (pickT v s e) ∧ Own wi (w.heap.size + 1) B r cr L ∧ FB w wi N (some ⟨b, off, none⟩) n c) (fun _ i _ => N - (intOf i).toNat)
      case atStart => exact ⟨0, Nat.zero_le _, rfl, rfl, hown, hFBr⟩
      case round =>
        obtain ⟨e, he, rfl, rfl, howni, hFBi⟩ := hrel
        obtain ⟨hbeli, hzi, r0, r1⟩ := hFBi.parts
        by_cases hle2 : e < N
        · have he40 : e ≤ 40 := by omega
          have hie := fo.ins hs hle2
          have c1 : wr.cell? ⟨b, off + insN s e, none⟩ = some (.int .i64 (gv v (insN s e))) := (hbeli.cell (p := ⟨b, off + insN s e, none⟩) hbb).trans (HCC.out _ hie)
          have i1 : (0 : Int) ≤ ((insN s e : Nat) : Int) := by omega
          have i2 : ((insN s e : Nat) : Int) < (n : Int) := by omega
          have hp := pick_form v s e
          have hst := hide (show pickT v s (e + 1) = if (!hasB s e && betT v s e (pickT v s e)) = true then (e : Int) else pickT v s e from rfl)
          have HB := hide hbeli; clear hbeli
          cases hh : hasB s e
          · rcases hp with hp | ⟨q, hq, hp⟩
            · have hs2 := hide (hst.out.trans (by rw [hp, hh]; rfl) : pickT v s (e + 1) = (e : Int))
              rw [hp]; clear hp
              go_wp2
              go_quiet (fail)
              go_wp2
              go_roundw
              case rel => exact ⟨e + 1, by omega, by go_num, by rw [hs2.out], howni, hFBi.drewN _⟩
              case measure => simp [intOf]; omega
            · have hb0 : betT v s e (q : Int) = decide (gv v (insN s q) < gv v (insN s e)) := by
                have h0 : ¬ ((q : Int) < 0) := by omega
                simp only [betT, h0, decide_false, Bool.false_or, Int.toNat_natCast]
              have hs2 := hide (hst.out.trans (by rw [hp, hh, hb0]; rfl) : pickT v s (e + 1) = if decide (gv v (insN s q) < gv v (insN s e)) = true then (e : Int) else (q : Int))
              rw [hp]; clear hp hb0
              have hqN : q < N := by omega
              have hiq := fo.ins hs hqN
              have hq40 : q ≤ 40 := by omega
              have c2 : wr.cell? ⟨b, off + insN s q, none⟩ = some (.int .i64 (gv v (insN s q))) := (HB.out.cell (p := ⟨b, off + insN s q, none⟩) hbb).trans (HCC.out _ hiq)
              have i3 : (0 : Int) ≤ ((insN s q : Nat) : Int) := by omega
              have i4 : ((insN s q : Nat) : Int) < (n : Int) := by omega
              have hq0 : decide ((q : Int) < 0) = false := by simp
              by_cases hlt3 : gv v (insN s q) < gv v (insN s e)
              · have hs3 := hide (hs2.out.trans (by simp [hlt3]) : pickT v s (e + 1) = (e : Int))
                go_wp2
                go_quiet (fail)
                go_wp2
                go_roundw
                case rel => exact ⟨e + 1, by omega, by go_num, by rw [hs3.out], howni, hFBi.drewN _⟩
                case measure => simp [intOf]; omega
              · have hs3 := hide (hs2.out.trans (by simp [hlt3]) : pickT v s (e + 1) = (q : Int))
                have hlt4 : decide (gv v (insN s q) < gv v (insN s e)) = false := by simpa using hlt3
                go_wp2
                go_quiet (fail)
                go_wp2
                go_roundw
                case rel => exact ⟨e + 1, by omega, by go_num, by rw [hs3.out], howni, hFBi.drewN _⟩
                case measure => simp [intOf]; omega
          · have hs2 := hide (hst.out.trans (by rw [hh]; rfl) : pickT v s (e + 1) = pickT v s e)
            go_wp2
            go_quiet (fail)
            go_wp2
            go_roundw
            case rel => exact ⟨e + 1, by omega, by go_num, by rw [hs2.out], howni, hFBi.drewN _⟩
            case measure => simp [intOf]; omega
        · obtain rfl : e = N := by omega
          obtain ⟨hp1, hp2⟩ := HP.out
          rw [hp1]
          have hq40 : pickN v s e ≤ 40 := by omega
          generalize pickN v s e = q at *
          clear hp1 hs
          have hsz := hFBi.2.1
          go_wp2_with (refine wpl_app (by rfl) _ _ (by rfl) (w.heap.size + 1) B r cr wr.heap.size L (q : Int) (by rfl) (by rfl) (howni.alloc _) (cell_new wr _) (by omega) (by simp; omega) ?_; intro g cap w4 hown4 hgrow hat hlt4)
          go_roundw
          case rel => exact ⟨r + 1, _, cap, by omega, by rw [hgs2.out], rfl, by rw [hgs1.out]; exact hown4, app_FB hFBi howni hgrow (Below.refl _ _) rfl⟩
          case measure => simp; omega
    · obtain rfl : r = K := by omega
      have c2 : wr.cell? ⟨b, off + (grN v N r).2, none⟩ = some (.int .i64 (gv v (grN v N r).2)) := (hbelr.cell (p := ⟨b, off + (grN v N r).2, none⟩) hbb).trans (HCC.out _ hs)
      have i1 : (0 : Int) ≤ ((grN v N r).2 : Nat) := by omega
      have i2 : (((grN v N r).2 : Nat) : Int) < (n : Int) := by omega
      go_wp2
      go_quiet (fail)
      go_wp2
      go_ret3
      exact ⟨B, r, cr, rfl, (show Own _ _ _ _ _ _ from hown).less (Nat.le_succ _), by omega, (hFBr.drewN nq).1⟩
end Go.Proofs.Ytokeejachclpeaa
namespace Go.Proofs.Ytokeejachclpeaa
open Go.RowKit

/-- b times itself, n times. -/
def pw (b : Int) : Nat → Int
  | 0 => 1
  | j + 1 => pw b j * b
theorem pw_bds : ∀ q : Fin 7, ∀ j : Fin 6, -3125 ≤ pw ((q.val : Int) - 1) j.val ∧ pw ((q.val : Int) - 1) j.val ≤ 3125 := by decide +kernel
theorem pw_bd {b : Int} {j : Nat} (h1 : -1 ≤ b) (h2 : b ≤ 5) (hj : j ≤ 5) : -3125 ≤ pw b j ∧ pw b j ≤ 3125 := by
  have h := pw_bds ⟨(b + 1).toNat, by omega⟩ ⟨j, by omega⟩
  simp only [Int.toNat_of_nonneg (show 0 ≤ b + 1 by omega), Int.add_sub_cancel] at h
  exact h
theorem prod_abs {x y l q : Int} (h1 : -l ≤ x) (h2 : x ≤ l) (h3 : -q ≤ y) (h4 : y ≤ q) : -(l * q) ≤ x * y ∧ x * y ≤ l * q := by
  have a : (x * y).natAbs ≤ l.natAbs * q.natAbs := by
    rw [Int.natAbs_mul]; exact Nat.mul_le_mul (by omega) (by omega)
  have hl : 0 ≤ l := by omega
  have hq : 0 ≤ q := by omega
  have e : ((l.natAbs * q.natAbs : Nat) : Int) = l * q := by
    rw [Int.natCast_mul, Int.natAbs_of_nonneg hl, Int.natAbs_of_nonneg hq]
  omega
theorem best_bd {N n : Nat} {v : List Int} (fo : FnOk N n v) (k : Int) : -1000 ≤ gv v (bestN (sizeP k) v n) ∧ gv v (bestN (sizeP k) v n) ≤ 1000 := fo.bd (bestN_lt _ _ _ fo.n0)
def gr1 (v : List Int) (N K : Nat) : Int := gv v (grN v N K).2
theorem gr_bd {N n : Nat} {v : List Int} (fo : FnOk N n v) {K : Nat} (hK : K ≤ N) : -1000 ≤ gr1 v N K ∧ gr1 v N K ≤ 1000 := by
  have h := (gr_inv v fo.hN K hK).1
  rw [← fo.hn] at h
  exact fo.bd h
def best1 (v : List Int) (n K : Nat) : Int := gv v (bestN (sizeP K) v n)
def reachB (E : Int) (v : List Int) (k : Int) : Bool := polyB E v && (bestOk E v k && decide ((best1 v v.length k.toNat - gr1 v E.toNat k.toNat) * pw k k.toNat ≤ best1 v v.length k.toNat * pw (k - 1) k.toNat))
def ratOk (E : Int) (v : List Int) (k : Int) : Bool := polyB E v && bestOk E v k
def ratA (E : Int) (v : List Int) (k : Int) : Int := if ratOk E v k then (if best1 v v.length k.toNat = 0 then 1 else (((gr1 v E.toNat k.toNat).toNat / Nat.gcd (gr1 v E.toNat k.toNat).toNat (best1 v v.length k.toNat).toNat : Nat) : Int)) else 0
def ratB (E : Int) (v : List Int) (k : Int) : Int := if ratOk E v k then (if best1 v v.length k.toNat = 0 then 1 else (((best1 v v.length k.toNat).toNat / Nat.gcd (gr1 v E.toNat k.toNat).toNat (best1 v v.length k.toNat).toNat : Nat) : Int)) else 0
theorem best_parts {E : Int} {v : List Int} {k : Int} (h : bestOk E v k = true) : isFn E v = true ∧ 0 ≤ k ∧ k ≤ E := by
  simp only [bestOk, Bool.and_eq_true] at h
  exact ⟨h.1, inR_true h.2⟩

theorem power_any (b : Int) (n : Nat) (w : World) (h1 : -1 ≤ b) (h2 : b ≤ 5) (hn : n ≤ 5) :
    Calls Try.prog 201 #[.int .i64 b, .int .i64 (n : Int)] w fun e w' => e = .returned (.int .i64 (pw b n)) ∧ w = w' := by
  go_enter Try.func201, Try.ntmps201
  go_wp2
  go_loop [5, 7] (fun p t => ∃ j : Nat, j ≤ n ∧ t = .int .i64 j ∧ p = .int .i64 (pw b j)) (fun _ t => n - (intOf t).toNat)
  case atStart => exact ⟨0, Nat.zero_le _, rfl, rfl⟩
  case round =>
    obtain ⟨j, hj, rfl, rfl⟩ := hrel
    by_cases hlt : j < n
    · have hs := hide (show pw b (j + 1) = pw b j * b from rfl)
      have hb := pw_bd (b := b) (j := j + 1) h1 h2 (by omega)
      have t1 := hide (show wrap64 (pw b j * b) = pw b j * b from IntWalk.wrap64_in _ (by have := hs.out; omega))
      clear hb
      go_wp2
      go_round
      case rel => exact ⟨j + 1, by omega, by go_num, by rw [hs.out, t1.out]⟩
      case measure => simp [intOf]; omega
    · obtain rfl : j = n := by omega
      go_wp2
      go_ret
      exact ⟨rfl, rfl⟩
set_option maxHeartbeats 2000000 in
theorem greedyReaches_any (E : Int) (A : Option Addr) (n c : Nat) (v : List Int) (k : Int) (w : World) (hv : Ints w A n v) :
    Calls Try.prog 102 #[.agg #[.int .i64 E, .slice A n c], .int .i64 k] w fun e w' => e = .returned (.bool (reachB E v k)) ∧ Below w.heap.size w w' := by
  have hF0 := FB.start w E A n c
  obtain ⟨hbel0, hz0, r0, r1⟩ := hF0.parts
  have hcall := isPolymatroid_any E A n c v _ (hv.below hbel0 (Nat.le_refl _))
  cases hp : polyB E v
  · have e0 : reachB E v k = false := by simp [reachB, hp]
    rw [e0]; clear e0
    rw [hp] at hcall
    have HC := hide hcall; clear hcall
    go_enter Try.func102, Try.ntmps102
    go_wp2_with fail
    refine HC.out.mono ?_
    rintro e w1 ⟨rfl, hb1⟩
    go_wp2
    go_ret
    exact ⟨rfl, (hF0.step hb1).1⟩
  rw [hp] at hcall
  have HC := hide hcall; clear hcall
  have HB := hide (fun W (h : Below w.heap.size w W) => bestOfSize_any E A n c v k W (hv.below h (Nat.le_refl _)))
  have HG := hide (fun W (h : Below w.heap.size w W) => greedyOfSize_any E A n c v k W (hv.below h (Nat.le_refl _)))
  cases hk : bestOk E v k
  · have e0 : reachB E v k = false := by simp [reachB, hk]
    rw [e0]; clear e0
    rw [hk] at HB HG
    clear hk
    go_enter Try.func102, Try.ntmps102
    go_wp2_with fail
    refine HC.out.mono ?_
    rintro e w1 ⟨rfl, hb1⟩
    have hF1 := hF0.step hb1
    clear r0 r1
    obtain ⟨hbel1, hz1, r0, r1⟩ := hF1.parts
    go_wp2_with fail
    refine (HB.out _ hbel1).mono ?_
    rintro e w2 ⟨rfl, hb2⟩
    have hF2 := hF1.step hb2
    clear r0 r1
    obtain ⟨hbel2, hz2, r0, r1⟩ := hF2.parts
    go_wp2_with fail
    refine (HG.out _ hbel2).mono ?_
    rintro e w3 ⟨B, r, cr, rfl, hown, hr, hb3⟩
    have hF3 := hF2.step hb3
    go_wp2
    go_ret
    exact ⟨rfl, hF3.1⟩
  obtain ⟨hf, hk0, hkE⟩ := best_parts hk
  have hvl := hv.len
  obtain ⟨N, rfl, fo⟩ := FnOk.of hf hv
  obtain ⟨K, rfl⟩ := Int.eq_ofNat_of_zero_le hk0
  have hKN : K ≤ N := by omega
  have hN := fo.hN
  have e1 : bestV N v K = best1 v n K := by simp [bestV, hk, hvl, best1]
  have e2 : grV N v K = gr1 v N K := by simp [grV, hk, gr1]
  have e0 : reachB N v K = decide ((best1 v n K - gr1 v N K) * pw K K ≤ best1 v n K * pw ((K : Int) - 1) K) := by simp [reachB, hp, hk, hvl]
  rw [e0]; clear e0
  rw [e1, hk] at HB
  rw [e2, hk] at HG
  have b1 : -1000 ≤ best1 v n K ∧ best1 v n K ≤ 1000 := best_bd fo K
  have b2 := gr_bd fo hKN
  have b3 := pw_bd (b := K) (j := K) (by omega) (by omega) (by omega)
  have b4 := pw_bd (b := (K : Int) - 1) (j := K) (by omega) (by omega) (by omega)
  have HP1 := hide (fun W => power_any (K : Int) K W (by omega) (by omega) (by omega))
  have HP2 := hide (fun W => power_any ((K : Int) - 1) K W (by omega) (by omega) (by omega))
  clear e1 e2 hk hp hf hvl
  generalize best1 v n K = X at *
  generalize gr1 v N K = Y at *
  generalize pw (K : Int) K = Z at *
  generalize pw ((K : Int) - 1) K = U at *
  have m1 := prod_abs (l := 2000) (q := 3125) (show -2000 ≤ X - Y by omega) (by omega) b3.1 b3.2
  have m2 := prod_abs (l := 1000) (q := 3125) b1.1 b1.2 b4.1 b4.2
  have t1 : wrap64 (X - Y) = X - Y := IntWalk.wrap64_in _ (by omega)
  have t2 : wrap64 ((X - Y) * Z) = (X - Y) * Z := IntWalk.wrap64_in _ (by omega)
  have t3 : wrap64 (X * U) = X * U := IntWalk.wrap64_in _ (by omega)
  have t4 : wrap64 ((K : Int) - 1) = (K : Int) - 1 := IntWalk.wrap64_in _ (by omega)
  go_enter Try.func102, Try.ntmps102
  go_wp2_with fail
  refine HC.out.mono ?_
  rintro e w1 ⟨rfl, hb1⟩
  have hF1 := hF0.step hb1
  clear r0 r1
  obtain ⟨hbel1, hz1, r0, r1⟩ := hF1.parts
  go_wp2_with fail
  refine (HB.out _ hbel1).mono ?_
  rintro e w2 ⟨rfl, hb2⟩
  have hF2 := hF1.step hb2
  clear r0 r1
  obtain ⟨hbel2, hz2, r0, r1⟩ := hF2.parts
  go_wp2_with fail
  refine (HG.out _ hbel2).mono ?_
  rintro e w3 ⟨B, r, cr, rfl, hown, hr, hb3⟩
  have hF3 := hF2.step hb3
  go_wp2_with fail
  refine (HP1.out _).mono ?_
  rintro e w4 ⟨rfl, rfl⟩
  go_wp2_with fail
  refine (HP2.out _).mono ?_
  rintro e w4 ⟨rfl, rfl⟩
  go_wp2
  go_ret
  exact ⟨rfl, hF3.1⟩
set_option maxHeartbeats 2000000 in
theorem specGreedyReaches_any (E : Int) (A : Option Addr) (n c : Nat) (v : List Int) (k : Int) (w : World) (hv : Ints w A n v) :
    Calls Try.prog 103 #[.agg #[.int .i64 E, .slice A n c], .int .i64 k] w fun e w' => e = .returned (.bool (reachB E v k)) ∧ Below w.heap.size w w' := by
  have hF0 := FB.start w E A n c
  obtain ⟨hbel0, hz0, r0, r1⟩ := hF0.parts
  have HB := hide (fun W (h : Below w.heap.size w W) => specBestOfSize_any E A n c v k W (hv.below h (Nat.le_refl _)))
  have HG := hide (fun W (h : Below w.heap.size w W) => specGreedyOfSize_any E A n c v k W (hv.below h (Nat.le_refl _)))
  have HC := hide (fun W (h : Below w.heap.size w W) => specIsPolymatroid_any E A n c v W (hv.below h (Nat.le_refl _)))
  cases hk : bestOk E v k
  · have e0 : reachB E v k = false := by simp [reachB, hk]
    rw [e0]; clear e0
    rw [hk] at HB HG
    clear hk
    go_enter Try.func103, Try.ntmps103
    go_wp2_with fail
    refine (HB.out _ hbel0).mono ?_
    rintro e w2 ⟨rfl, hb2⟩
    have hF2 := hF0.step hb2
    clear r0 r1
    obtain ⟨hbel2, hz2, r0, r1⟩ := hF2.parts
    go_wp2_with fail
    refine (HG.out _ hbel2).mono ?_
    rintro e w3 ⟨B, r, cr, rfl, hown, hr, hb3⟩
    have hF3 := hF2.step hb3
    go_wp2
    go_ret
    exact ⟨rfl, hF3.1⟩
  cases hp : polyB E v
  · have e0 : reachB E v k = false := by simp [reachB, hp]
    rw [e0]; clear e0
    rw [hk] at HB HG
    rw [hp] at HC
    clear hk hp
    go_enter Try.func103, Try.ntmps103
    go_wp2_with fail
    refine (HB.out _ hbel0).mono ?_
    rintro e w2 ⟨rfl, hb2⟩
    have hF2 := hF0.step hb2
    clear r0 r1
    obtain ⟨hbel2, hz2, r0, r1⟩ := hF2.parts
    go_wp2_with fail
    refine (HG.out _ hbel2).mono ?_
    rintro e w3 ⟨B, r, cr, rfl, hown, hr, hb3⟩
    have hF3 := hF2.step hb3
    clear r0 r1
    obtain ⟨hbel3, hz3, r0, r1⟩ := hF3.parts
    go_wp2_with fail
    refine (HC.out _ hbel3).mono ?_
    rintro e w4 ⟨rfl, hb4⟩
    go_wp2
    go_ret
    exact ⟨rfl, (hF3.step hb4).1⟩
  obtain ⟨hf, hk0, hkE⟩ := best_parts hk
  have hvl := hv.len
  obtain ⟨N, rfl, fo⟩ := FnOk.of hf hv
  obtain ⟨K, rfl⟩ := Int.eq_ofNat_of_zero_le hk0
  have hKN : K ≤ N := by omega
  have hN := fo.hN
  have e1 : bestV N v K = best1 v n K := by simp [bestV, hk, hvl, best1]
  have e2 : grV N v K = gr1 v N K := by simp [grV, hk, gr1]
  have e0 : reachB N v K = decide ((best1 v n K - gr1 v N K) * pw K K ≤ best1 v n K * pw ((K : Int) - 1) K) := by simp [reachB, hp, hk, hvl]
  rw [e0]; clear e0
  rw [e1, hk] at HB
  rw [e2, hk] at HG
  rw [hp] at HC
  have b1 : -1000 ≤ best1 v n K ∧ best1 v n K ≤ 1000 := best_bd fo K
  have b2 := gr_bd fo hKN
  have b3 := hide (fun j (hj : j ≤ 5) => pw_bd (b := K) (j := j) (by omega) (by omega) hj)
  have b4 := hide (fun j (hj : j ≤ 5) => pw_bd (b := (K : Int) - 1) (j := j) (by omega) (by omega) hj)
  clear e1 e2 hk hp hf hvl
  generalize best1 v n K = X at *
  generalize gr1 v N K = Y at *
  have m1 := prod_abs (l := 2000) (q := 3125) (show -2000 ≤ X - Y by omega) (by omega) (b3.out K (by omega)).1 (b3.out K (by omega)).2
  have m2 := prod_abs (l := 1000) (q := 3125) b1.1 b1.2 (b4.out K (by omega)).1 (b4.out K (by omega)).2
  have t1 : wrap64 (X - Y) = X - Y := IntWalk.wrap64_in _ (by omega)
  have t2 : wrap64 ((X - Y) * pw K K) = (X - Y) * pw K K := IntWalk.wrap64_in _ (by omega)
  have t3 : wrap64 (X * pw ((K : Int) - 1) K) = X * pw ((K : Int) - 1) K := IntWalk.wrap64_in _ (by omega)
  have t4 : wrap64 ((K : Int) - 1) = (K : Int) - 1 := IntWalk.wrap64_in _ (by omega)
  have T2 := hide t2
  have T3 := hide t3
  clear t2 t3 m1 m2
  go_enter Try.func103, Try.ntmps103
  go_wp2_with fail
  refine (HB.out _ hbel0).mono ?_
  rintro e w2 ⟨rfl, hb2⟩
  have hF2 := hF0.step hb2
  clear r0 r1
  obtain ⟨hbel2, hz2, r0, r1⟩ := hF2.parts
  go_wp2_with fail
  refine (HG.out _ hbel2).mono ?_
  rintro e w3 ⟨B, r, cr, rfl, hown, hr, hb3⟩
  have hF3 := hF2.step hb3
  clear r0 r1
  obtain ⟨hbel3, hz3, r0, r1⟩ := hF3.parts
  go_wp2_with fail
  refine (HC.out _ hbel3).mono ?_
  rintro e w4 ⟨rfl, hb4⟩
  have hF4 := hF3.step hb4
  clear r0 r1
  go_wp2
  go_loop [11, 12, 13] (fun p q t => ∃ j : Nat, j ≤ K ∧ t = .int .i64 j ∧ p = .int .i64 (pw K j) ∧ q = .int .i64 (pw ((K : Int) - 1) j)) (fun _ _ t => K - (intOf t).toNat)
  case atStart => exact ⟨0, Nat.zero_le _, rfl, rfl, rfl⟩
  case round =>
    obtain ⟨j, hj, rfl, rfl, rfl⟩ := hrel
    by_cases hlt : j < K
    · have hs1 := hide (show pw (K : Int) (j + 1) = pw K j * K from rfl)
      have hs2 := hide (show pw ((K : Int) - 1) (j + 1) = pw ((K : Int) - 1) j * ((K : Int) - 1) from rfl)
      have u1 := hide (show wrap64 (pw K j * K) = pw K j * K from IntWalk.wrap64_in _ (by have := hs1.out; have := b3.out (j + 1) (by omega); omega))
      have u2 := hide (show wrap64 (pw ((K : Int) - 1) j * ((K : Int) - 1)) = pw ((K : Int) - 1) j * ((K : Int) - 1) from IntWalk.wrap64_in _ (by have := hs2.out; have := b4.out (j + 1) (by omega); omega))
      go_wp2
      go_round
      case rel => exact ⟨j + 1, by omega, by go_num, by rw [hs1.out, u1.out], by rw [hs2.out, u2.out]⟩
      case measure => simp [intOf]; omega
    · obtain rfl : j = K := by omega
      have t2 := T2.out
      have t3 := T3.out
      go_wp2
      go_ret
      exact ⟨rfl, hF4.1⟩
set_option maxHeartbeats 2000000 in
theorem ratioOf_any (E : Int) (A : Option Addr) (n c : Nat) (v : List Int) (k : Int) (w : World) (hv : Ints w A n v) :
    Calls Try.prog 122 #[.agg #[.int .i64 E, .slice A n c], .int .i64 k] w fun e w' => e = .returned (.tuple #[.int .i64 (ratA E v k), .int .i64 (ratB E v k), .bool (ratOk E v k)]) ∧ Below w.heap.size w w' := by
  have hF0 := FB.start w E A n c
  obtain ⟨hbel0, hz0, r0, r1⟩ := hF0.parts
  have HB := hide (fun W (h : Below w.heap.size w W) => bestOfSize_any E A n c v k W (hv.below h (Nat.le_refl _)))
  have HG := hide (fun W (h : Below w.heap.size w W) => greedyOfSize_any E A n c v k W (hv.below h (Nat.le_refl _)))
  have HC := hide (fun W (h : Below w.heap.size w W) => isPolymatroid_any E A n c v W (hv.below h (Nat.le_refl _)))
  cases hk : bestOk E v k
  · have e0 : ratOk E v k = false := by simp [ratOk, hk]
    have e1 : ratA E v k = 0 := by simp [ratA, e0]
    have e2 : ratB E v k = 0 := by simp [ratB, e0]
    rw [e0, e1, e2]; clear e0 e1 e2
    rw [hk] at HB HG
    clear hk
    go_enter Try.func122, Try.ntmps122
    go_wp2_with fail
    refine (HB.out _ hbel0).mono ?_
    rintro e w2 ⟨rfl, hb2⟩
    have hF2 := hF0.step hb2
    clear r0 r1
    obtain ⟨hbel2, hz2, r0, r1⟩ := hF2.parts
    go_wp2_with fail
    refine (HG.out _ hbel2).mono ?_
    rintro e w3 ⟨B, r, cr, rfl, hown, hr, hb3⟩
    have hF3 := hF2.step hb3
    go_wp2
    go_ret3
    exact ⟨rfl, hF3.1⟩
  cases hp : polyB E v
  · have e0 : ratOk E v k = false := by simp [ratOk, hp]
    have e1 : ratA E v k = 0 := by simp [ratA, e0]
    have e2 : ratB E v k = 0 := by simp [ratB, e0]
    rw [e0, e1, e2]; clear e0 e1 e2
    rw [hk] at HB HG
    rw [hp] at HC
    clear hk hp
    go_enter Try.func122, Try.ntmps122
    go_wp2_with fail
    refine (HB.out _ hbel0).mono ?_
    rintro e w2 ⟨rfl, hb2⟩
    have hF2 := hF0.step hb2
    clear r0 r1
    obtain ⟨hbel2, hz2, r0, r1⟩ := hF2.parts
    go_wp2_with fail
    refine (HG.out _ hbel2).mono ?_
    rintro e w3 ⟨B, r, cr, rfl, hown, hr, hb3⟩
    have hF3 := hF2.step hb3
    clear r0 r1
    obtain ⟨hbel3, hz3, r0, r1⟩ := hF3.parts
    go_wp2_with fail
    refine (HC.out _ hbel3).mono ?_
    rintro e w4 ⟨rfl, hb4⟩
    go_wp2
    go_ret3
    exact ⟨rfl, (hF3.step hb4).1⟩
  obtain ⟨hf, hk0, hkE⟩ := best_parts hk
  have hvl := hv.len
  have hpos := poly_pos hp
  rw [hvl] at hpos
  have HR := hide (show ratOk E v k = true by simp [ratOk, hp, hk])
  obtain ⟨N, rfl, fo⟩ := FnOk.of hf hv
  obtain ⟨K, rfl⟩ := Int.eq_ofNat_of_zero_le hk0
  have hKN : K ≤ N := by omega
  have hN := fo.hN
  have e1 : bestV N v K = best1 v n K := by simp [bestV, hk, hvl, best1]
  have e2 : grV N v K = gr1 v N K := by simp [grV, hk, gr1]
  rw [e1, hk] at HB
  rw [e2, hk] at HG
  rw [hp] at HC
  have b1 : -1000 ≤ best1 v n K ∧ best1 v n K ≤ 1000 := best_bd fo K
  have b2 := gr_bd fo hKN
  have b5 : 0 ≤ best1 v n K := hpos _ (bestN_lt _ _ _ fo.n0)
  have b6 : 0 ≤ gr1 v N K := hpos _ (by have h := (gr_inv v fo.hN K hKN).1; rw [← fo.hn] at h; exact h)
  have eA : ratA N v K = if best1 v n K = 0 then 1 else (((gr1 v N K).toNat / Nat.gcd (gr1 v N K).toNat (best1 v n K).toNat : Nat) : Int) := by simp [ratA, HR.out, hvl]
  have eB : ratB N v K = if best1 v n K = 0 then 1 else (((best1 v n K).toNat / Nat.gcd (gr1 v N K).toNat (best1 v n K).toNat : Nat) : Int) := by simp [ratB, HR.out, hvl]
  rw [eA, eB]
  clear e1 e2 hk hp hf hvl hpos eA eB
  generalize best1 v n K = X at *
  generalize gr1 v N K = Y at *
  obtain ⟨x, rfl⟩ := Int.eq_ofNat_of_zero_le b5
  obtain ⟨y, rfl⟩ := Int.eq_ofNat_of_zero_le b6
  rw [Int.toNat_natCast, Int.toNat_natCast, HR.out]
  have x1 : x ≤ 1000 := by omega
  have y1 : y ≤ 1000 := by omega
  clear b1 b2 b5 b6
  by_cases hx : x = 0
  · have hx3 : ((x : Nat) : Int) = 0 := by omega
    rw [if_pos hx3, if_pos hx3]
    clear hx3
    subst hx
    go_enter Try.func122, Try.ntmps122
    go_wp2_with fail
    refine (HB.out _ hbel0).mono ?_
    rintro e w2 ⟨rfl, hb2⟩
    have hF2 := hF0.step hb2
    clear r0 r1
    obtain ⟨hbel2, hz2, r0, r1⟩ := hF2.parts
    go_wp2_with fail
    refine (HG.out _ hbel2).mono ?_
    rintro e w3 ⟨B, r, cr, rfl, hown, hr, hb3⟩
    have hF3 := hF2.step hb3
    clear r0 r1
    obtain ⟨hbel3, hz3, r0, r1⟩ := hF3.parts
    go_wp2_with fail
    refine (HC.out _ hbel3).mono ?_
    rintro e w4 ⟨rfl, hb4⟩
    have hF4 := hF3.step hb4
    clear r0 r1
    go_wp2
    go_ret3
    exact ⟨rfl, hF4.1⟩
  · have hx2 : ((x : Int) == 0) = false := by simp [hx]
    have hx3 := hide (show ¬ ((x : Int) = 0) by omega)
    have hg : 0 < Nat.gcd y x := Nat.gcd_pos_of_pos_right _ (by omega)
    clear hx
    rw [if_neg hx3.out, if_neg hx3.out]
    go_enter Try.func122, Try.ntmps122
    go_wp2_with fail
    refine (HB.out _ hbel0).mono ?_
    rintro e w2 ⟨rfl, hb2⟩
    have hF2 := hF0.step hb2
    clear r0 r1
    obtain ⟨hbel2, hz2, r0, r1⟩ := hF2.parts
    go_wp2_with fail
    refine (HG.out _ hbel2).mono ?_
    rintro e w3 ⟨B, r, cr, rfl, hown, hr, hb3⟩
    have hF3 := hF2.step hb3
    clear r0 r1
    obtain ⟨hbel3, hz3, r0, r1⟩ := hF3.parts
    go_wp2_with fail
    refine (HC.out _ hbel3).mono ?_
    rintro e w4 ⟨rfl, hb4⟩
    have hF4 := hF3.step hb4
    clear r0 r1
    go_wp2_with fail
    refine (lowest_any y x _ (by omega) (by omega) hg).mono ?_
    rintro e w5 ⟨rfl, hb5⟩
    go_wp2
    go_ret3
    exact ⟨rfl, (hF4.step hb5).1⟩
set_option maxHeartbeats 2000000 in
theorem specRatioOf_any (E : Int) (A : Option Addr) (n c : Nat) (v : List Int) (k : Int) (w : World) (hv : Ints w A n v) :
    Calls Try.prog 123 #[.agg #[.int .i64 E, .slice A n c], .int .i64 k] w fun e w' => e = .returned (.tuple #[.int .i64 (ratA E v k), .int .i64 (ratB E v k), .bool (ratOk E v k)]) ∧ Below w.heap.size w w' := by
  have hF0 := FB.start w E A n c
  obtain ⟨hbel0, hz0, r0, r1⟩ := hF0.parts
  have HB := hide (fun W (h : Below w.heap.size w W) => specBestOfSize_any E A n c v k W (hv.below h (Nat.le_refl _)))
  have HG := hide (fun W (h : Below w.heap.size w W) => specGreedyOfSize_any E A n c v k W (hv.below h (Nat.le_refl _)))
  have HC := hide (fun W (h : Below w.heap.size w W) => specIsPolymatroid_any E A n c v W (hv.below h (Nat.le_refl _)))
  cases hp : polyB E v
  · have e0 : ratOk E v k = false := by simp [ratOk, hp]
    have e1 : ratA E v k = 0 := by simp [ratA, e0]
    have e2 : ratB E v k = 0 := by simp [ratB, e0]
    rw [e0, e1, e2]; clear e0 e1 e2
    rw [hp] at HC
    clear hp
    go_enter Try.func123, Try.ntmps123
    go_wp2_with fail
    refine (HC.out _ hbel0).mono ?_
    rintro e w4 ⟨rfl, hb4⟩
    go_wp2
    go_ret3
    exact ⟨rfl, (hF0.step hb4).1⟩
  cases hk : bestOk E v k
  · have e0 : ratOk E v k = false := by simp [ratOk, hk]
    have e1 : ratA E v k = 0 := by simp [ratA, e0]
    have e2 : ratB E v k = 0 := by simp [ratB, e0]
    rw [e0, e1, e2]; clear e0 e1 e2
    rw [hk] at HB HG
    rw [hp] at HC
    clear hk hp
    go_enter Try.func123, Try.ntmps123
    go_wp2_with fail
    refine (HC.out _ hbel0).mono ?_
    rintro e w1 ⟨rfl, hb1⟩
    have hF1 := hF0.step hb1
    clear r0 r1
    obtain ⟨hbel1, hz1, r0, r1⟩ := hF1.parts
    go_wp2_with fail
    refine (HB.out _ hbel1).mono ?_
    rintro e w2 ⟨rfl, hb2⟩
    have hF2 := hF1.step hb2
    clear r0 r1
    obtain ⟨hbel2, hz2, r0, r1⟩ := hF2.parts
    go_wp2_with fail
    refine (HG.out _ hbel2).mono ?_
    rintro e w3 ⟨B, r, cr, rfl, hown, hr, hb3⟩
    have hF3 := hF2.step hb3
    go_wp2
    go_ret3
    exact ⟨rfl, hF3.1⟩
  obtain ⟨hf, hk0, hkE⟩ := best_parts hk
  have hvl := hv.len
  have hpos := poly_pos hp
  rw [hvl] at hpos
  have HR := hide (show ratOk E v k = true by simp [ratOk, hp, hk])
  obtain ⟨N, rfl, fo⟩ := FnOk.of hf hv
  obtain ⟨K, rfl⟩ := Int.eq_ofNat_of_zero_le hk0
  have hKN : K ≤ N := by omega
  have hN := fo.hN
  have e1 : bestV N v K = best1 v n K := by simp [bestV, hk, hvl, best1]
  have e2 : grV N v K = gr1 v N K := by simp [grV, hk, gr1]
  rw [e1, hk] at HB
  rw [e2, hk] at HG
  rw [hp] at HC
  have b1 : -1000 ≤ best1 v n K ∧ best1 v n K ≤ 1000 := best_bd fo K
  have b2 := gr_bd fo hKN
  have b5 : 0 ≤ best1 v n K := hpos _ (bestN_lt _ _ _ fo.n0)
  have b6 : 0 ≤ gr1 v N K := hpos _ (by have h := (gr_inv v fo.hN K hKN).1; rw [← fo.hn] at h; exact h)
  have eA : ratA N v K = if best1 v n K = 0 then 1 else (((gr1 v N K).toNat / Nat.gcd (gr1 v N K).toNat (best1 v n K).toNat : Nat) : Int) := by simp [ratA, HR.out, hvl]
  have eB : ratB N v K = if best1 v n K = 0 then 1 else (((best1 v n K).toNat / Nat.gcd (gr1 v N K).toNat (best1 v n K).toNat : Nat) : Int) := by simp [ratB, HR.out, hvl]
  rw [eA, eB]
  clear e1 e2 hk hp hf hvl hpos eA eB
  generalize best1 v n K = X at *
  generalize gr1 v N K = Y at *
  obtain ⟨x, rfl⟩ := Int.eq_ofNat_of_zero_le b5
  obtain ⟨y, rfl⟩ := Int.eq_ofNat_of_zero_le b6
  rw [Int.toNat_natCast, Int.toNat_natCast, HR.out]
  have x1 : x ≤ 1000 := by omega
  have y1 : y ≤ 1000 := by omega
  clear b1 b2 b5 b6
  by_cases hx : x = 0
  · have hx3 : ((x : Nat) : Int) = 0 := by omega
    rw [if_pos hx3, if_pos hx3]
    clear hx3
    subst hx
    go_enter Try.func123, Try.ntmps123
    go_wp2_with fail
    refine (HC.out _ hbel0).mono ?_
    rintro e w1 ⟨rfl, hb1⟩
    have hF1 := hF0.step hb1
    clear r0 r1
    obtain ⟨hbel1, hz1, r0, r1⟩ := hF1.parts
    go_wp2_with fail
    refine (HB.out _ hbel1).mono ?_
    rintro e w2 ⟨rfl, hb2⟩
    have hF2 := hF1.step hb2
    clear r0 r1
    obtain ⟨hbel2, hz2, r0, r1⟩ := hF2.parts
    go_wp2_with fail
    refine (HG.out _ hbel2).mono ?_
    rintro e w3 ⟨B, r, cr, rfl, hown, hr, hb3⟩
    have hF3 := hF2.step hb3
    clear r0 r1
    go_wp2
    go_ret3
    exact ⟨rfl, hF3.1⟩
  · have hx2 : ((x : Int) == 0) = false := by simp [hx]
    have hx3 := hide (show ¬ ((x : Int) = 0) by omega)
    have hg : 0 < Nat.gcd x y := Nat.gcd_pos_of_pos_left _ (by omega)
    rw [Nat.gcd_comm y x]
    clear hx
    have d1 : wrap64 ((y : Int) / ((Nat.gcd x y : Nat) : Int)) = ((y / Nat.gcd x y : Nat) : Int) := by
      have := Nat.div_le_self y (Nat.gcd x y)
      rw [show (y : Int) / ((Nat.gcd x y : Nat) : Int) = ((y / Nat.gcd x y : Nat) : Int) by norm_cast]
      generalize y / Nat.gcd x y = q at *
      exact IntWalk.wrap64_in _ (by omega)
    have d2 : wrap64 ((x : Int) / ((Nat.gcd x y : Nat) : Int)) = ((x / Nat.gcd x y : Nat) : Int) := by
      have := Nat.div_le_self x (Nat.gcd x y)
      rw [show (x : Int) / ((Nat.gcd x y : Nat) : Int) = ((x / Nat.gcd x y : Nat) : Int) by norm_cast]
      generalize x / Nat.gcd x y = q at *
      exact IntWalk.wrap64_in _ (by omega)
    rw [if_neg hx3.out, if_neg hx3.out]
    have D1 := hide d1
    have D2 := hide d2
    clear d1 d2
    go_enter Try.func123, Try.ntmps123
    go_wp2_with fail
    refine (HC.out _ hbel0).mono ?_
    rintro e w1 ⟨rfl, hb1⟩
    have hF1 := hF0.step hb1
    clear r0 r1
    obtain ⟨hbel1, hz1, r0, r1⟩ := hF1.parts
    go_wp2_with fail
    refine (HB.out _ hbel1).mono ?_
    rintro e w2 ⟨rfl, hb2⟩
    have hF2 := hF1.step hb2
    clear r0 r1
    obtain ⟨hbel2, hz2, r0, r1⟩ := hF2.parts
    go_wp2_with fail
    refine (HG.out _ hbel2).mono ?_
    rintro e w3 ⟨B, r, cr, rfl, hown, hr, hb3⟩
    have hF3 := hF2.step hb3
    clear r0 r1
    go_wp2_with fail
    refine (l13Divisor_any x y _ (by omega) (by omega) hg).mono ?_
    rintro e w5 ⟨rfl, rfl⟩
    go_wp2
    go_quiet (fail)
    go_wp2
    go_ret3
    exact ⟨by rw [← D1.out, ← D2.out]; rfl, (hF3.drewN _).1⟩
end Go.Proofs.Ytokeejachclpeaa
