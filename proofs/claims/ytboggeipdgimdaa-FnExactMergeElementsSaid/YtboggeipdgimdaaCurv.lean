/-
  Walks: curvature.
-/
import Derived.Test.YtboggeipdgimdaaIncr
import Derived.Test.YtboggeipdgimdaaBase
import Derived.Test.YtboggeipdgimdaaClass
import Derived.Test.YtboggeipdgimdaaTot
import Derived.Test.YtboggeipdgimdaaGcd
namespace Go.Proofs.Ytboggeipdgimdaa
open Go.RowKit

/-- What element k adds last. -/
def lastN (v : List Int) (n k : Nat) : Int := gv v (n - 1) - gv v (n - 1 - p2 k)
/-- What element k loses of its own value. -/
def lostN (v : List Int) (n k : Nat) : Int := gv v (p2 k) - lastN v n k
/-- Is the part that k loses greater than a/b? -/
def curB (v : List Int) (n k : Nat) (a b : Int) : Bool := decide (0 < gv v (p2 k)) && decide (a * gv v (p2 k) < lostN v n k * b)
def curT (v : List Int) (n : Nat) : Nat → Int × Int
  | 0 => (0, 1)
  | k + 1 => if curB v n k (curT v n k).1 (curT v n k).2 then (lostN v n k, gv v (p2 k)) else curT v n k
theorem prod_bd' {x y l q : Int} (h1 : -l ≤ x) (h2 : x ≤ l) (h3 : 1 ≤ y) (h4 : y ≤ q) : -(l * q) ≤ x * y ∧ x * y ≤ l * q := by
  have hl : 0 ≤ l := by omega
  have h5 : x * y ≤ l * y := Int.mul_le_mul_of_nonneg_right h2 (by omega)
  have h6 : l * y ≤ l * q := Int.mul_le_mul_of_nonneg_left h4 hl
  have h7 : -l * y ≤ x * y := Int.mul_le_mul_of_nonneg_right h1 (by omega)
  have h8 : -l * y = -(l * y) := Int.neg_mul _ _
  omega
theorem last_bits : ∀ N : Fin 6, ∀ k : Fin 5, k.val < N.val → (2 ^ N.val - 1) ^^^ ((2 ^ N.val - 1) &&& 2 ^ k.val) = 2 ^ N.val - 1 - 2 ^ k.val ∧ (2 ^ N.val - 1 - 2 ^ k.val) ||| 2 ^ k.val = 2 ^ N.val - 1 ∧ 2 ^ k.val ≤ 2 ^ N.val - 1 := by decide +kernel
theorem fn_last {N n : Nat} {v : List Int} (fo : FnOk N n v) {k : Nat} (hk : k < N) : diffN (n - 1) (p2 k) = n - 1 - p2 k ∧ insN (n - 1 - p2 k) k = n - 1 ∧ p2 k ≤ n - 1 := by
  have hN := fo.hN
  have h := last_bits ⟨N, by omega⟩ ⟨k, by omega⟩ hk
  rw [fo.hn]
  exact h
theorem fn_lastb {N n : Nat} {v : List Int} (fo : FnOk N n v) {k : Nat} (_hk : k < N) : -2000 ≤ lastN v n k ∧ lastN v n k ≤ 2000 := by
  have h0 := fo.n0
  have := fo.bd (s := n - 1) (by omega)
  have := fo.bd (s := n - 1 - p2 k) (by omega)
  unfold lastN; omega
theorem cur_inv {N n : Nat} {v : List Int} (fo : FnOk N n v) : ∀ k, k ≤ N → 0 ≤ (curT v n k).1 ∧ (curT v n k).1 ≤ 4000 ∧ 1 ≤ (curT v n k).2 ∧ (curT v n k).2 ≤ 1000
  | 0, _ => by simp [curT]
  | k + 1, hk => by
    have ih := cur_inv fo k (by omega)
    unfold curT
    cases hb : curB v n k (curT v n k).1 (curT v n k).2
    · simpa using ih
    · simp only [curB, Bool.and_eq_true, decide_eq_true_eq] at hb
      obtain ⟨h1, h2⟩ := hb
      have h3 := fo.bd (fo.p2 (k := k) (by omega))
      have h4 := fn_lastb fo (k := k) (by omega)
      have h5 : 0 ≤ (curT v n k).1 * gv v (p2 k) := Int.mul_nonneg ih.1 (Int.le_of_lt h1)
      have h6 : 0 < lostN v n k * (curT v n k).2 := by omega
      have h7 : 0 < lostN v n k := Int.pos_of_mul_pos_left h6 (by omega)
      simp only [if_true]
      have h8 : lostN v n k ≤ 4000 := by unfold lostN; omega
      omega
def curA (E : Int) (v : List Int) : Nat := (curT v v.length E.toNat).1.toNat
def curD (E : Int) (v : List Int) : Nat := (curT v v.length E.toNat).2.toNat
def curX (E : Int) (v : List Int) : Int := if polyB E v then ((curA E v / Nat.gcd (curA E v) (curD E v) : Nat) : Int) else 0
def curY (E : Int) (v : List Int) : Int := if polyB E v then ((curD E v / Nat.gcd (curA E v) (curD E v) : Nat) : Int) else 0
theorem poly_fn {E : Int} {v : List Int} (h : polyB E v = true) : isFn E v = true := by
  simp only [polyB, Bool.and_eq_true] at h; exact grd_fn h.1

theorem top_bits : ∀ s : Fin 32, s.val ≠ 0 → ∃ e : Fin 5, ∃ t : Fin 32, t.val < s.val ∧ t.val ||| 2 ^ e.val = s.val ∧ 2 ^ e.val ≤ s.val := by decide +kernel
theorem top_bit (N : Nat) (hN : N ≤ 5) (s : Nat) (hs : s < 2 ^ N) (h0 : s ≠ 0) : ∃ e t : Nat, e < N ∧ t < s ∧ insN t e = s := by
  have h32 : (2 : Nat) ^ N ≤ 32 := Nat.pow_le_pow_right (by omega) hN
  obtain ⟨e, t, h1, h2, h3⟩ := top_bits ⟨s, by omega⟩ h0
  refine ⟨e.val, t.val, ?_, h1, h2⟩
  have h4 : 2 ^ e.val < 2 ^ N := Nat.lt_of_le_of_lt h3 hs
  exact (Nat.pow_lt_pow_iff_right (by omega)).1 h4
theorem poly_pos {E : Int} {v : List Int} (h : polyB E v = true) : ∀ s, s < v.length → 0 ≤ gv v s := by
  simp only [polyB, grdB, Bool.and_eq_true, decide_eq_true_eq] at h
  obtain ⟨⟨hf, h0⟩, hi, _⟩ := h
  obtain ⟨N, rfl, hN, hl, _⟩ := isFn_true hf
  obtain ⟨_, hg⟩ := inc_gain hi
  have hpop : ∀ s : Nat, s < v.length → 0 ≤ gv v s := by
    intro s
    induction s using Nat.strongRecOn with
    | ind s ih =>
      intro hs
      by_cases hz : s = 0
      · subst hz; omega
      · have hb := top_bit N hN s (by omega) (by omega)
        obtain ⟨e, t, he, ht, hte⟩ := hb
        have h1 := ih t ht (by omega)
        have h2 := hg t (by omega) e (by omega)
        unfold gainN at h2
        rw [hte] at h2
        omega
  exact hpop
set_option maxHeartbeats 2000000 in
theorem curvatureOf_any (E : Int) (A : Option Addr) (n c : Nat) (v : List Int) (w : World) (hv : Ints w A n v) :
    Calls Try.prog 27 #[.agg #[.int .i64 E, .slice A n c]] w fun e w' => e = .returned (.tuple #[.int .i64 (curX E v), .int .i64 (curY E v), .bool (polyB E v)]) ∧ Below w.heap.size w w' := by
  have hF0 := FB.start w E A n c
  obtain ⟨hbel0, hz0, r0, r1⟩ := hF0.parts
  have hcall := isPolymatroid_any E A n c v _ (hv.below hbel0 (Nat.le_refl _))
  cases hp : polyB E v
  · have e0 : curX E v = 0 := by simp [curX, hp]
    have e1 : curY E v = 0 := by simp [curY, hp]
    rw [e0, e1]; clear e0 e1
    rw [hp] at hcall
    have HC := hide hcall; clear hcall
    go_enter Try.func27, Try.ntmps27
    go_wp2_with fail
    refine HC.out.mono ?_
    rintro e w1 ⟨rfl, hb1⟩
    go_wp2
    go_ret3
    exact ⟨rfl, (hF0.step hb1).1⟩
  have hf := poly_fn hp
  have Hf := hide hf
  have hvl := hv.len
  rw [hp] at hcall
  have HC := hide hcall; clear hcall
  have e0 : curX E v = ((curA E v / Nat.gcd (curA E v) (curD E v) : Nat) : Int) := by simp [curX, hp]
  have e1 : curY E v = ((curD E v / Nat.gcd (curA E v) (curD E v) : Nat) : Int) := by simp [curY, hp]
  rw [e0, e1]; clear e0 e1 hp
  obtain ⟨N, rfl, fo⟩ := FnOk.of hf hv
  clear hf
  obtain ⟨aN, haN⟩ := Int.eq_ofNat_of_zero_le (cur_inv fo N (Nat.le_refl _)).1
  obtain ⟨dN, hdN⟩ := Int.eq_ofNat_of_zero_le (show 0 ≤ (curT v n N).2 by have := cur_inv fo N (Nat.le_refl _); omega)
  have eA : curA N v = aN := by simp [curA, hvl, haN]
  have eD : curD N v = dN := by simp [curD, hvl, hdN]
  have HaN := hide haN
  have HdN := hide hdN
  clear haN hdN
  rw [eA, eD]; clear eA eD hvl
  have HI := hide (fun k (hk : k ≤ N) => cur_inv fo k hk)
  obtain ⟨b, off, rfl, hbb, hc⟩ := hv.all_ fo.n0
  have HCC := hide hc; clear hc
  have hN := fo.hN
  have n32 := fo.n32
  have n0 := fo.n0
  have hfull := p2_full fo.hn
  have HA := hide (fun W => hfull ▸ allOf_any N (some ⟨b, off, none⟩) n c W (by omega))
  clear r0 r1 hfull
  go_enter Try.func27, Try.ntmps27
  go_wp2_with fail
  refine HC.out.mono ?_
  rintro e w1 ⟨rfl, hb1⟩
  have hFB := hF0.step hb1
  obtain ⟨hbel, hz, r0, r1⟩ := hFB.parts
  go_wp2
  clear r0 r1
  go_loopw [5, 6, 16] (fun x y t wr => ∃ k : Nat, k ≤ N ∧ t = .int .i64 k ∧ x = .int .i64 (curT v n k).1 ∧ y = .int .i64 (curT v n k).2 ∧ FB w wr N (some ⟨b, off, none⟩) n c) (fun _ _ t _ => N - (intOf t).toNat)
  case atStart => exact ⟨0, Nat.zero_le _, rfl, rfl, rfl, hFB⟩
  case round =>
    obtain ⟨k, hk, rfl, rfl, rfl, hFBr⟩ := hrel
    obtain ⟨hbelr, hzr, r0, r1⟩ := hFBr.parts
    obtain ⟨q1, q2, q3, q4⟩ := HI.out k hk
    by_cases hlt : k < N
    · have hk40 : k ≤ 40 := by omega
      have pk := fo.p2 hlt
      have c1 : wr.cell? ⟨b, off + p2 k, none⟩ = some (.int .i64 (gv v (p2 k))) := (hbelr.cell (p := ⟨b, off + p2 k, none⟩) hbb).trans (HCC.out _ pk)
      have i1 : (0 : Int) ≤ ((p2 k : Nat) : Int) := by omega
      have i2 : ((p2 k : Nat) : Int) < (n : Int) := by omega
      obtain ⟨g1, g2⟩ := fo.bd pk
      have hstep := hide (show curT v n (k + 1) = if curB v n k (curT v n k).1 (curT v n k).2 then (lostN v n k, gv v (p2 k)) else curT v n k from rfl)
      by_cases hown : gv v (p2 k) ≤ 0
      · have hs := hide (show curT v n (k + 1) = curT v n k by rw [hstep.out, show curB v n k (curT v n k).1 (curT v n k).2 = false by simp [curB]; intro h; omega]; rfl)
        go_wp2
        go_roundw
        case rel => exact ⟨k + 1, by omega, by go_num, by rw [hs.out], by rw [hs.out], hFBr⟩
        case measure => simp [intOf]; omega
      · obtain ⟨l1, l2, l3⟩ := fn_last fo hlt
        obtain ⟨l4, l5⟩ := fn_lastb fo hlt
        have hlast := lastN v n k
        have HG := hide (fun W (h : Ints W (some ⟨b, off, none⟩) n v) => (show gainN v (diffN (n - 1) (p2 k)) k = lastN v n k by unfold gainN lastN; rw [l1, l2]) ▸ gain_any N (some ⟨b, off, none⟩) n c v (diffN (n - 1) (p2 k)) k W h Hf.out (by rw [l1]; omega) (by omega))
        have hvr := hv.below hbelr (Nat.le_refl _)
        have d10 : n - 1 < 1024 := by omega
        have p10 : p2 k < 1024 := by omega
        have t1 : IntKind.i64.wrap (gv v (p2 k) - lastN v n k) = lostN v n k := IntWalk.i64_in _ (by omega)
        have s1 : -4000 ≤ lostN v n k := by unfold lostN; omega
        have s2 : lostN v n k ≤ 4000 := by unfold lostN; omega
        obtain ⟨m1, m2⟩ := prod_bd' s1 s2 q3 q4
        obtain ⟨m3, m4⟩ := prod_bd' (show -4000 ≤ (curT v n k).1 by omega) q2 (show 1 ≤ gv v (p2 k) by omega) g2
        have q0 := wc_cell r0
        have q1' := wc_cell r1
        clear l1 l2 l3 l4 l5 hlast
        by_cases hgt : (curT v n k).1 * gv v (p2 k) < lostN v n k * (curT v n k).2
        · have hs := hide (show curT v n (k + 1) = (lostN v n k, gv v (p2 k)) by rw [hstep.out, show curB v n k (curT v n k).1 (curT v n k).2 = true by simp [curB, hgt]; omega]; rfl)
          generalize (curT v n k).1 = a at *
          generalize (curT v n k).2 = d at *
          go_wp2
          refine region_below (by kernel_rfl) (by kernel_rfl) ?_
          repeat (go_big_quiet_step (first | (go_at_call 59; refine wc_call (HA.out _)) | (go_at_call 70; refine wc_call (HG.out _ (wc_ints hvr _)))))
          refine wpQuiet_nil ?_
          intro _ hw'
          obtain ⟨p, rfl⟩ := hw'
          clear t1
          go_wp2
          go_roundw
          case rel => exact ⟨k + 1, by omega, by go_num, by rw [hs.out], by rw [hs.out], hFBr.step p.below⟩
          case measure => simp [intOf]; omega
        · have hs := hide (show curT v n (k + 1) = curT v n k by rw [hstep.out, show curB v n k (curT v n k).1 (curT v n k).2 = false by simp [curB]; intro h; omega]; rfl)
          generalize hxa : (curT v n k).1 = a at *
          generalize hxd : (curT v n k).2 = d at *
          have Hxa := hide hxa
          have Hxd := hide hxd
          clear hxa hxd
          go_wp2
          refine region_below (by kernel_rfl) (by kernel_rfl) ?_
          repeat (go_big_quiet_step (first | (go_at_call 59; refine wc_call (HA.out _)) | (go_at_call 70; refine wc_call (HG.out _ (wc_ints hvr _)))))
          refine wpQuiet_nil ?_
          intro _ hw'
          obtain ⟨p, rfl⟩ := hw'
          clear t1
          go_wp2
          go_roundw
          case rel => exact ⟨k + 1, by omega, by go_num, by rw [hs.out, Hxa.out], by rw [hs.out, Hxd.out], hFBr.step p.below⟩
          case measure => simp [intOf]; omega
    · obtain rfl : k = N := by omega
      have h5 := HaN.out
      have h6 := HdN.out
      clear HaN HdN HI
      generalize (curT v n k).1 = a at *
      generalize (curT v n k).2 = d at *
      subst h5
      subst h6
      obtain ⟨a, rfl⟩ : ∃ a, a = aN := ⟨_, rfl⟩
      obtain ⟨d, rfl⟩ : ∃ d, d = dN := ⟨_, rfl⟩
      have hg : 0 < Nat.gcd a d := Nat.gcd_pos_of_pos_right _ (by omega)
      go_wp2_with fail
      refine (lowest_any a d _ (by omega) (by omega) hg).mono ?_
      rintro e w2 ⟨rfl, hb2⟩
      go_wp2
      go_ret3
      exact ⟨rfl, (hFBr.step hb2).1⟩
set_option maxHeartbeats 2000000 in
theorem specCurvatureOf_any (E : Int) (A : Option Addr) (n c : Nat) (v : List Int) (w : World) (hv : Ints w A n v) :
    Calls Try.prog 26 #[.agg #[.int .i64 E, .slice A n c]] w fun e w' => e = .returned (.tuple #[.int .i64 (curX E v), .int .i64 (curY E v), .bool (polyB E v)]) ∧ Below w.heap.size w w' := by
  have hF0 := FB.start w E A n c
  obtain ⟨hbel0, hz0, r0, r1⟩ := hF0.parts
  have hcall := specIsPolymatroid_any E A n c v _ (hv.below hbel0 (Nat.le_refl _))
  cases hp : polyB E v
  · have e0 : curX E v = 0 := by simp [curX, hp]
    have e1 : curY E v = 0 := by simp [curY, hp]
    rw [e0, e1]; clear e0 e1
    rw [hp] at hcall
    have HC := hide hcall; clear hcall
    go_enter Try.func26, Try.ntmps26
    go_wp2_with fail
    refine HC.out.mono ?_
    rintro e w1 ⟨rfl, hb1⟩
    go_wp2
    go_ret3
    exact ⟨rfl, (hF0.step hb1).1⟩
  have hf := poly_fn hp
  have Hf := hide hf
  have hvl := hv.len
  rw [hp] at hcall
  have HC := hide hcall; clear hcall
  have e0 : curX E v = ((curA E v / Nat.gcd (curA E v) (curD E v) : Nat) : Int) := by simp [curX, hp]
  have e1 : curY E v = ((curD E v / Nat.gcd (curA E v) (curD E v) : Nat) : Int) := by simp [curY, hp]
  rw [e0, e1]; clear e0 e1
  have hpp := poly_pos hp
  clear hp
  obtain ⟨N, rfl, fo⟩ := FnOk.of hf hv
  clear hf
  obtain ⟨aN, haN⟩ := Int.eq_ofNat_of_zero_le (cur_inv fo N (Nat.le_refl _)).1
  obtain ⟨dN, hdN⟩ := Int.eq_ofNat_of_zero_le (show 0 ≤ (curT v n N).2 by have := cur_inv fo N (Nat.le_refl _); omega)
  have eA : curA N v = aN := by simp [curA, hvl, haN]
  have eD : curD N v = dN := by simp [curD, hvl, hdN]
  have HaN := hide haN
  have HdN := hide hdN
  clear haN hdN
  rw [eA, eD]; clear eA eD
  rw [hvl] at hpp
  have HP := hide hpp
  clear hvl hpp
  have HI := hide (fun k (hk : k ≤ N) => cur_inv fo k hk)
  obtain ⟨b, off, rfl, hbb, hc⟩ := hv.all_ fo.n0
  have HCC := hide hc; clear hc
  have hN := fo.hN
  have n32 := fo.n32
  have n0 := fo.n0
  have hfull := p2_full fo.hn
  have HA := hide (fun W => hfull ▸ l2Full_any N W (by omega))
  clear r0 r1 hfull
  go_enter Try.func26, Try.ntmps26
  go_wp2_with fail
  refine HC.out.mono ?_
  rintro e w1 ⟨rfl, hb1⟩
  have hFB := hF0.step hb1
  obtain ⟨hbel, hz, r0, r1⟩ := hFB.parts
  go_wp2_with fail
  refine (HA.out _).mono ?_
  rintro e w9 ⟨rfl, rfl⟩
  go_wp2
  clear r0 r1
  go_loopw [5, 6, 8] (fun x y t wr => ∃ k : Nat, k ≤ N ∧ t = .int .i64 k ∧ x = .int .i64 (curT v n k).1 ∧ y = .int .i64 (curT v n k).2 ∧ FB w wr N (some ⟨b, off, none⟩) n c) (fun _ _ t _ => N - (intOf t).toNat)
  case atStart => exact ⟨0, Nat.zero_le _, rfl, rfl, rfl, hFB⟩
  case round =>
    obtain ⟨k, hk, rfl, rfl, rfl, hFBr⟩ := hrel
    obtain ⟨hbelr, hzr, r0, r1⟩ := hFBr.parts
    obtain ⟨q1, q2, q3, q4⟩ := HI.out k hk
    by_cases hlt : k < N
    · have hk40 : k ≤ 40 := by omega
      have pk := fo.p2 hlt
      have c1 : wr.cell? ⟨b, off + p2 k, none⟩ = some (.int .i64 (gv v (p2 k))) := (hbelr.cell (p := ⟨b, off + p2 k, none⟩) hbb).trans (HCC.out _ pk)
      have i1 : (0 : Int) ≤ ((p2 k : Nat) : Int) := by omega
      have i2 : ((p2 k : Nat) : Int) < (n : Int) := by omega
      obtain ⟨g1, g2⟩ := fo.bd pk
      have hstep := hide (show curT v n (k + 1) = if curB v n k (curT v n k).1 (curT v n k).2 then (lostN v n k, gv v (p2 k)) else curT v n k from rfl)
      obtain ⟨l1, l2, l3⟩ := fn_last fo hlt
      obtain ⟨l4, l5⟩ := fn_lastb fo hlt
      have c2 : wr.cell? ⟨b, off + (n - 1), none⟩ = some (.int .i64 (gv v (n - 1))) := (hbelr.cell (p := ⟨b, off + (n - 1), none⟩) hbb).trans (HCC.out _ (by omega))
      have c3 : wr.cell? ⟨b, off + (n - 1 - p2 k), none⟩ = some (.int .i64 (gv v (n - 1 - p2 k))) := (hbelr.cell (p := ⟨b, off + (n - 1 - p2 k), none⟩) hbb).trans (HCC.out _ (by omega))
      have hlast := hide (show lostN v n k = gv v (p2 k) - gv v (n - 1) + gv v (n - 1 - p2 k) by unfold lostN lastN; omega)
      have s1 : -4000 ≤ lostN v n k := by unfold lostN; omega
      have s2 : lostN v n k ≤ 4000 := by unfold lostN; omega
      have g3 := fo.bd (s := n - 1) (by omega)
      have g4 := fo.bd (s := n - 1 - p2 k) (by omega)
      have hpos := HP.out _ pk
      have hr := hide (show (((n - 1 : Nat) : Int) - ((p2 k : Nat) : Int)) = ((n - 1 - p2 k : Nat) : Int) by omega)
      generalize hfn : n - 1 = d at *
      have Hfn := hide hfn
      generalize hrn : d - p2 k = r at *
      have Hrn := hide hrn
      have i3 : (0 : Int) ≤ (d : Int) := by omega
      have i4 : (d : Int) < (n : Int) := by omega
      have i5 : (0 : Int) ≤ (r : Int) := by omega
      have i6 : (r : Int) < (n : Int) := by omega
      have t0 : IntKind.i64.wrap ((d : Int) - ((p2 k : Nat) : Int)) = (r : Int) := by rw [← hrn]; rw [IntWalk.i64_in _ (by omega)]; omega
      clear l1 l2 l3 l4 l5 hfn hrn
      have t1 : IntKind.i64.wrap (gv v (p2 k) - gv v d) = gv v (p2 k) - gv v d := IntWalk.i64_in _ (by omega)
      have t2 : IntKind.i64.wrap (gv v (p2 k) - gv v d + gv v r) = lostN v n k := by rw [hlast.out]; exact IntWalk.i64_in _ (by omega)
      by_cases hown : gv v (p2 k) = 0
      · have hs := hide (show curT v n (k + 1) = curT v n k by rw [hstep.out, show curB v n k (curT v n k).1 (curT v n k).2 = false by simp [curB, hown]]; rfl)
        have ho : (gv v (p2 k) == 0) = true := by simp [hown]
        clear hown
        go_wp2
        go_quiet (fail)
        go_wp2
        go_roundw
        case rel => exact ⟨k + 1, by omega, by go_num, by rw [hs.out], by rw [hs.out], hFBr.drewN _⟩
        case measure => simp [intOf]; omega
      · have ho : (gv v (p2 k) == 0) = false := by simp [hown]
        obtain ⟨m1, m2⟩ := prod_bd' s1 s2 q3 q4
        obtain ⟨m3, m4⟩ := prod_bd' (show -4000 ≤ (curT v n k).1 by omega) q2 (show 1 ≤ gv v (p2 k) by omega) g2
        by_cases hgt : (curT v n k).1 * gv v (p2 k) < lostN v n k * (curT v n k).2
        · have hs := hide (show curT v n (k + 1) = (lostN v n k, gv v (p2 k)) by rw [hstep.out, show curB v n k (curT v n k).1 (curT v n k).2 = true by simp [curB, hgt]; omega]; rfl)
          generalize (curT v n k).1 = a at *
          generalize (curT v n k).2 = dd at *
          clear hown
          go_wp2
          go_quiet (fail)
          go_wp2
          go_quiet (fail)
          clear t1 t2 t0
          go_wp2
          go_roundw
          case rel => exact ⟨k + 1, by omega, by go_num, by rw [hs.out], by rw [hs.out], hFBr.drewN _⟩
          case measure => simp [intOf]; omega
        · have hs := hide (show curT v n (k + 1) = curT v n k by rw [hstep.out, show curB v n k (curT v n k).1 (curT v n k).2 = false by simp [curB]; intro h; omega]; rfl)
          generalize hxa : (curT v n k).1 = a at *
          generalize hxd : (curT v n k).2 = dd at *
          have Hxa := hide hxa
          have Hxd := hide hxd
          clear hxa hxd hown
          go_wp2
          go_quiet (fail)
          go_wp2
          go_quiet (fail)
          clear t1 t2 t0
          go_wp2
          go_roundw
          case rel => exact ⟨k + 1, by omega, by go_num, by rw [hs.out, Hxa.out], by rw [hs.out, Hxd.out], hFBr.drewN _⟩
          case measure => simp [intOf]; omega
    · obtain rfl : k = N := by omega
      have h5 := HaN.out
      have h6 := HdN.out
      clear HaN HdN HI
      generalize (curT v n k).1 = a at *
      generalize (curT v n k).2 = d at *
      subst h5
      subst h6
      obtain ⟨a, rfl⟩ : ∃ a, a = aN := ⟨_, rfl⟩
      obtain ⟨d, rfl⟩ : ∃ d, d = dN := ⟨_, rfl⟩
      have hg : 0 < Nat.gcd a d := Nat.gcd_pos_of_pos_right _ (by omega)
      have d1 : wrap64 ((a : Int) / ((Nat.gcd a d : Nat) : Int)) = ((a / Nat.gcd a d : Nat) : Int) := by
        have := Nat.div_le_self a (Nat.gcd a d)
        rw [show (a : Int) / ((Nat.gcd a d : Nat) : Int) = ((a / Nat.gcd a d : Nat) : Int) by norm_cast]
        generalize a / Nat.gcd a d = q at *
        exact IntWalk.wrap64_in _ (by omega)
      have d2 : wrap64 ((d : Int) / ((Nat.gcd a d : Nat) : Int)) = ((d / Nat.gcd a d : Nat) : Int) := by
        have := Nat.div_le_self d (Nat.gcd a d)
        rw [show (d : Int) / ((Nat.gcd a d : Nat) : Int) = ((d / Nat.gcd a d : Nat) : Int) by norm_cast]
        generalize d / Nat.gcd a d = q at *
        exact IntWalk.wrap64_in _ (by omega)
      go_wp2_with fail
      refine (l13Divisor_any a d _ (by omega) (by omega) hg).mono ?_
      rintro e w2 ⟨rfl, rfl⟩
      go_wp2
      go_quiet (fail)
      go_wp2
      go_ret3
      exact ⟨by rw [← d1, ← d2]; rfl, (hFBr.drewN _).1⟩
end Go.Proofs.Ytboggeipdgimdaa
