/-
  Walks: does greed reach its part; the ratio of greed to the best.
-/
import Derived.Test.YtpdobkbnfphkfaaGreedy
import Derived.Test.YtpdobkbnfphkfaaCurv
namespace Go.Proofs.Ytpdobkbnfphkfaa
open Go.RowKit

/-- b times itself, n times. -/
def pw (b : Int) : Nat → Int
  | 0 => 1
  | j + 1 => pw b j * b
theorem pw_bds : ∀ q : Fin 7, ∀ j : Fin 6, -3125 ≤ pw ((q.val : Int) - 1) j.val ∧ pw ((q.val : Int) - 1) j.val ≤ 3125 := by decide +kernel
theorem pw_bd {b : Int} {j : Nat} (h1 : -1 ≤ b) (h2 : b ≤ 5) (hj : j ≤ 5) : -3125 ≤ pw b j ∧ pw b j ≤ 3125 := by
  have h := pw_bds ⟨(b + 1).toNat, by omega⟩ ⟨j, by omega⟩
  simp only [Int.toNat_of_nonneg (show 0 ≤ b + 1 by omega), Int.add_sub_cancel] at h
  exact h
theorem prod_abs {x y l q : Int} (h1 : -l ≤ x) (h2 : x ≤ l) (h3 : -q ≤ y) (h4 : y ≤ q) : -(l * q) ≤ x * y ∧ x * y ≤ l * q := by
  have a : (x * y).natAbs ≤ l.natAbs * q.natAbs := by
    rw [Int.natAbs_mul]; exact Nat.mul_le_mul (by omega) (by omega)
  have hl : 0 ≤ l := by omega
  have hq : 0 ≤ q := by omega
  have e : ((l.natAbs * q.natAbs : Nat) : Int) = l * q := by
    rw [Int.natCast_mul, Int.natAbs_of_nonneg hl, Int.natAbs_of_nonneg hq]
  omega
theorem best_bd {N n : Nat} {v : List Int} (fo : FnOk N n v) (k : Int) : -1000 ≤ gv v (bestN (sizeP k) v n) ∧ gv v (bestN (sizeP k) v n) ≤ 1000 := fo.bd (bestN_lt _ _ _ fo.n0)
def gr1 (v : List Int) (N K : Nat) : Int := gv v (grN v N K).2
theorem gr_bd {N n : Nat} {v : List Int} (fo : FnOk N n v) {K : Nat} (hK : K ≤ N) : -1000 ≤ gr1 v N K ∧ gr1 v N K ≤ 1000 := by
  have h := (gr_inv v fo.hN K hK).1
  rw [← fo.hn] at h
  exact fo.bd h
def best1 (v : List Int) (n K : Nat) : Int := gv v (bestN (sizeP K) v n)
def reachB (E : Int) (v : List Int) (k : Int) : Bool := polyB E v && (bestOk E v k && decide ((best1 v v.length k.toNat - gr1 v E.toNat k.toNat) * pw k k.toNat ≤ best1 v v.length k.toNat * pw (k - 1) k.toNat))
def ratOk (E : Int) (v : List Int) (k : Int) : Bool := polyB E v && bestOk E v k
def ratA (E : Int) (v : List Int) (k : Int) : Int := if ratOk E v k then (if best1 v v.length k.toNat = 0 then 1 else (((gr1 v E.toNat k.toNat).toNat / Nat.gcd (gr1 v E.toNat k.toNat).toNat (best1 v v.length k.toNat).toNat : Nat) : Int)) else 0
def ratB (E : Int) (v : List Int) (k : Int) : Int := if ratOk E v k then (if best1 v v.length k.toNat = 0 then 1 else (((best1 v v.length k.toNat).toNat / Nat.gcd (gr1 v E.toNat k.toNat).toNat (best1 v v.length k.toNat).toNat : Nat) : Int)) else 0
theorem best_parts {E : Int} {v : List Int} {k : Int} (h : bestOk E v k = true) : isFn E v = true ∧ 0 ≤ k ∧ k ≤ E := by
  simp only [bestOk, Bool.and_eq_true] at h
  exact ⟨h.1, inR_true h.2⟩

theorem power_any (b : Int) (n : Nat) (w : World) (h1 : -1 ≤ b) (h2 : b ≤ 5) (hn : n ≤ 5) :
    Calls Try.prog 58 #[.int .i64 b, .int .i64 (n : Int)] w fun e w' => e = .returned (.int .i64 (pw b n)) ∧ w = w' := by
  go_enter Try.func58, Try.ntmps58
  go_wp2
  go_loop [5, 7] (fun p t => ∃ j : Nat, j ≤ n ∧ t = .int .i64 j ∧ p = .int .i64 (pw b j)) (fun _ t => n - (intOf t).toNat)
  case atStart => exact ⟨0, Nat.zero_le _, rfl, rfl⟩
  case round =>
    obtain ⟨j, hj, rfl, rfl⟩ := hrel
    by_cases hlt : j < n
    · have hs := hide (show pw b (j + 1) = pw b j * b from rfl)
      have hb := pw_bd (b := b) (j := j + 1) h1 h2 (by omega)
      have t1 := hide (show wrap64 (pw b j * b) = pw b j * b from IntWalk.wrap64_in _ (by have := hs.out; omega))
      clear hb
      go_wp2
      go_round
      case rel => exact ⟨j + 1, by omega, by go_num, by rw [hs.out, t1.out]⟩
      case measure => simp [intOf]; omega
    · obtain rfl : j = n := by omega
      go_wp2
      go_ret
      exact ⟨rfl, rfl⟩
set_option maxHeartbeats 2000000 in
theorem greedyReaches_any (E : Int) (A : Option Addr) (n c : Nat) (v : List Int) (k : Int) (w : World) (hv : Ints w A n v) :
    Calls Try.prog 25 #[.agg #[.int .i64 E, .slice A n c], .int .i64 k] w fun e w' => e = .returned (.bool (reachB E v k)) ∧ Below w.heap.size w w' := by
  have hF0 := FB.start w E A n c
  obtain ⟨hbel0, hz0, r0, r1⟩ := hF0.parts
  have hcall := isPolymatroid_any E A n c v _ (hv.below hbel0 (Nat.le_refl _))
  cases hp : polyB E v
  · have e0 : reachB E v k = false := by simp [reachB, hp]
    rw [e0]; clear e0
    rw [hp] at hcall
    have HC := hide hcall; clear hcall
    go_enter Try.func25, Try.ntmps25
    go_wp2_with fail
    refine HC.out.mono ?_
    rintro e w1 ⟨rfl, hb1⟩
    go_wp2
    go_ret
    exact ⟨rfl, (hF0.step hb1).1⟩
  rw [hp] at hcall
  have HC := hide hcall; clear hcall
  have HB := hide (fun W (h : Below w.heap.size w W) => bestOfSize_any E A n c v k W (hv.below h (Nat.le_refl _)))
  have HG := hide (fun W (h : Below w.heap.size w W) => greedyOfSize_any E A n c v k W (hv.below h (Nat.le_refl _)))
  cases hk : bestOk E v k
  · have e0 : reachB E v k = false := by simp [reachB, hk]
    rw [e0]; clear e0
    rw [hk] at HB HG
    clear hk
    go_enter Try.func25, Try.ntmps25
    go_wp2_with fail
    refine HC.out.mono ?_
    rintro e w1 ⟨rfl, hb1⟩
    have hF1 := hF0.step hb1
    clear r0 r1
    obtain ⟨hbel1, hz1, r0, r1⟩ := hF1.parts
    go_wp2_with fail
    refine (HB.out _ hbel1).mono ?_
    rintro e w2 ⟨rfl, hb2⟩
    have hF2 := hF1.step hb2
    clear r0 r1
    obtain ⟨hbel2, hz2, r0, r1⟩ := hF2.parts
    go_wp2_with fail
    refine (HG.out _ hbel2).mono ?_
    rintro e w3 ⟨B, r, cr, rfl, hown, hr, hb3⟩
    have hF3 := hF2.step hb3
    go_wp2
    go_ret
    exact ⟨rfl, hF3.1⟩
  obtain ⟨hf, hk0, hkE⟩ := best_parts hk
  have hvl := hv.len
  obtain ⟨N, rfl, fo⟩ := FnOk.of hf hv
  obtain ⟨K, rfl⟩ := Int.eq_ofNat_of_zero_le hk0
  have hKN : K ≤ N := by omega
  have hN := fo.hN
  have e1 : bestV N v K = best1 v n K := by simp [bestV, hk, hvl, best1]
  have e2 : grV N v K = gr1 v N K := by simp [grV, hk, gr1]
  have e0 : reachB N v K = decide ((best1 v n K - gr1 v N K) * pw K K ≤ best1 v n K * pw ((K : Int) - 1) K) := by simp [reachB, hp, hk, hvl]
  rw [e0]; clear e0
  rw [e1, hk] at HB
  rw [e2, hk] at HG
  have b1 : -1000 ≤ best1 v n K ∧ best1 v n K ≤ 1000 := best_bd fo K
  have b2 := gr_bd fo hKN
  have b3 := pw_bd (b := K) (j := K) (by omega) (by omega) (by omega)
  have b4 := pw_bd (b := (K : Int) - 1) (j := K) (by omega) (by omega) (by omega)
  have HP1 := hide (fun W => power_any (K : Int) K W (by omega) (by omega) (by omega))
  have HP2 := hide (fun W => power_any ((K : Int) - 1) K W (by omega) (by omega) (by omega))
  clear e1 e2 hk hp hf hvl
  generalize best1 v n K = X at *
  generalize gr1 v N K = Y at *
  generalize pw (K : Int) K = Z at *
  generalize pw ((K : Int) - 1) K = U at *
  have m1 := prod_abs (l := 2000) (q := 3125) (show -2000 ≤ X - Y by omega) (by omega) b3.1 b3.2
  have m2 := prod_abs (l := 1000) (q := 3125) b1.1 b1.2 b4.1 b4.2
  have t1 : wrap64 (X - Y) = X - Y := IntWalk.wrap64_in _ (by omega)
  have t2 : wrap64 ((X - Y) * Z) = (X - Y) * Z := IntWalk.wrap64_in _ (by omega)
  have t3 : wrap64 (X * U) = X * U := IntWalk.wrap64_in _ (by omega)
  have t4 : wrap64 ((K : Int) - 1) = (K : Int) - 1 := IntWalk.wrap64_in _ (by omega)
  go_enter Try.func25, Try.ntmps25
  go_wp2_with fail
  refine HC.out.mono ?_
  rintro e w1 ⟨rfl, hb1⟩
  have hF1 := hF0.step hb1
  clear r0 r1
  obtain ⟨hbel1, hz1, r0, r1⟩ := hF1.parts
  go_wp2_with fail
  refine (HB.out _ hbel1).mono ?_
  rintro e w2 ⟨rfl, hb2⟩
  have hF2 := hF1.step hb2
  clear r0 r1
  obtain ⟨hbel2, hz2, r0, r1⟩ := hF2.parts
  go_wp2_with fail
  refine (HG.out _ hbel2).mono ?_
  rintro e w3 ⟨B, r, cr, rfl, hown, hr, hb3⟩
  have hF3 := hF2.step hb3
  go_wp2_with fail
  refine (HP1.out _).mono ?_
  rintro e w4 ⟨rfl, rfl⟩
  go_wp2_with fail
  refine (HP2.out _).mono ?_
  rintro e w4 ⟨rfl, rfl⟩
  go_wp2
  go_ret
  exact ⟨rfl, hF3.1⟩
set_option maxHeartbeats 2000000 in
theorem specGreedyReaches_any (E : Int) (A : Option Addr) (n c : Nat) (v : List Int) (k : Int) (w : World) (hv : Ints w A n v) :
    Calls Try.prog 24 #[.agg #[.int .i64 E, .slice A n c], .int .i64 k] w fun e w' => e = .returned (.bool (reachB E v k)) ∧ Below w.heap.size w w' := by
  have hF0 := FB.start w E A n c
  obtain ⟨hbel0, hz0, r0, r1⟩ := hF0.parts
  have HB := hide (fun W (h : Below w.heap.size w W) => specBestOfSize_any E A n c v k W (hv.below h (Nat.le_refl _)))
  have HG := hide (fun W (h : Below w.heap.size w W) => specGreedyOfSize_any E A n c v k W (hv.below h (Nat.le_refl _)))
  have HC := hide (fun W (h : Below w.heap.size w W) => specIsPolymatroid_any E A n c v W (hv.below h (Nat.le_refl _)))
  cases hk : bestOk E v k
  · have e0 : reachB E v k = false := by simp [reachB, hk]
    rw [e0]; clear e0
    rw [hk] at HB HG
    clear hk
    go_enter Try.func24, Try.ntmps24
    go_wp2_with fail
    refine (HB.out _ hbel0).mono ?_
    rintro e w2 ⟨rfl, hb2⟩
    have hF2 := hF0.step hb2
    clear r0 r1
    obtain ⟨hbel2, hz2, r0, r1⟩ := hF2.parts
    go_wp2_with fail
    refine (HG.out _ hbel2).mono ?_
    rintro e w3 ⟨B, r, cr, rfl, hown, hr, hb3⟩
    have hF3 := hF2.step hb3
    go_wp2
    go_ret
    exact ⟨rfl, hF3.1⟩
  cases hp : polyB E v
  · have e0 : reachB E v k = false := by simp [reachB, hp]
    rw [e0]; clear e0
    rw [hk] at HB HG
    rw [hp] at HC
    clear hk hp
    go_enter Try.func24, Try.ntmps24
    go_wp2_with fail
    refine (HB.out _ hbel0).mono ?_
    rintro e w2 ⟨rfl, hb2⟩
    have hF2 := hF0.step hb2
    clear r0 r1
    obtain ⟨hbel2, hz2, r0, r1⟩ := hF2.parts
    go_wp2_with fail
    refine (HG.out _ hbel2).mono ?_
    rintro e w3 ⟨B, r, cr, rfl, hown, hr, hb3⟩
    have hF3 := hF2.step hb3
    clear r0 r1
    obtain ⟨hbel3, hz3, r0, r1⟩ := hF3.parts
    go_wp2_with fail
    refine (HC.out _ hbel3).mono ?_
    rintro e w4 ⟨rfl, hb4⟩
    go_wp2
    go_ret
    exact ⟨rfl, (hF3.step hb4).1⟩
  obtain ⟨hf, hk0, hkE⟩ := best_parts hk
  have hvl := hv.len
  obtain ⟨N, rfl, fo⟩ := FnOk.of hf hv
  obtain ⟨K, rfl⟩ := Int.eq_ofNat_of_zero_le hk0
  have hKN : K ≤ N := by omega
  have hN := fo.hN
  have e1 : bestV N v K = best1 v n K := by simp [bestV, hk, hvl, best1]
  have e2 : grV N v K = gr1 v N K := by simp [grV, hk, gr1]
  have e0 : reachB N v K = decide ((best1 v n K - gr1 v N K) * pw K K ≤ best1 v n K * pw ((K : Int) - 1) K) := by simp [reachB, hp, hk, hvl]
  rw [e0]; clear e0
  rw [e1, hk] at HB
  rw [e2, hk] at HG
  rw [hp] at HC
  have b1 : -1000 ≤ best1 v n K ∧ best1 v n K ≤ 1000 := best_bd fo K
  have b2 := gr_bd fo hKN
  have b3 := hide (fun j (hj : j ≤ 5) => pw_bd (b := K) (j := j) (by omega) (by omega) hj)
  have b4 := hide (fun j (hj : j ≤ 5) => pw_bd (b := (K : Int) - 1) (j := j) (by omega) (by omega) hj)
  clear e1 e2 hk hp hf hvl
  generalize best1 v n K = X at *
  generalize gr1 v N K = Y at *
  have m1 := prod_abs (l := 2000) (q := 3125) (show -2000 ≤ X - Y by omega) (by omega) (b3.out K (by omega)).1 (b3.out K (by omega)).2
  have m2 := prod_abs (l := 1000) (q := 3125) b1.1 b1.2 (b4.out K (by omega)).1 (b4.out K (by omega)).2
  have t1 : wrap64 (X - Y) = X - Y := IntWalk.wrap64_in _ (by omega)
  have t2 : wrap64 ((X - Y) * pw K K) = (X - Y) * pw K K := IntWalk.wrap64_in _ (by omega)
  have t3 : wrap64 (X * pw ((K : Int) - 1) K) = X * pw ((K : Int) - 1) K := IntWalk.wrap64_in _ (by omega)
  have t4 : wrap64 ((K : Int) - 1) = (K : Int) - 1 := IntWalk.wrap64_in _ (by omega)
  have T2 := hide t2
  have T3 := hide t3
  clear t2 t3 m1 m2
  go_enter Try.func24, Try.ntmps24
  go_wp2_with fail
  refine (HB.out _ hbel0).mono ?_
  rintro e w2 ⟨rfl, hb2⟩
  have hF2 := hF0.step hb2
  clear r0 r1
  obtain ⟨hbel2, hz2, r0, r1⟩ := hF2.parts
  go_wp2_with fail
  refine (HG.out _ hbel2).mono ?_
  rintro e w3 ⟨B, r, cr, rfl, hown, hr, hb3⟩
  have hF3 := hF2.step hb3
  clear r0 r1
  obtain ⟨hbel3, hz3, r0, r1⟩ := hF3.parts
  go_wp2_with fail
  refine (HC.out _ hbel3).mono ?_
  rintro e w4 ⟨rfl, hb4⟩
  have hF4 := hF3.step hb4
  clear r0 r1
  go_wp2
  go_loop [11, 12, 13] (fun p q t => ∃ j : Nat, j ≤ K ∧ t = .int .i64 j ∧ p = .int .i64 (pw K j) ∧ q = .int .i64 (pw ((K : Int) - 1) j)) (fun _ _ t => K - (intOf t).toNat)
  case atStart => exact ⟨0, Nat.zero_le _, rfl, rfl, rfl⟩
  case round =>
    obtain ⟨j, hj, rfl, rfl, rfl⟩ := hrel
    by_cases hlt : j < K
    · have hs1 := hide (show pw (K : Int) (j + 1) = pw K j * K from rfl)
      have hs2 := hide (show pw ((K : Int) - 1) (j + 1) = pw ((K : Int) - 1) j * ((K : Int) - 1) from rfl)
      have u1 := hide (show wrap64 (pw K j * K) = pw K j * K from IntWalk.wrap64_in _ (by have := hs1.out; have := b3.out (j + 1) (by omega); omega))
      have u2 := hide (show wrap64 (pw ((K : Int) - 1) j * ((K : Int) - 1)) = pw ((K : Int) - 1) j * ((K : Int) - 1) from IntWalk.wrap64_in _ (by have := hs2.out; have := b4.out (j + 1) (by omega); omega))
      go_wp2
      go_round
      case rel => exact ⟨j + 1, by omega, by go_num, by rw [hs1.out, u1.out], by rw [hs2.out, u2.out]⟩
      case measure => simp [intOf]; omega
    · obtain rfl : j = K := by omega
      have t2 := T2.out
      have t3 := T3.out
      go_wp2
      go_ret
      exact ⟨rfl, hF4.1⟩
set_option maxHeartbeats 2000000 in
theorem ratioOf_any (E : Int) (A : Option Addr) (n c : Nat) (v : List Int) (k : Int) (w : World) (hv : Ints w A n v) :
    Calls Try.prog 27 #[.agg #[.int .i64 E, .slice A n c], .int .i64 k] w fun e w' => e = .returned (.tuple #[.int .i64 (ratA E v k), .int .i64 (ratB E v k), .bool (ratOk E v k)]) ∧ Below w.heap.size w w' := by
  have hF0 := FB.start w E A n c
  obtain ⟨hbel0, hz0, r0, r1⟩ := hF0.parts
  have HB := hide (fun W (h : Below w.heap.size w W) => bestOfSize_any E A n c v k W (hv.below h (Nat.le_refl _)))
  have HG := hide (fun W (h : Below w.heap.size w W) => greedyOfSize_any E A n c v k W (hv.below h (Nat.le_refl _)))
  have HC := hide (fun W (h : Below w.heap.size w W) => isPolymatroid_any E A n c v W (hv.below h (Nat.le_refl _)))
  cases hk : bestOk E v k
  · have e0 : ratOk E v k = false := by simp [ratOk, hk]
    have e1 : ratA E v k = 0 := by simp [ratA, e0]
    have e2 : ratB E v k = 0 := by simp [ratB, e0]
    rw [e0, e1, e2]; clear e0 e1 e2
    rw [hk] at HB HG
    clear hk
    go_enter Try.func27, Try.ntmps27
    go_wp2_with fail
    refine (HB.out _ hbel0).mono ?_
    rintro e w2 ⟨rfl, hb2⟩
    have hF2 := hF0.step hb2
    clear r0 r1
    obtain ⟨hbel2, hz2, r0, r1⟩ := hF2.parts
    go_wp2_with fail
    refine (HG.out _ hbel2).mono ?_
    rintro e w3 ⟨B, r, cr, rfl, hown, hr, hb3⟩
    have hF3 := hF2.step hb3
    go_wp2
    go_ret3
    exact ⟨rfl, hF3.1⟩
  cases hp : polyB E v
  · have e0 : ratOk E v k = false := by simp [ratOk, hp]
    have e1 : ratA E v k = 0 := by simp [ratA, e0]
    have e2 : ratB E v k = 0 := by simp [ratB, e0]
    rw [e0, e1, e2]; clear e0 e1 e2
    rw [hk] at HB HG
    rw [hp] at HC
    clear hk hp
    go_enter Try.func27, Try.ntmps27
    go_wp2_with fail
    refine (HB.out _ hbel0).mono ?_
    rintro e w2 ⟨rfl, hb2⟩
    have hF2 := hF0.step hb2
    clear r0 r1
    obtain ⟨hbel2, hz2, r0, r1⟩ := hF2.parts
    go_wp2_with fail
    refine (HG.out _ hbel2).mono ?_
    rintro e w3 ⟨B, r, cr, rfl, hown, hr, hb3⟩
    have hF3 := hF2.step hb3
    clear r0 r1
    obtain ⟨hbel3, hz3, r0, r1⟩ := hF3.parts
    go_wp2_with fail
    refine (HC.out _ hbel3).mono ?_
    rintro e w4 ⟨rfl, hb4⟩
    go_wp2
    go_ret3
    exact ⟨rfl, (hF3.step hb4).1⟩
  obtain ⟨hf, hk0, hkE⟩ := best_parts hk
  have hvl := hv.len
  have hpos := poly_pos hp
  rw [hvl] at hpos
  have HR := hide (show ratOk E v k = true by simp [ratOk, hp, hk])
  obtain ⟨N, rfl, fo⟩ := FnOk.of hf hv
  obtain ⟨K, rfl⟩ := Int.eq_ofNat_of_zero_le hk0
  have hKN : K ≤ N := by omega
  have hN := fo.hN
  have e1 : bestV N v K = best1 v n K := by simp [bestV, hk, hvl, best1]
  have e2 : grV N v K = gr1 v N K := by simp [grV, hk, gr1]
  rw [e1, hk] at HB
  rw [e2, hk] at HG
  rw [hp] at HC
  have b1 : -1000 ≤ best1 v n K ∧ best1 v n K ≤ 1000 := best_bd fo K
  have b2 := gr_bd fo hKN
  have b5 : 0 ≤ best1 v n K := hpos _ (bestN_lt _ _ _ fo.n0)
  have b6 : 0 ≤ gr1 v N K := hpos _ (by have h := (gr_inv v fo.hN K hKN).1; rw [← fo.hn] at h; exact h)
  have eA : ratA N v K = if best1 v n K = 0 then 1 else (((gr1 v N K).toNat / Nat.gcd (gr1 v N K).toNat (best1 v n K).toNat : Nat) : Int) := by simp [ratA, HR.out, hvl]
  have eB : ratB N v K = if best1 v n K = 0 then 1 else (((best1 v n K).toNat / Nat.gcd (gr1 v N K).toNat (best1 v n K).toNat : Nat) : Int) := by simp [ratB, HR.out, hvl]
  rw [eA, eB]
  clear e1 e2 hk hp hf hvl hpos eA eB
  generalize best1 v n K = X at *
  generalize gr1 v N K = Y at *
  obtain ⟨x, rfl⟩ := Int.eq_ofNat_of_zero_le b5
  obtain ⟨y, rfl⟩ := Int.eq_ofNat_of_zero_le b6
  rw [Int.toNat_natCast, Int.toNat_natCast, HR.out]
  have x1 : x ≤ 1000 := by omega
  have y1 : y ≤ 1000 := by omega
  clear b1 b2 b5 b6
  by_cases hx : x = 0
  · have hx3 : ((x : Nat) : Int) = 0 := by omega
    rw [if_pos hx3, if_pos hx3]
    clear hx3
    subst hx
    go_enter Try.func27, Try.ntmps27
    go_wp2_with fail
    refine (HB.out _ hbel0).mono ?_
    rintro e w2 ⟨rfl, hb2⟩
    have hF2 := hF0.step hb2
    clear r0 r1
    obtain ⟨hbel2, hz2, r0, r1⟩ := hF2.parts
    go_wp2_with fail
    refine (HG.out _ hbel2).mono ?_
    rintro e w3 ⟨B, r, cr, rfl, hown, hr, hb3⟩
    have hF3 := hF2.step hb3
    clear r0 r1
    obtain ⟨hbel3, hz3, r0, r1⟩ := hF3.parts
    go_wp2_with fail
    refine (HC.out _ hbel3).mono ?_
    rintro e w4 ⟨rfl, hb4⟩
    have hF4 := hF3.step hb4
    clear r0 r1
    go_wp2
    go_ret3
    exact ⟨rfl, hF4.1⟩
  · have hx2 : ((x : Int) == 0) = false := by simp [hx]
    have hx3 := hide (show ¬ ((x : Int) = 0) by omega)
    have hg : 0 < Nat.gcd y x := Nat.gcd_pos_of_pos_right _ (by omega)
    clear hx
    rw [if_neg hx3.out, if_neg hx3.out]
    go_enter Try.func27, Try.ntmps27
    go_wp2_with fail
    refine (HB.out _ hbel0).mono ?_
    rintro e w2 ⟨rfl, hb2⟩
    have hF2 := hF0.step hb2
    clear r0 r1
    obtain ⟨hbel2, hz2, r0, r1⟩ := hF2.parts
    go_wp2_with fail
    refine (HG.out _ hbel2).mono ?_
    rintro e w3 ⟨B, r, cr, rfl, hown, hr, hb3⟩
    have hF3 := hF2.step hb3
    clear r0 r1
    obtain ⟨hbel3, hz3, r0, r1⟩ := hF3.parts
    go_wp2_with fail
    refine (HC.out _ hbel3).mono ?_
    rintro e w4 ⟨rfl, hb4⟩
    have hF4 := hF3.step hb4
    clear r0 r1
    go_wp2_with fail
    refine (lowest_any y x _ (by omega) (by omega) hg).mono ?_
    rintro e w5 ⟨rfl, hb5⟩
    go_wp2
    go_ret3
    exact ⟨rfl, (hF4.step hb5).1⟩
set_option maxHeartbeats 2000000 in
theorem specRatioOf_any (E : Int) (A : Option Addr) (n c : Nat) (v : List Int) (k : Int) (w : World) (hv : Ints w A n v) :
    Calls Try.prog 26 #[.agg #[.int .i64 E, .slice A n c], .int .i64 k] w fun e w' => e = .returned (.tuple #[.int .i64 (ratA E v k), .int .i64 (ratB E v k), .bool (ratOk E v k)]) ∧ Below w.heap.size w w' := by
  have hF0 := FB.start w E A n c
  obtain ⟨hbel0, hz0, r0, r1⟩ := hF0.parts
  have HB := hide (fun W (h : Below w.heap.size w W) => specBestOfSize_any E A n c v k W (hv.below h (Nat.le_refl _)))
  have HG := hide (fun W (h : Below w.heap.size w W) => specGreedyOfSize_any E A n c v k W (hv.below h (Nat.le_refl _)))
  have HC := hide (fun W (h : Below w.heap.size w W) => specIsPolymatroid_any E A n c v W (hv.below h (Nat.le_refl _)))
  cases hp : polyB E v
  · have e0 : ratOk E v k = false := by simp [ratOk, hp]
    have e1 : ratA E v k = 0 := by simp [ratA, e0]
    have e2 : ratB E v k = 0 := by simp [ratB, e0]
    rw [e0, e1, e2]; clear e0 e1 e2
    rw [hp] at HC
    clear hp
    go_enter Try.func26, Try.ntmps26
    go_wp2_with fail
    refine (HC.out _ hbel0).mono ?_
    rintro e w4 ⟨rfl, hb4⟩
    go_wp2
    go_ret3
    exact ⟨rfl, (hF0.step hb4).1⟩
  cases hk : bestOk E v k
  · have e0 : ratOk E v k = false := by simp [ratOk, hk]
    have e1 : ratA E v k = 0 := by simp [ratA, e0]
    have e2 : ratB E v k = 0 := by simp [ratB, e0]
    rw [e0, e1, e2]; clear e0 e1 e2
    rw [hk] at HB HG
    rw [hp] at HC
    clear hk hp
    go_enter Try.func26, Try.ntmps26
    go_wp2_with fail
    refine (HC.out _ hbel0).mono ?_
    rintro e w1 ⟨rfl, hb1⟩
    have hF1 := hF0.step hb1
    clear r0 r1
    obtain ⟨hbel1, hz1, r0, r1⟩ := hF1.parts
    go_wp2_with fail
    refine (HB.out _ hbel1).mono ?_
    rintro e w2 ⟨rfl, hb2⟩
    have hF2 := hF1.step hb2
    clear r0 r1
    obtain ⟨hbel2, hz2, r0, r1⟩ := hF2.parts
    go_wp2_with fail
    refine (HG.out _ hbel2).mono ?_
    rintro e w3 ⟨B, r, cr, rfl, hown, hr, hb3⟩
    have hF3 := hF2.step hb3
    go_wp2
    go_ret3
    exact ⟨rfl, hF3.1⟩
  obtain ⟨hf, hk0, hkE⟩ := best_parts hk
  have hvl := hv.len
  have hpos := poly_pos hp
  rw [hvl] at hpos
  have HR := hide (show ratOk E v k = true by simp [ratOk, hp, hk])
  obtain ⟨N, rfl, fo⟩ := FnOk.of hf hv
  obtain ⟨K, rfl⟩ := Int.eq_ofNat_of_zero_le hk0
  have hKN : K ≤ N := by omega
  have hN := fo.hN
  have e1 : bestV N v K = best1 v n K := by simp [bestV, hk, hvl, best1]
  have e2 : grV N v K = gr1 v N K := by simp [grV, hk, gr1]
  rw [e1, hk] at HB
  rw [e2, hk] at HG
  rw [hp] at HC
  have b1 : -1000 ≤ best1 v n K ∧ best1 v n K ≤ 1000 := best_bd fo K
  have b2 := gr_bd fo hKN
  have b5 : 0 ≤ best1 v n K := hpos _ (bestN_lt _ _ _ fo.n0)
  have b6 : 0 ≤ gr1 v N K := hpos _ (by have h := (gr_inv v fo.hN K hKN).1; rw [← fo.hn] at h; exact h)
  have eA : ratA N v K = if best1 v n K = 0 then 1 else (((gr1 v N K).toNat / Nat.gcd (gr1 v N K).toNat (best1 v n K).toNat : Nat) : Int) := by simp [ratA, HR.out, hvl]
  have eB : ratB N v K = if best1 v n K = 0 then 1 else (((best1 v n K).toNat / Nat.gcd (gr1 v N K).toNat (best1 v n K).toNat : Nat) : Int) := by simp [ratB, HR.out, hvl]
  rw [eA, eB]
  clear e1 e2 hk hp hf hvl hpos eA eB
  generalize best1 v n K = X at *
  generalize gr1 v N K = Y at *
  obtain ⟨x, rfl⟩ := Int.eq_ofNat_of_zero_le b5
  obtain ⟨y, rfl⟩ := Int.eq_ofNat_of_zero_le b6
  rw [Int.toNat_natCast, Int.toNat_natCast, HR.out]
  have x1 : x ≤ 1000 := by omega
  have y1 : y ≤ 1000 := by omega
  clear b1 b2 b5 b6
  by_cases hx : x = 0
  · have hx3 : ((x : Nat) : Int) = 0 := by omega
    rw [if_pos hx3, if_pos hx3]
    clear hx3
    subst hx
    go_enter Try.func26, Try.ntmps26
    go_wp2_with fail
    refine (HC.out _ hbel0).mono ?_
    rintro e w1 ⟨rfl, hb1⟩
    have hF1 := hF0.step hb1
    clear r0 r1
    obtain ⟨hbel1, hz1, r0, r1⟩ := hF1.parts
    go_wp2_with fail
    refine (HB.out _ hbel1).mono ?_
    rintro e w2 ⟨rfl, hb2⟩
    have hF2 := hF1.step hb2
    clear r0 r1
    obtain ⟨hbel2, hz2, r0, r1⟩ := hF2.parts
    go_wp2_with fail
    refine (HG.out _ hbel2).mono ?_
    rintro e w3 ⟨B, r, cr, rfl, hown, hr, hb3⟩
    have hF3 := hF2.step hb3
    clear r0 r1
    go_wp2
    go_ret3
    exact ⟨rfl, hF3.1⟩
  · have hx2 : ((x : Int) == 0) = false := by simp [hx]
    have hx3 := hide (show ¬ ((x : Int) = 0) by omega)
    have hg : 0 < Nat.gcd x y := Nat.gcd_pos_of_pos_left _ (by omega)
    rw [Nat.gcd_comm y x]
    clear hx
    have d1 : wrap64 ((y : Int) / ((Nat.gcd x y : Nat) : Int)) = ((y / Nat.gcd x y : Nat) : Int) := by
      have := Nat.div_le_self y (Nat.gcd x y)
      rw [show (y : Int) / ((Nat.gcd x y : Nat) : Int) = ((y / Nat.gcd x y : Nat) : Int) by norm_cast]
      generalize y / Nat.gcd x y = q at *
      exact IntWalk.wrap64_in _ (by omega)
    have d2 : wrap64 ((x : Int) / ((Nat.gcd x y : Nat) : Int)) = ((x / Nat.gcd x y : Nat) : Int) := by
      have := Nat.div_le_self x (Nat.gcd x y)
      rw [show (x : Int) / ((Nat.gcd x y : Nat) : Int) = ((x / Nat.gcd x y : Nat) : Int) by norm_cast]
      generalize x / Nat.gcd x y = q at *
      exact IntWalk.wrap64_in _ (by omega)
    rw [if_neg hx3.out, if_neg hx3.out]
    have D1 := hide d1
    have D2 := hide d2
    clear d1 d2
    go_enter Try.func26, Try.ntmps26
    go_wp2_with fail
    refine (HC.out _ hbel0).mono ?_
    rintro e w1 ⟨rfl, hb1⟩
    have hF1 := hF0.step hb1
    clear r0 r1
    obtain ⟨hbel1, hz1, r0, r1⟩ := hF1.parts
    go_wp2_with fail
    refine (HB.out _ hbel1).mono ?_
    rintro e w2 ⟨rfl, hb2⟩
    have hF2 := hF1.step hb2
    clear r0 r1
    obtain ⟨hbel2, hz2, r0, r1⟩ := hF2.parts
    go_wp2_with fail
    refine (HG.out _ hbel2).mono ?_
    rintro e w3 ⟨B, r, cr, rfl, hown, hr, hb3⟩
    have hF3 := hF2.step hb3
    clear r0 r1
    go_wp2_with fail
    refine (l13Divisor_any x y _ (by omega) (by omega) hg).mono ?_
    rintro e w5 ⟨rfl, rfl⟩
    go_wp2
    go_quiet (fail)
    go_wp2
    go_ret3
    exact ⟨by rw [← D1.out, ← D2.out]; rfl, (hF3.drewN _).1⟩
end Go.Proofs.Ytpdobkbnfphkfaa
