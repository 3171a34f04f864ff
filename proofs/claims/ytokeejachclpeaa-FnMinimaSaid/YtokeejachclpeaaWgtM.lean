/-
  Walks: weights of sets; the rank of a vector.
  Walks: the rank of a vector.
-/
import Derived.Test.YtokeejachclpeaaCore
namespace Go.Proofs.Ytokeejachclpeaa
open Go.RowKit

/-- The weight of what the set has among the first k elements. -/
def wtN (x : List Int) (s : Nat) : Nat → Int
  | 0 => 0
  | k + 1 => if hasB s k then wtN x s k + gv x k else wtN x s k
def weigh (x : List Int) (s : Nat) : Int := wtN x s x.length
theorem wtN_bd {x : List Int} (hx : allIn x (-5000) 5000 = true) (s : Nat) : ∀ k : Nat, k ≤ x.length → -5000 * (k : Int) ≤ wtN x s k ∧ wtN x s k ≤ 5000 * (k : Int)
  | 0, _ => by simp [wtN]
  | k + 1, hk => by
    have h1 := wtN_bd hx s k (by omega)
    have h2 := allIn_gv (k := k) (by omega) hx
    unfold wtN; split <;> omega
theorem weigh_bd {x : List Int} (hx : vecOk 5000 x = true) (s : Nat) : -25000 ≤ weigh x s ∧ weigh x s ≤ 25000 := by
  obtain ⟨h1, h2⟩ := vecOk_true hx
  have := wtN_bd h2 s x.length (Nat.le_refl _)
  unfold weigh; omega
theorem allIn_mono {x : List Int} {r q : Int} (h : allIn x (-r) r = true) (hr : r ≤ q) : allIn x (-q) q = true := by
  unfold allIn at *
  rw [List.all_eq_true] at *
  intro y hy
  have := inR_true (h y hy)
  simp [inR]; omega
theorem vecOk_mono {x : List Int} (h : vecOk 1000 x = true) : vecOk 5000 x = true := by
  obtain ⟨h1, h2⟩ := vecOk_true h
  simp [vecOk, h1, allIn_mono (q := 5000) h2 (by omega)]
theorem wtN_zero (x : List Int) : ∀ k, wtN x 0 k = 0
  | 0 => rfl
  | k + 1 => by unfold wtN; simp [hasB, wtN_zero x k]
theorem weigh_zero (x : List Int) : weigh x 0 = 0 := wtN_zero x _

theorem weightOf_any (A : Option Addr) (n c : Nat) (x : List Int) (s : Nat) (w : World) (hv : Ints w A n x) (hx : vecOk 5000 x = true) (hs : s < 1024) :
    Calls Try.prog 152 #[.slice A n c, .int .i64 s] w fun e w' => e = .returned (.int .i64 (weigh x s)) ∧ w = w' := by
  have hle := hv.le
  have hlen := hide hv.len
  have HX := hide (vecOk_true hx)
  have hn5 : n ≤ 5 := by rw [← hlen.out]; exact HX.out.1
  clear hx
  go_enter Try.func152, Try.ntmps152
  go_wp2
  go_loop [5, 10] (fun t i => ∃ k : Nat, k ≤ n ∧ i = .int .i64 k ∧ t = .int .i64 (wtN x s k)) (fun _ i => n - (intOf i).toNat)
  case atStart => exact ⟨0, Nat.zero_le _, rfl, rfl⟩
  case round =>
    obtain ⟨k, hk, rfl, rfl⟩ := hrel
    obtain ⟨t1, t2⟩ := wtN_bd HX.out.2 s k (by rw [hlen.out]; exact hk)
    by_cases hlt : k < n
    · obtain ⟨b, off, rfl, hb, hc⟩ := hv.at_ hlt
      obtain ⟨q1, q2⟩ := allIn_gv (k := k) (by rw [hlen.out]; exact hlt) HX.out.2
      cases hh : hasB s k
      · have hs1 := hide (show wtN x s (k + 1) = wtN x s k by simp [wtN, hh])
        go_wp2
        go_round
        case rel => exact ⟨k + 1, by omega, by go_num, by rw [hs1.out]⟩
        case measure => simp [intOf]; omega
      · have hs1 := hide (show wtN x s (k + 1) = wtN x s k + gv x k by simp [wtN, hh])
        go_wp2
        go_round
        case rel => exact ⟨k + 1, by omega, by go_num, by rw [hs1.out]⟩
        case measure => simp [intOf]; omega
    · obtain rfl : k = n := by omega
      go_wp2
      go_ret
      exact ⟨ret_int (by rw [weigh, hlen.out]), rfl⟩
theorem l3Weigh_any (A : Option Addr) (n c : Nat) (x : List Int) (s : Nat) (w : World) (hv : Ints w A n x) (hx : vecOk 5000 x = true) (hs : s < 1024) :
    Calls Try.prog 156 #[.slice A n c, .int .i64 s] w fun e w' => e = .returned (.int .i64 (weigh x s)) ∧ w = w' := by
  have hle := hv.le
  have hlen := hide hv.len
  have HX := hide (vecOk_true hx)
  have hn5 : n ≤ 5 := by rw [← hlen.out]; exact HX.out.1
  clear hx
  go_enter Try.func156, Try.ntmps156
  go_wp2
  go_loop [5, 6] (fun t i => ∃ k : Nat, k ≤ n ∧ i = .int .i64 k ∧ t = .int .i64 (wtN x s k)) (fun _ i => n - (intOf i).toNat)
  case atStart => exact ⟨0, Nat.zero_le _, rfl, rfl⟩
  case round =>
    obtain ⟨k, hk, rfl, rfl⟩ := hrel
    obtain ⟨t1, t2⟩ := wtN_bd HX.out.2 s k (by rw [hlen.out]; exact hk)
    by_cases hlt : k < n
    · obtain ⟨b, off, rfl, hb, hc⟩ := hv.at_ hlt
      obtain ⟨q1, q2⟩ := allIn_gv (k := k) (by rw [hlen.out]; exact hlt) HX.out.2
      cases hh : hasB s k
      · have hs1 := hide (show wtN x s (k + 1) = wtN x s k by simp [wtN, hh])
        go_wp2
        go_round
        case rel => exact ⟨k + 1, by omega, by go_num, by rw [hs1.out]⟩
        case measure => simp [intOf]; omega
      · have hs1 := hide (show wtN x s (k + 1) = wtN x s k + gv x k by simp [wtN, hh])
        go_wp2
        go_round
        case rel => exact ⟨k + 1, by omega, by go_num, by rw [hs1.out]⟩
        case measure => simp [intOf]; omega
    · obtain rfl : k = n := by omega
      go_wp2
      go_ret
      exact ⟨ret_int (by rw [weigh, hlen.out]), rfl⟩
theorem isVectorFor_any (E : Int) (A A' : Option Addr) (n c m c' : Nat) (x : List Int) (w : World) (hx : Ints w A' m x) :
    Calls Try.prog 174 #[.agg #[.int .i64 E, .slice A n c], .slice A' m c'] w fun e w' => e = .returned (.bool (vecOk 1000 x && decide ((x.length : Int) = E))) ∧ Below w.heap.size w w' := by
  have hlen := hide hx.len
  rw [hlen.out]
  cases hv : vecOk 1000 x
  all_goals
    go_enter Try.func174, Try.ntmps174
    go_wp2_with fail
    refine (isVector_any _ _ _ x _ (hx.alloc _)).mono ?_
    rintro e w' ⟨rfl, rfl⟩
    rw [hv]
    go_wp2
    go_ret
    exact ⟨ret_bool (by rw [Bool.eq_iff_iff]; simp), (Below.refl _ _).alloc (Nat.le_refl _) _⟩
end Go.Proofs.Ytokeejachclpeaa
namespace Go.Proofs.Ytokeejachclpeaa
open Go.RowKit

/-- The least of b and of the first k values of c. -/
def mins (c : Nat → Int) (b : Int) : Nat → Int
  | 0 => b
  | k + 1 => min (mins c b k) (c k)
theorem mins_le (c : Nat → Int) (b : Int) : ∀ k, mins c b k ≤ b ∧ ∀ j, j < k → mins c b k ≤ c j
  | 0 => ⟨Int.le_refl _, fun _ h => absurd h (by omega)⟩
  | k + 1 => by
    obtain ⟨h1, h2⟩ := mins_le c b k
    unfold mins
    refine ⟨by omega, fun j hj => ?_⟩
    by_cases e : j = k
    · subst e; omega
    · have := h2 j (by omega); omega
theorem mins_mem (c : Nat → Int) (b : Int) : ∀ k, mins c b k = b ∨ ∃ j, j < k ∧ mins c b k = c j
  | 0 => .inl rfl
  | k + 1 => by
    unfold mins
    rcases Int.le_total (mins c b k) (c k) with h | h
    · rw [Int.min_eq_left h]
      rcases mins_mem c b k with h2 | ⟨j, hj, h2⟩
      · exact .inl h2
      · exact .inr ⟨j, by omega, h2⟩
    · rw [Int.min_eq_right h]; exact .inr ⟨k, by omega, rfl⟩
theorem mins_eq {c : Nat → Int} {b b' : Int} {k j : Nat} (hj : j < k) (h : c j ≤ b) (h' : c j ≤ b') : mins c b k = mins c b' k := by
  have h1 := mins_le c b k
  have h2 := mins_le c b' k
  have h3 := h1.2 j hj
  have h4 := h2.2 j hj
  rcases mins_mem c b k with e | ⟨i, hi, e⟩ <;> rcases mins_mem c b' k with e' | ⟨i', hi', e'⟩
  · omega
  · have := h1.2 i' hi'; omega
  · have := h2.2 i hi; omega
  · have := h1.2 i' hi'; have := h2.2 i hi; omega
def rkC (v x : List Int) (n s : Nat) : Int := gv v s + weigh x (n - 1 - s)
def rankOk (E : Int) (v x : List Int) : Bool := isFn E v && (vecOk 1000 x && decide ((x.length : Int) = E))
def rankR (E : Int) (v x : List Int) : Int := if rankOk E v x then mins (rkC v x v.length) 100000 v.length else 0
theorem full_diff : ∀ N : Fin 6, ∀ s : Fin 32, s.val < 2 ^ N.val → (2 ^ N.val - 1) ^^^ ((2 ^ N.val - 1) &&& s.val) = 2 ^ N.val - 1 - s.val := by decide +kernel
theorem FnOk.diff {N n : Nat} {v : List Int} (h : FnOk N n v) {s : Nat} (hs : s < n) : diffN (n - 1) s = n - 1 - s := by
  have hN := h.hN
  have h32 := h.n32
  rw [h.hn] at *
  exact full_diff ⟨N, by omega⟩ ⟨s, by omega⟩ hs
theorem fn_full {N n : Nat} {v : List Int} (h : FnOk N n v) : ((p2 N : Nat) : Int) - 1 = ((n - 1 : Nat) : Int) := by
  have := h.hn; have := h.n0; unfold p2; omega
theorem rkC_full {v x : List Int} {n : Nat} : rkC v x n (n - 1) = gv v (n - 1) := by unfold rkC; rw [Nat.sub_self, weigh_zero]; omega

set_option maxHeartbeats 1000000 in
theorem rankOfVector_any (E : Int) (A : Option Addr) (n c : Nat) (v : List Int) (A' : Option Addr) (m c' : Nat) (x : List Int) (w : World) (hv : Ints w A n v) (hx : Ints w A' m x) :
    Calls Try.prog 53 #[.agg #[.int .i64 E, .slice A n c], .slice A' m c'] w fun e w' => e = .returned (.tuple #[.int .i64 (rankR E v x), .bool (rankOk E v x)]) ∧ Below w.heap.size w w' := by
  cases hf : isFn E v
  · have e0 : rankOk E v x = false := by simp [rankOk, hf]
    have e1 : rankR E v x = 0 := by simp [rankR, e0]
    rw [e0, e1]; clear e0 e1
    go_enter Try.func53, Try.ntmps53
    go_wp2_with fail
    refine (isFunction_any _ _ _ _ v _ (hv.alloc _)).mono ?_
    rintro e w1 ⟨rfl, hb1⟩
    go_wp2
    go_ret2
    exact ⟨rfl, ((Below.refl _ _).alloc (Nat.le_refl _) _).trans (hb1.mono (by simp))⟩
  cases hx1 : (vecOk 1000 x && decide ((x.length : Int) = E))
  · have e0 : rankOk E v x = false := by simp only [rankOk, hf, hx1]; rfl
    have e1 : rankR E v x = 0 := by simp [rankR, e0]
    rw [e0, e1]; clear e0 e1
    go_enter Try.func53, Try.ntmps53
    go_wp2_with fail
    refine (isFunction_any _ _ _ _ v _ (hv.alloc _)).mono ?_
    rintro e w1 ⟨rfl, hb1⟩
    have hFB := (FB.start w E A n c).step hb1
    obtain ⟨hbel, hz, r0, r1⟩ := hFB.parts
    go_wp2_with fail
    refine (isVectorFor_any _ _ _ _ _ _ _ x _ (hx.below hbel (Nat.le_refl _))).mono ?_
    rintro e w2 ⟨rfl, hb2⟩
    rw [hx1]
    go_wp2
    go_ret2
    exact ⟨rfl, (hFB.step hb2).1⟩
  · have Hf := hide hf
    have Hx := hide hx1
    have HV := hide (vecOk_mono (show vecOk 1000 x = true by simp at hx1; exact hx1.1))
    have e0 : rankOk E v x = true := by simp only [rankOk, hf, hx1]; rfl
    have e1 : rankR E v x = mins (rkC v x v.length) 100000 v.length := by simp [rankR, e0]
    rw [e0, e1]; clear e0 e1 hx1
    obtain ⟨N, rfl, fo⟩ := FnOk.of hf hv
    clear hf
    rw [fo.hl]
    obtain ⟨b, off, rfl, hb, hc⟩ := hv.all_ fo.n0
    have HC := hide hc; clear hc
    have hN := fo.hN
    have h40 : N ≤ 40 := by omega
    have n32 := fo.n32
    have n0 := fo.n0
    have hfull := hide (fn_full fo)
    obtain ⟨d, hd⟩ : ∃ d, n - 1 = d := ⟨_, rfl⟩
    have hdn : d < n := by omega
    have hd' : d < 1024 := by omega
    have HD := hide hd; clear hd
    rw [HD.out] at hfull
    obtain ⟨v1, v2⟩ := fo.bd hdn
    have hcd : rkC v x n d = gv v d := by rw [← HD.out]; exact rkC_full
    rw [mins_eq (b' := gv v d) hdn (by omega) (by omega)]
    clear hcd
    go_enter Try.func53, Try.ntmps53
    go_wp2_with fail
    refine (isFunction_any _ _ _ _ v _ (hv.alloc _)).mono ?_
    rintro e w1 ⟨rfl, hb1⟩
    have hFB := (FB.start w N (some ⟨b, off, none⟩) n c).step hb1
    obtain ⟨hbel, hz, r0, r1⟩ := hFB.parts
    rw [Hf.out]
    go_wp2_with fail
    refine (isVectorFor_any _ _ _ _ _ _ _ x _ (hx.below hbel (Nat.le_refl _))).mono ?_
    rintro e w2 ⟨rfl, hb2⟩
    have hFB2 := hFB.step hb2
    clear r0 r1
    obtain ⟨hbel2, hz2, r0, r1⟩ := hFB2.parts
    rw [Hx.out]
    have x1 : w2.cell? ⟨b, off + d, none⟩ = some (.int .i64 (gv v d)) := (hbel2.cell (p := ⟨b, off + d, none⟩) hb).trans (HC.out _ hdn)
    have i1 : (0 : Int) ≤ (d : Int) := by omega
    have i2 : (d : Int) < (n : Int) := by omega
    have HB2 := hide hbel2; clear hbel2
    go_wp2
    go_region_held3 (fun w' => w'.cell? ⟨w.heap.size, 0, none⟩ = some (.int .i64 (N : Int)) ∧ w'.cell? ⟨w.heap.size, 1, none⟩ = some (.slice (some ⟨b, off, none⟩) n c) ∧ w'.cell? ⟨b, off + d, none⟩ = some (.int .i64 (gv v d)))
      (first
        | go_keep
        | exact ⟨(hb3.cell (p := ⟨w.heap.size, 0, none⟩) hz2).trans r0, (hb3.cell (p := ⟨w.heap.size, 1, none⟩) hz2).trans r1, (hb3.cell (p := ⟨b, off + d, none⟩) (Nat.lt_of_lt_of_le hb HB2.out.size)).trans x1⟩)
      (first
        | (go_at_call 149; refine (allOf_any N _ n c _ h40).mono ?_; rintro e w3 ⟨rfl, hb3⟩; rw [hfull.out]))
    have hFB3 := hFB2.drew.step hb3
    clear r0 r1 x1
    obtain ⟨-, -, r0, r1⟩ := hFB3.parts
    go_wp2
    clear r0 r1
    go_loopw [6, 27] (fun t i wr => ∃ k : Nat, k ≤ n ∧ i = .int .i64 k ∧ t = .int .i64 (mins (rkC v x n) (gv v d) k) ∧ FB w wr N (some ⟨b, off, none⟩) n c) (fun _ i _ => n - (intOf i).toNat)
    case atStart => exact ⟨0, Nat.zero_le _, rfl, rfl, hFB3⟩
    case round =>
      obtain ⟨k, hk, rfl, rfl, hFBr⟩ := hrel
      obtain ⟨hbelr, hzr, r0, r1⟩ := hFBr.parts
      by_cases hlt : k < n
      · have c1 : wr.cell? ⟨b, off + k, none⟩ = some (.int .i64 (gv v k)) := (hbelr.cell (p := ⟨b, off + k, none⟩) hb).trans (HC.out _ hlt)
        have hk10 : k < 1024 := by omega
        obtain ⟨t1, t2⟩ := fo.bd hlt
        obtain ⟨t3, t4⟩ := weigh_bd HV.out (n - 1 - k)
        have hs := hide (show mins (rkC v x n) (gv v d) (k + 1) = min (mins (rkC v x n) (gv v d) k) (gv v k + weigh x (n - 1 - k)) from rfl)
        have hdk := hide (show diffN d k = n - 1 - k by rw [← HD.out]; exact fo.diff hlt)
        go_wp2_with fail
        refine (allOf_any N _ n c _ h40).mono ?_
        rintro e w4 ⟨rfl, hb4⟩
        rw [hfull.out]
        have hFB4 := hFBr.step hb4
        have hw := weightOf_any A' m c' x (diffN d k) w4 (hx.below hFB4.1 (Nat.le_refl _)) HV.out (by rw [hdk.out]; omega)
        rw [hdk.out] at hw
        have HW := hide hw; clear hw
        go_wp2_with fail
        rw [hdk.out]
        refine HW.out.mono ?_
        rintro e w4 ⟨rfl, rfl⟩
        go_wp2
        all_goals
          go_roundw
          case rel => exact ⟨k + 1, by omega, by go_num, by rw [hs.out]; congr 1; omega, hFB4⟩
          case measure => simp [intOf]; omega
      · obtain rfl : k = n := by omega
        go_wp2
        go_ret2
        exact ⟨rfl, hbelr⟩
theorem quiet_add_left {P : Program} {f : FuncId} {args : Array Value} {w : World} {a n : Nat} {v : Value}
    (h : Calls P f args (w.drewN (a + n)) fun e w' => e = .returned v ∧ w.drewN (a + n) = w') :
    Calls P f args (w.drewN (a + n)) fun e w'' => e = .returned v ∧ ∃ m, w'' = w.drewN (a + m) :=
  h.mono fun _ _ ⟨he, hm⟩ => ⟨he, n, hm.symm⟩
set_option maxHeartbeats 1000000 in
theorem specRankOfVector_any (E : Int) (A : Option Addr) (n c : Nat) (v : List Int) (A' : Option Addr) (m c' : Nat) (x : List Int) (w : World) (hv : Ints w A n v) (hx : Ints w A' m x) :
    Calls Try.prog 54 #[.agg #[.int .i64 E, .slice A n c], .slice A' m c'] w fun e w' => e = .returned (.tuple #[.int .i64 (rankR E v x), .bool (rankOk E v x)]) ∧ Below w.heap.size w w' := by
  have hml := hide hx.len
  cases hf : isFn E v
  · have e0 : rankOk E v x = false := by simp [rankOk, hf]
    have e1 : rankR E v x = 0 := by simp [rankR, e0]
    rw [e0, e1]; clear e0 e1
    go_enter Try.func54, Try.ntmps54
    go_wp2_with fail
    refine (specIsFunction_any _ _ _ _ v _ (hv.alloc _)).mono ?_
    rintro e w1 ⟨rfl, hb1⟩
    go_wp2
    go_ret2
    exact ⟨rfl, ((Below.refl _ _).alloc (Nat.le_refl _) _).trans (hb1.mono (by simp))⟩
  cases hx1 : vecOk 1000 x
  · have e0 : rankOk E v x = false := by simp [rankOk, hx1]
    have e1 : rankR E v x = 0 := by simp [rankR, e0]
    rw [e0, e1]; clear e0 e1
    go_enter Try.func54, Try.ntmps54
    go_wp2_with fail
    refine (specIsFunction_any _ _ _ _ v _ (hv.alloc _)).mono ?_
    rintro e w1 ⟨rfl, hb1⟩
    have hFB := (FB.start w E A n c).step hb1
    obtain ⟨hbel, hz, r0, r1⟩ := hFB.parts
    go_wp2_with fail
    refine (l7Vector_any _ _ _ x _ (hx.below hbel (Nat.le_refl _))).mono ?_
    rintro e w2 ⟨rfl, rfl⟩
    go_wp2
    go_ret2
    exact ⟨rfl, hbel⟩
  by_cases hx2 : (m : Int) = E
  · have Hf := hide hf
    have Hx := hide hx1
    have HV := hide (vecOk_mono hx1)
    have e0 : rankOk E v x = true := by simp [rankOk, hf, hx1, hml.out, hx2]
    have e1 : rankR E v x = mins (rkC v x v.length) 100000 v.length := by simp [rankR, e0]
    rw [e0, e1]; clear e0 e1 hx1
    obtain ⟨N, rfl, fo⟩ := FnOk.of hf hv
    obtain rfl : m = N := by omega
    clear hf hx2
    rw [fo.hl]
    obtain ⟨b, off, rfl, hb, hc⟩ := hv.all_ fo.n0
    have HC := hide hc; clear hc
    have hN := fo.hN
    have h40 : m ≤ 40 := by omega
    have n32 := fo.n32
    have n0 := fo.n0
    have hfull := hide (fn_full fo)
    go_enter Try.func54, Try.ntmps54
    go_wp2_with fail
    refine (specIsFunction_any _ _ _ _ v _ (hv.alloc _)).mono ?_
    rintro e w1 ⟨rfl, hb1⟩
    have hFB := (FB.start w m (some ⟨b, off, none⟩) n c).step hb1
    obtain ⟨hbel, hz, r0, r1⟩ := hFB.parts
    rw [Hf.out]
    go_wp2_with fail
    refine (l7Vector_any _ _ _ x _ (hx.below hbel (Nat.le_refl _))).mono ?_
    rintro e w2 ⟨rfl, rfl⟩
    rw [Hx.out]
    go_wp2
    clear r0 r1
    go_loopw [6, 7] (fun t i wr => ∃ k : Nat, k ≤ n ∧ i = .int .i64 k ∧ t = .int .i64 (mins (rkC v x n) 100000 k) ∧ FB w wr m (some ⟨b, off, none⟩) n c) (fun _ i _ => n - (intOf i).toNat)
    case atStart => exact ⟨0, Nat.zero_le _, rfl, rfl, hFB⟩
    case round =>
      obtain ⟨k, hk, rfl, rfl, hFBr⟩ := hrel
      obtain ⟨hbelr, hzr, r0, r1⟩ := hFBr.parts
      by_cases hlt : k < n
      · have c1 : wr.cell? ⟨b, off + k, none⟩ = some (.int .i64 (gv v k)) := (hbelr.cell (p := ⟨b, off + k, none⟩) hb).trans (HC.out _ hlt)
        have hk10 : k < 1024 := by omega
        obtain ⟨t1, t2⟩ := fo.bd hlt
        obtain ⟨t3, t4⟩ := weigh_bd HV.out (n - 1 - k)
        have hs := hide (show mins (rkC v x n) 100000 (k + 1) = min (mins (rkC v x n) 100000 k) (gv v k + weigh x (n - 1 - k)) from rfl)
        have i1 : (0 : Int) ≤ (k : Int) := by omega
        have i2 : (k : Int) < (n : Int) := by omega
        have hxr := hide (hx.below hbelr (Nat.le_refl _))
        have f1 := hide (show ((p2 m : Nat) : Int) - 1 - (k : Int) = ((n - 1 - k : Nat) : Int) by rw [hfull.out]; omega)
        obtain ⟨d, hd⟩ : ∃ d, n - 1 - k = d := ⟨_, rfl⟩
        rw [hd] at f1 hs t3 t4
        have hd10 : d < 1024 := by omega
        clear hd
        have f2 : IntKind.i64.wrap (((p2 m : Nat) : Int) - 1 - (k : Int)) = (d : Int) := by rw [f1.out]; exact IntWalk.i64_in _ (by omega)
        have f3 : IntKind.i64.wrap (gv v k + weigh x d) = gv v k + weigh x d := IntWalk.i64_in _ (by omega)
        have HB := hide hbelr; clear hbelr
        go_wp2
        go_quiet ((first
          | (go_at_call 158; exact quiet_left (l2Full_any _ _ h40))
          | (go_at_call 156; exact quiet_left (l3Weigh_any _ _ _ x d _ hxr.out HV.out hd10))))
        clear f2 f3
        go_wp2
        all_goals
          go_roundw
          case rel => exact ⟨k + 1, by omega, by go_num, by rw [hs.out]; congr 1; omega, hFBr.drewN _⟩
          case measure => simp [intOf]; omega
      · obtain rfl : k = n := by omega
        go_wp2
        go_ret2
        exact ⟨rfl, hbelr⟩
  · have e0 : rankOk E v x = false := by simp [rankOk, hml.out, hx2]
    have e1 : rankR E v x = 0 := by simp [rankR, e0]
    rw [e0, e1]; clear e0 e1
    have e2 : ((m : Int) != E) = true := by simp [hx2]
    go_enter Try.func54, Try.ntmps54
    go_wp2_with fail
    refine (specIsFunction_any _ _ _ _ v _ (hv.alloc _)).mono ?_
    rintro e w1 ⟨rfl, hb1⟩
    have hFB := (FB.start w E A n c).step hb1
    obtain ⟨hbel, hz, r0, r1⟩ := hFB.parts
    go_wp2_with fail
    refine (l7Vector_any _ _ _ x _ (hx.below hbel (Nat.le_refl _))).mono ?_
    rintro e w2 ⟨rfl, rfl⟩
    go_wp2
    go_ret2
    exact ⟨rfl, hbel⟩
end Go.Proofs.Ytokeejachclpeaa
