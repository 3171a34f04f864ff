/-
  Walks: sizes of sets; the best set.
-/
import Derived.Test.YtokeejachclpeaaMin
import Derived.BigQuiet
namespace Go.Proofs.Ytokeejachclpeaa
open Go.RowKit

/-- The number of elements of a set below 32. -/
def popN (s : Nat) : Nat := s % 2 + s / 2 % 2 + s / 4 % 2 + s / 8 % 2 + s / 16 % 2
theorem popN_step {s : Nat} (hs : s < 32) : popN s = s % 2 + popN (s / 2) := by unfold popN; omega
theorem popN_le {s N : Nat} (hN : N ≤ 5) (hs : s < 2 ^ N) : popN s ≤ N := by
  have h : N = 0 ∨ N = 1 ∨ N = 2 ∨ N = 3 ∨ N = 4 ∨ N = 5 := by omega
  unfold popN
  rcases h with rfl | rfl | rfl | rfl | rfl | rfl <;> simp at hs <;> omega
set_option maxHeartbeats 1000000 in
theorem sizeOf_any (s : Nat) (w : World) (hs : s < 32) : Calls Try.prog 198 #[.int .i64 (s : Int)] w fun e w' => e = .returned (.int .i64 ((popN s : Nat) : Int)) ∧ w = w' := by
  have h64 : Calls Try.prog 224 #[.int .u64 (s : Int)] w fun e w' => e = .returned (.int .i64 ((popN s : Nat) : Int)) ∧ w = w' := by
    have h : s = 0 ∨ s = 1 ∨ s = 2 ∨ s = 3 ∨ s = 4 ∨ s = 5 ∨ s = 6 ∨ s = 7 ∨ s = 8 ∨ s = 9 ∨ s = 10 ∨ s = 11 ∨ s = 12 ∨ s = 13 ∨ s = 14 ∨ s = 15 ∨ s = 16 ∨ s = 17 ∨ s = 18 ∨ s = 19 ∨ s = 20 ∨ s = 21 ∨ s = 22 ∨ s = 23 ∨ s = 24 ∨ s = 25 ∨ s = 26 ∨ s = 27 ∨ s = 28 ∨ s = 29 ∨ s = 30 ∨ s = 31 := by omega
    rcases h with rfl | rfl | rfl | rfl | rfl | rfl | rfl | rfl | rfl | rfl | rfl | rfl | rfl | rfl | rfl | rfl | rfl | rfl | rfl | rfl | rfl | rfl | rfl | rfl | rfl | rfl | rfl | rfl | rfl | rfl | rfl | rfl
    all_goals
      go_enter Try.func224, Try.ntmps224
      go_wp2
      go_ret
      exact ⟨by kernel_rfl, rfl⟩
  go_enter Try.func198, Try.ntmps198
  go_wp2_with fail
  have h63 : Calls Try.prog 218 #[.int .u64 (s : Int)] w fun e w' => e = .returned (.int .i64 ((popN s : Nat) : Int)) ∧ w = w' := by
    go_enter Try.func218, Try.ntmps218
    go_wp2_with fail
    refine h64.mono ?_
    rintro e w' ⟨rfl, rfl⟩
    go_wp2
    go_ret
    exact ⟨rfl, rfl⟩
  refine h63.mono ?_
  rintro e w' ⟨rfl, rfl⟩
  go_wp2
  go_ret
  exact ⟨rfl, rfl⟩
theorem l2Size_any (s : Nat) (w : World) (hs : s < 32) : Calls Try.prog 199 #[.int .i64 (s : Int)] w fun e w' => e = .returned (.int .i64 ((popN s : Nat) : Int)) ∧ w = w' := by
  go_enter Try.func199, Try.ntmps199
  go_wp2
  go_loop [3, 4] (fun t i => ∃ x k : Nat, x < 32 ∧ k + popN x = popN s ∧ k ≤ 5 ∧ i = .int .i64 x ∧ t = .int .i64 k) (fun _ i => (intOf i).toNat)
  case atStart => exact ⟨s, 0, hs, by omega, by omega, rfl, rfl⟩
  case round =>
    obtain ⟨x, k, hx, hk, hk5, rfl, rfl⟩ := hrel
    by_cases h0 : 0 < x
    · have e1 : bits .and .i64 (x : Int) 1 = ((x % 2 : Nat) : Int) := by
        have := i64_and_nat x 1 (by omega) (by omega)
        rw [Nat.and_one_is_mod] at this; exact this
      have hst := popN_step hx
      have hp5 : popN s ≤ 5 := popN_le (N := 5) (by omega) (by omega)
      have hm : x % 2 < 2 := Nat.mod_lt _ (by omega)
      have HS := hide (And.intro hst hp5)
      clear hst hp5
      go_wp2
      go_round
      case rel => exact ⟨x / 2, k + x % 2, by omega, by have := HS.out.1; omega, by have := HS.out; omega, by go_num, by go_num⟩
      case measure => simp [intOf]; omega
    · obtain rfl : x = 0 := by omega
      have hk0 : k = popN s := by simpa [popN] using hk
      go_wp2
      go_ret
      exact ⟨by rw [← hk0]; rfl, rfl⟩
/-- The first of the sets below k with a greatest value among those that satisfy p; 0 counts as one of them. -/
def bestN (p : Nat → Bool) (v : List Int) : Nat → Nat
  | 0 => 0
  | k + 1 => if (p k && decide (gv v (bestN p v k) < gv v k)) = true then k else bestN p v k
theorem bestN_lt (p : Nat → Bool) (v : List Int) : ∀ k, 0 < k → bestN p v k < k
  | 0, h => by omega
  | k + 1, _ => by
    unfold bestN
    split
    · omega
    · cases k with
      | zero => simp [bestN]
      | succ j => have := bestN_lt p v (j + 1) (by omega); omega
theorem bestN_one (p : Nat → Bool) (v : List Int) : bestN p v 1 = 0 := by simp [bestN]
theorem bestN_congr {p q : Nat → Bool} (v : List Int) : ∀ k, (∀ s, s < k → p s = q s) → bestN p v k = bestN q v k
  | 0, _ => rfl
  | k + 1, h => by
    have ih := bestN_congr v k (fun s hs => h s (by omega))
    unfold bestN
    rw [ih, h k (by omega)]
def sizeP (k : Int) (s : Nat) : Bool := decide ((popN s : Int) ≤ k)
def bestOk (E : Int) (v : List Int) (k : Int) : Bool := isFn E v && inR k 0 E
def bestI (E : Int) (v : List Int) (k : Int) : Nat := if bestOk E v k then bestN (sizeP k) v v.length else 0
def bestV (E : Int) (v : List Int) (k : Int) : Int := if bestOk E v k then gv v (bestN (sizeP k) v v.length) else 0
set_option maxHeartbeats 1000000 in
theorem bestOfSize_any (E : Int) (A : Option Addr) (n c : Nat) (v : List Int) (k : Int) (w : World) (hv : Ints w A n v) :
    Calls Try.prog 100 #[.agg #[.int .i64 E, .slice A n c], .int .i64 k] w fun e w' => e = .returned (.tuple #[.int .i64 (bestV E v k), .int .i64 (bestI E v k : Int), .bool (bestOk E v k)]) ∧ Below w.heap.size w w' := by
  cases hf : isFn E v
  · have e0 : bestOk E v k = false := by simp [bestOk, hf]
    have e1 : bestI E v k = 0 := by simp [bestI, e0]
    have e2 : bestV E v k = 0 := by simp [bestV, e0]
    rw [e0, e1, e2]; clear e0 e1 e2
    go_enter Try.func100, Try.ntmps100
    go_wp2_with fail
    refine (isFunction_any _ _ _ _ v _ (hv.alloc _)).mono ?_
    rintro e w1 ⟨rfl, hb1⟩
    rw [hf]
    go_wp2
    go_ret3
    exact ⟨rfl, ((FB.start w E A n c).step hb1).1⟩
  cases hr : inR k 0 E
  · have e0 : bestOk E v k = false := by simp [bestOk, hr]
    have e1 : bestI E v k = 0 := by simp [bestI, e0]
    have e2 : bestV E v k = 0 := by simp [bestV, e0]
    rw [e0, e1, e2]; clear e0 e1 e2
    go_enter Try.func100, Try.ntmps100
    go_wp2_with fail
    refine (isFunction_any _ _ _ _ v _ (hv.alloc _)).mono ?_
    rintro e w1 ⟨rfl, hb1⟩
    rw [hf]
    obtain ⟨hbel, hz, r0, r1⟩ := ((FB.start w E A n c).step hb1).parts
    go_wp2_with fail
    refine (within_any _ _ _ _).mono ?_
    rintro e w2 ⟨rfl, rfl⟩
    rw [hr]
    go_wp2
    go_ret3
    exact ⟨rfl, hbel⟩
  · have e0 : bestOk E v k = true := by simp [bestOk, hr, hf]
    have hvl := hv.len
    have e1 : bestI E v k = bestN (sizeP k) v n := by simp [bestI, e0, hvl]
    have e2 : bestV E v k = gv v (bestN (sizeP k) v n) := by simp [bestV, e0, hvl]
    rw [e0, e1, e2]; clear e0 e1 e2 hvl
    have Hf := hide hf
    have Hr := hide hr
    have hle := hv.le
    obtain ⟨N, rfl, fo⟩ := FnOk.of Hf.out hv
    clear hf hr
    have n32 := fo.n32
    have n0 := fo.n0
    obtain ⟨b, off, rfl, hbb, hc⟩ := hv.all_ n0
    have HC := hide hc; clear hc
    go_enter Try.func100, Try.ntmps100
    go_wp2_with fail
    refine (isFunction_any _ _ _ _ v _ (hv.alloc _)).mono ?_
    rintro e w1 ⟨rfl, hb1⟩
    rw [Hf.out]
    have hFB := (FB.start w N (some ⟨b, off, none⟩) n c).step hb1
    obtain ⟨hbel, hz, r0, r1⟩ := hFB.parts
    go_wp2_with fail
    refine (within_any _ _ _ _).mono ?_
    rintro e w2 ⟨rfl, rfl⟩
    rw [Hr.out]
    go_wp2
    go_loop [7, 23] (fun t i => ∃ j : Nat, j ≤ n ∧ i = .int .i64 j ∧ t = .int .i64 (bestN (sizeP k) v j : Int)) (fun _ i => n - (intOf i).toNat)
    case atStart => exact ⟨0, Nat.zero_le _, rfl, rfl⟩
    case round =>
      obtain ⟨j, hj, rfl, rfl⟩ := hrel
      by_cases hlt : j < n
      · have hbl : bestN (sizeP k) v j < n := by
          rcases Nat.eq_zero_or_pos j with rfl | h
          · exact n0
          · exact Nat.lt_of_lt_of_le (bestN_lt _ v j h) hj
        have c1 : w1.cell? ⟨b, off + j, none⟩ = some (.int .i64 (gv v j)) := (hbel.cell (p := ⟨b, off + j, none⟩) hbb).trans (HC.out _ hlt)
        have c2 : w1.cell? ⟨b, off + bestN (sizeP k) v j, none⟩ = some (.int .i64 (gv v (bestN (sizeP k) v j))) := (hbel.cell (p := ⟨b, off + bestN (sizeP k) v j, none⟩) hbb).trans (HC.out _ hbl)
        have hs := hide (show bestN (sizeP k) v (j + 1) = if (sizeP k j && decide (gv v (bestN (sizeP k) v j) < gv v j)) = true then j else bestN (sizeP k) v j from rfl)
        generalize bestN (sizeP k) v j = g at *
        have hsz := sizeOf_any j w1 (by omega)
        have HZ := hide hsz; clear hsz
        cases hp : sizeP k j
        · have hq : ¬ ((popN j : Nat) : Int) ≤ k := by simpa [sizeP] using hp
          have hq2 : k < ((popN j : Nat) : Int) := by omega
          have hq3 : decide (((popN j : Nat) : Int) ≤ k) = false := by simpa using hq
          clear hq
          have hs2 := hide (hs.out.trans (by rw [hp]; simp) : bestN (sizeP k) v (j + 1) = g)
          clear hp hs
          go_wp2_with fail
          refine HZ.out.mono ?_
          rintro e w3 ⟨rfl, rfl⟩
          go_wp2
          go_round
          case rel => exact ⟨j + 1, by omega, by go_num, by rw [hs2.out]⟩
          case measure => simp [intOf]; omega
        · have hq : ((popN j : Nat) : Int) ≤ k := by simpa [sizeP] using hp
          by_cases hg : gv v g < gv v j
          · have hs2 := hide (hs.out.trans (by rw [hp]; simp [hg]) : bestN (sizeP k) v (j + 1) = j)
            clear hp hs
            go_wp2_with fail
            refine HZ.out.mono ?_
            rintro e w3 ⟨rfl, rfl⟩
            go_wp2
            go_round
            case rel => exact ⟨j + 1, by omega, by go_num, by rw [hs2.out]⟩
            case measure => simp [intOf]; omega
          · have hs2 := hide (hs.out.trans (by rw [hp]; simp [hg]) : bestN (sizeP k) v (j + 1) = g)
            clear hp hs
            go_wp2_with fail
            refine HZ.out.mono ?_
            rintro e w3 ⟨rfl, rfl⟩
            go_wp2
            go_round
            case rel => exact ⟨j + 1, by omega, by go_num, by rw [hs2.out]⟩
            case measure => simp [intOf]; omega
      · obtain rfl : j = n := by omega
        have hbl : bestN (sizeP k) v j < j := bestN_lt _ v j n0
        have c2 : w1.cell? ⟨b, off + bestN (sizeP k) v j, none⟩ = some (.int .i64 (gv v (bestN (sizeP k) v j))) := (hbel.cell (p := ⟨b, off + bestN (sizeP k) v j, none⟩) hbb).trans (HC.out _ hbl)
        generalize hgg : bestN (sizeP k) v j = g at *
        go_wp2
        go_ret3
        exact ⟨by first | rfl | (rw [hgg]; rfl), hbel⟩
set_option maxHeartbeats 1000000 in
theorem specBestOfSize_any (E : Int) (A : Option Addr) (n c : Nat) (v : List Int) (k : Int) (w : World) (hv : Ints w A n v) :
    Calls Try.prog 101 #[.agg #[.int .i64 E, .slice A n c], .int .i64 k] w fun e w' => e = .returned (.tuple #[.int .i64 (bestV E v k), .int .i64 (bestI E v k : Int), .bool (bestOk E v k)]) ∧ Below w.heap.size w w' := by
  cases hf : isFn E v
  · have e0 : bestOk E v k = false := by simp [bestOk, hf]
    have e1 : bestI E v k = 0 := by simp [bestI, e0]
    have e2 : bestV E v k = 0 := by simp [bestV, e0]
    rw [e0, e1, e2]; clear e0 e1 e2
    go_enter Try.func101, Try.ntmps101
    go_wp2_with fail
    refine (specIsFunction_any _ _ _ _ v _ (hv.alloc _)).mono ?_
    rintro e w1 ⟨rfl, hb1⟩
    rw [hf]
    go_wp2
    go_ret3
    exact ⟨rfl, ((FB.start w E A n c).step hb1).1⟩
  cases hr : inR k 0 E
  · have e0 : bestOk E v k = false := by simp [bestOk, hr]
    have e1 : bestI E v k = 0 := by simp [bestI, e0]
    have e2 : bestV E v k = 0 := by simp [bestV, e0]
    rw [e0, e1, e2]; clear e0 e1 e2
    go_enter Try.func101, Try.ntmps101
    go_wp2_with fail
    refine (specIsFunction_any _ _ _ _ v _ (hv.alloc _)).mono ?_
    rintro e w1 ⟨rfl, hb1⟩
    rw [hf]
    obtain ⟨hbel, hz, r0, r1⟩ := ((FB.start w E A n c).step hb1).parts
    go_wp2_with fail
    refine (l1In_any _ _ _ _).mono ?_
    rintro e w2 ⟨rfl, rfl⟩
    rw [hr]
    go_wp2
    go_ret3
    exact ⟨rfl, hbel⟩
  · have e0 : bestOk E v k = true := by simp [bestOk, hr, hf]
    have hvl := hv.len
    have e1 : bestI E v k = bestN (sizeP k) v n := by simp [bestI, e0, hvl]
    have e2 : bestV E v k = gv v (bestN (sizeP k) v n) := by simp [bestV, e0, hvl]
    rw [e0, e1, e2]; clear e0 e1 e2 hvl
    have Hf := hide hf
    have Hr := hide hr
    have hle := hv.le
    obtain ⟨N, rfl, fo⟩ := FnOk.of Hf.out hv
    clear hf hr
    have n32 := fo.n32
    have n0 := fo.n0
    obtain ⟨b, off, rfl, hbb, hc⟩ := hv.all_ n0
    have HC := hide hc; clear hc
    go_enter Try.func101, Try.ntmps101
    go_wp2_with fail
    refine (specIsFunction_any _ _ _ _ v _ (hv.alloc _)).mono ?_
    rintro e w1 ⟨rfl, hb1⟩
    rw [Hf.out]
    have hFB := (FB.start w N (some ⟨b, off, none⟩) n c).step hb1
    obtain ⟨hbel, hz, r0, r1⟩ := hFB.parts
    go_wp2_with fail
    refine (l1In_any _ _ _ _).mono ?_
    rintro e w2 ⟨rfl, rfl⟩
    rw [Hr.out]
    go_wp2
    go_loopw [7, 8] (fun t i wr => ∃ j : Nat, 1 ≤ j ∧ j ≤ n ∧ i = .int .i64 j ∧ t = .int .i64 (bestN (sizeP k) v j : Int) ∧ FB w wr N (some ⟨b, off, none⟩) n c) (fun _ i _ => n - (intOf i).toNat)
    case atStart => exact ⟨1, Nat.le_refl _, n0, rfl, by rw [bestN_one]; rfl, hFB⟩
    clear r0 r1 hbel hz hFB hb1
    case round =>
      obtain ⟨j, hj1, hj, rfl, rfl, hFBr⟩ := hrel
      obtain ⟨hbel, hz, r0, r1⟩ := hFBr.parts
      have hbl : bestN (sizeP k) v j < j := bestN_lt _ v j hj1
      have hbl2 : bestN (sizeP k) v j < n := by omega
      have c2 : wr.cell? ⟨b, off + bestN (sizeP k) v j, none⟩ = some (.int .i64 (gv v (bestN (sizeP k) v j))) := (hbel.cell (p := ⟨b, off + bestN (sizeP k) v j, none⟩) hbb).trans (HC.out _ hbl2)
      by_cases hlt : j < n
      · have c1 : wr.cell? ⟨b, off + j, none⟩ = some (.int .i64 (gv v j)) := (hbel.cell (p := ⟨b, off + j, none⟩) hbb).trans (HC.out _ hlt)
        have hs := hide (show bestN (sizeP k) v (j + 1) = if (sizeP k j && decide (gv v (bestN (sizeP k) v j) < gv v j)) = true then j else bestN (sizeP k) v j from rfl)
        generalize bestN (sizeP k) v j = g at *
        have hj32 : j < 32 := by omega
        have i1 : (0 : Int) ≤ (j : Int) := by omega
        have i2 : (j : Int) < (n : Int) := by omega
        have i3 : (0 : Int) ≤ (g : Int) := by omega
        have i4 : (g : Int) < (n : Int) := by omega
        have hb' := hide hbel; clear hbel
        cases hp : sizeP k j
        · have hq : ¬ ((popN j : Nat) : Int) ≤ k := by simpa [sizeP] using hp
          have hq2 : k < ((popN j : Nat) : Int) := by omega
          have hq3 : decide (((popN j : Nat) : Int) ≤ k) = false := by simpa using hq
          clear hq
          have hs2 := hide (hs.out.trans (by rw [hp]; simp) : bestN (sizeP k) v (j + 1) = g)
          clear hp hs
          go_wp2
          go_quiet ((go_at_call 199; exact quiet_left (l2Size_any j _ hj32)))
          go_wp2
          go_roundw
          case rel => exact ⟨j + 1, by omega, by omega, by go_num, by rw [hs2.out], hFBr.drewN _⟩
          case measure => simp [intOf]; omega
        · have hq : ((popN j : Nat) : Int) ≤ k := by simpa [sizeP] using hp
          by_cases hg : gv v g < gv v j
          · have hs2 := hide (hs.out.trans (by rw [hp]; simp [hg]) : bestN (sizeP k) v (j + 1) = j)
            clear hp hs
            go_wp2
            go_quiet ((go_at_call 199; exact quiet_left (l2Size_any j _ hj32)))
            go_wp2
            go_roundw
            case rel => exact ⟨j + 1, by omega, by omega, by go_num, by rw [hs2.out], hFBr.drewN _⟩
            case measure => simp [intOf]; omega
          · have hs2 := hide (hs.out.trans (by rw [hp]; simp [hg]) : bestN (sizeP k) v (j + 1) = g)
            clear hp hs
            go_wp2
            go_quiet ((go_at_call 199; exact quiet_left (l2Size_any j _ hj32)))
            go_wp2
            go_roundw
            case rel => exact ⟨j + 1, by omega, by omega, by go_num, by rw [hs2.out], hFBr.drewN _⟩
            case measure => simp [intOf]; omega
      · obtain rfl : j = n := by omega
        generalize hgg : bestN (sizeP k) v j = g at *
        go_wp2
        go_ret3
        exact ⟨by first | rfl | (rw [hgg]; rfl), hbel⟩
def maxI (E : Int) (v : List Int) : Nat := if isFn E v then bestN (fun _ => true) v v.length else 0
def maxV (E : Int) (v : List Int) : Int := if isFn E v then gv v (bestN (fun _ => true) v v.length) else 0
theorem bestN_all {N n : Nat} {v : List Int} (fo : FnOk N n v) : bestN (sizeP N) v v.length = bestN (fun _ => true) v v.length := by
  apply bestN_congr
  intro s hs
  have hn : v.length = 2 ^ N := by rw [fo.hl, fo.hn]
  have := popN_le fo.hN (hn ▸ hs)
  simp [sizeP]; omega
theorem maximumOf_any (E : Int) (A : Option Addr) (n c : Nat) (v : List Int) (w : World) (hv : Ints w A n v) :
    Calls Try.prog 109 #[.agg #[.int .i64 E, .slice A n c]] w fun e w' => e = .returned (.tuple #[.int .i64 (maxV E v), .int .i64 (maxI E v : Int), .bool (isFn E v)]) ∧ Below w.heap.size w w' := by
  cases hf : isFn E v
  · have e1 : maxI E v = 0 := by simp [maxI, hf]
    have e2 : maxV E v = 0 := by simp [maxV, hf]
    rw [e1, e2]; clear e1 e2
    go_enter Try.func109, Try.ntmps109
    go_wp2_with fail
    refine (isFunction_any _ _ _ _ v _ (hv.alloc _)).mono ?_
    rintro e w1 ⟨rfl, hb1⟩
    rw [hf]
    go_wp2
    go_ret3
    exact ⟨rfl, ((FB.start w E A n c).step hb1).1⟩
  · have Hf := hide hf
    obtain ⟨N, rfl, fo⟩ := FnOk.of Hf.out hv
    have hr : inR (N : Int) 0 (N : Int) = true := by simp [inR]
    have e0 : bestOk N v N = true := by simp [bestOk, hr, hf]
    have e1 : bestI N v N = maxI N v := by rw [bestI, e0, maxI, hf, bestN_all fo]
    have e2 : bestV N v N = maxV N v := by rw [bestV, e0, maxV, hf, bestN_all fo]
    have H1 := hide e1; have H2 := hide e2; have H0 := hide e0
    clear e0 e1 e2 hr hf
    go_enter Try.func109, Try.ntmps109
    go_wp2_with fail
    refine (isFunction_any _ _ _ _ v _ (hv.alloc _)).mono ?_
    rintro e w1 ⟨rfl, hb1⟩
    rw [Hf.out]
    have hFB := (FB.start w N A n c).step hb1
    obtain ⟨hbel, hz, r0, r1⟩ := hFB.parts
    go_wp2_with fail
    refine (bestOfSize_any _ _ _ _ v _ _ (hv.below hbel (Nat.le_refl _))).mono ?_
    rintro e w2 ⟨rfl, hb2⟩
    rw [H0.out, H1.out, H2.out]
    go_wp2
    go_ret3
    exact ⟨rfl, (hFB.step hb2).1⟩
set_option maxHeartbeats 400000 in
theorem specMaximumOf_any (E : Int) (A : Option Addr) (n c : Nat) (v : List Int) (w : World) (hv : Ints w A n v) :
    Calls Try.prog 110 #[.agg #[.int .i64 E, .slice A n c]] w fun e w' => e = .returned (.tuple #[.int .i64 (maxV E v), .int .i64 (maxI E v : Int), .bool (isFn E v)]) ∧ Below w.heap.size w w' := by
  cases hf : isFn E v
  · have e1 : maxI E v = 0 := by simp [maxI, hf]
    have e2 : maxV E v = 0 := by simp [maxV, hf]
    rw [e1, e2]; clear e1 e2
    go_enter Try.func110, Try.ntmps110
    go_wp2_with fail
    refine (specIsFunction_any _ _ _ _ v _ (hv.alloc _)).mono ?_
    rintro e w1 ⟨rfl, hb1⟩
    rw [hf]
    go_wp2
    go_ret3
    exact ⟨rfl, ((FB.start w E A n c).step hb1).1⟩
  · have hvl := hv.len
    have e1 : maxI E v = bestN (fun _ => true) v n := by simp [maxI, hf, hvl]
    have e2 : maxV E v = gv v (bestN (fun _ => true) v n) := by simp [maxV, hf, hvl]
    rw [e1, e2]; clear e1 e2 hvl
    have Hf := hide hf
    have hle := hv.le
    obtain ⟨N, rfl, fo⟩ := FnOk.of Hf.out hv
    clear hf
    have n32 := fo.n32
    have n0 := fo.n0
    obtain ⟨b, off, rfl, hbb, hc⟩ := hv.all_ n0
    have HC := hide hc; clear hc
    go_enter Try.func110, Try.ntmps110
    go_wp2_with fail
    refine (specIsFunction_any _ _ _ _ v _ (hv.alloc _)).mono ?_
    rintro e w1 ⟨rfl, hb1⟩
    rw [Hf.out]
    have hFB := (FB.start w N (some ⟨b, off, none⟩) n c).step hb1
    go_wp2
    go_loopw [5, 6] (fun t i wr => ∃ j : Nat, 1 ≤ j ∧ j ≤ n ∧ i = .int .i64 j ∧ t = .int .i64 (bestN (fun _ => true) v j : Int) ∧ FB w wr N (some ⟨b, off, none⟩) n c) (fun _ i _ => n - (intOf i).toNat)
    case atStart => exact ⟨1, Nat.le_refl _, n0, rfl, by rw [bestN_one]; rfl, hFB⟩
    clear hFB hb1
    case round =>
      obtain ⟨j, hj1, hj, rfl, rfl, hFBr⟩ := hrel
      obtain ⟨hbel, hz, r0, r1⟩ := hFBr.parts
      have hbl : bestN (fun _ => true) v j < j := bestN_lt _ v j hj1
      have hbl2 : bestN (fun _ => true) v j < n := by omega
      have c2 : wr.cell? ⟨b, off + bestN (fun _ => true) v j, none⟩ = some (.int .i64 (gv v (bestN (fun _ => true) v j))) := (hbel.cell (p := ⟨b, off + bestN (fun _ => true) v j, none⟩) hbb).trans (HC.out _ hbl2)
      by_cases hlt : j < n
      · have c1 : wr.cell? ⟨b, off + j, none⟩ = some (.int .i64 (gv v j)) := (hbel.cell (p := ⟨b, off + j, none⟩) hbb).trans (HC.out _ hlt)
        have hs := hide (show bestN (fun _ => true) v (j + 1) = if (true && decide (gv v (bestN (fun _ => true) v j) < gv v j)) = true then j else bestN (fun _ => true) v j from rfl)
        generalize bestN (fun _ => true) v j = g at *
        have i1 : (0 : Int) ≤ (j : Int) := by omega
        have i2 : (j : Int) < (n : Int) := by omega
        have i3 : (0 : Int) ≤ (g : Int) := by omega
        have i4 : (g : Int) < (n : Int) := by omega
        have hb' := hide hbel; clear hbel
        by_cases hg : gv v g < gv v j
        · have hs2 := hide (hs.out.trans (by simp [hg]) : bestN (fun _ => true) v (j + 1) = j)
          clear hs
          go_wp2
          go_quiet (fail)
          go_wp2
          go_roundw
          case rel => exact ⟨j + 1, by omega, by omega, by go_num, by rw [hs2.out], hFBr.drewN _⟩
          case measure => simp [intOf]; omega
        · have hs2 := hide (hs.out.trans (by simp [hg]) : bestN (fun _ => true) v (j + 1) = g)
          clear hs
          go_wp2
          go_quiet (fail)
          go_wp2
          go_roundw
          case rel => exact ⟨j + 1, by omega, by omega, by go_num, by rw [hs2.out], hFBr.drewN _⟩
          case measure => simp [intOf]; omega
      · obtain rfl : j = n := by omega
        generalize hgg : bestN (fun _ => true) v j = g at *
        go_wp2
        go_ret3
        exact ⟨by first | rfl | (rw [hgg]; rfl), hbel⟩
end Go.Proofs.Ytokeejachclpeaa
