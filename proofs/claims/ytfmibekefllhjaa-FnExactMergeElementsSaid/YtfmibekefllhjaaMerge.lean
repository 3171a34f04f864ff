/-
  Walks: elements merged.
-/
import Derived.Test.YtfmibekefllhjaaSymA
import Derived.Test.YtfmibekefllhjaaSubM
import Derived.Test.YtfmibekefllhjaaCurM
namespace Go.Proofs.Ytfmibekefllhjaa
open Go.RowKit

/-- The elements below e of a set, ascending. -/
def eltT (s : Nat) : Nat → List Int
  | 0 => []
  | e + 1 => if hasB s e then eltT s e ++ [(e : Int)] else eltT s e
theorem eltT_le (s : Nat) : ∀ e, (eltT s e).length ≤ e
  | 0 => Nat.le_refl _
  | e + 1 => by have ih := eltT_le s e; unfold eltT; split <;> simp <;> omega
theorem eltT_mem (s : Nat) : ∀ e, ∀ a ∈ eltT s e, ∃ q : Nat, a = (q : Int) ∧ q < e ∧ hasB s q = true
  | 0, a, h => by simp [eltT] at h
  | e + 1, a, h => by
    unfold eltT at h
    split at h
    · rename_i hh
      rcases List.mem_append.1 h with h | h
      · obtain ⟨q, h1, h2, h3⟩ := eltT_mem s e a h
        exact ⟨q, h1, by omega, h3⟩
      · simp at h; exact ⟨e, h, by omega, hh⟩
    · obtain ⟨q, h1, h2, h3⟩ := eltT_mem s e a h
      exact ⟨q, h1, by omega, h3⟩
theorem elt_stop {s e : Nat} (h : s < 2 ^ e) : ∀ d, eltT s (e + d) = eltT s e
  | 0 => rfl
  | d + 1 => by
    have ih := elt_stop h d
    show (if hasB s (e + d) then eltT s (e + d) ++ [((e + d : Nat) : Int)] else eltT s (e + d)) = _
    rw [show hasB s (e + d) = false from Nat.testBit_lt_two_pow (Nat.lt_of_lt_of_le h (Nat.pow_le_pow_right (by omega) (by omega))), ih]
    rfl
def eltL (s : Nat) : List Int := eltT s 5
theorem elt_all {s e : Nat} (h : s < 2 ^ e) (he : e ≤ 5) : eltT s e = eltL s := by
  have := elt_stop h (5 - e)
  rw [show e + (5 - e) = 5 by omega] at this
  exact this.symm
/-- The set whose elements are those of L at the places in x, of the first i places. -/
def sprT (L : List Int) (x : Nat) : Nat → Nat
  | 0 => 0
  | i + 1 => if hasB x i then insN (sprT L x i) (gv L i).toNat else sprT L x i
theorem sprT_lt {L : List Int} {x N : Nat} (h : ∀ j, j < L.length → (gv L j).toNat < N) : ∀ i, i ≤ L.length → sprT L x i < 2 ^ N
  | 0, _ => Nat.two_pow_pos N
  | i + 1, hi => by
    have ih := sprT_lt (x := x) h i (by omega)
    unfold sprT
    split
    · exact insN_lt ih (h i (by omega))
    · exact ih
def mrgI (L : List Int) (a b x : Nat) : Nat := if hasB (sprT L x L.length) a then insN (sprT L x L.length) b else sprT L x L.length
theorem own_zero' (w : World) : Own (w.alloc (.cells #[] 3)) w.heap.size (some ⟨w.heap.size, 0, none⟩) 0 0 [] := own_none w
set_option maxHeartbeats 1000000 in
theorem elementsOf_any (s : Nat) (w : World) (hs : s < 32) :
    Calls Try.prog 47 #[.int .i64 (s : Int)] w fun e w' => ∃ B r cr, e = .returned (.slice B r cr) ∧ Own w' w.heap.size B r cr (eltL s) ∧ r ≤ 5 ∧ Below w.heap.size w w' := by
  have s10 : s < 1024 := by omega
  go_enter Try.func47, Try.ntmps47
  go_wp2
  go_loopw [3, 4] (fun l t wr => ∃ (e r : Nat) (B : Option Addr) (cr : Nat), e ≤ 5 ∧ t = .int .i64 e ∧ l = .slice B r cr ∧ r ≤ e ∧ Own wr w.heap.size B r cr (eltT s e) ∧ Below w.heap.size w wr) (fun _ t _ => 6 - (intOf t).toNat)
  case atStart => exact ⟨0, 0, none, 0, by omega, rfl, rfl, Nat.le_refl _, own_nil _ _, Below.refl _ _⟩
  case round =>
    obtain ⟨e, r, B, cr, he, rfl, rfl, hr, hown, hbel⟩ := hrel
    have hbsz := hbel.size
    have hcast : ((s : Int) / 2 ^ e) = ((s / 2 ^ e : Nat) : Int) := by norm_cast
    have hmin : min e 64 = e := by omega
    by_cases hz : s / 2 ^ e = 0
    · have hlt : s < 2 ^ e := by
        rcases Nat.div_eq_zero_iff.1 hz with h | h
        · have := Nat.two_pow_pos e; omega
        · exact h
      have hE := hide (elt_all hlt he)
      have hd : ((s : Int) / 2 ^ e != 0) = false := by rw [hcast, hz]; rfl
      clear hcast hz hlt
      rw [hE.out] at hown
      go_wp2
      go_ret
      exact ⟨B, r, cr, rfl, hown, by omega, hbel⟩
    · have he5 : e < 5 := by
        by_cases h5 : e = 5
        · subst h5; exact absurd (Nat.div_eq_of_lt (by omega : s < 2 ^ 5)) hz
        · omega
      have hd : ((s : Int) / 2 ^ e != 0) = true := by
        rw [hcast, bne_iff_ne]
        intro h0
        exact hz (by exact_mod_cast h0)
      have hst := hide (show eltT s (e + 1) = if hasB s e then eltT s e ++ [(e : Int)] else eltT s e from rfl)
      clear hcast hz
      cases hh : hasB s e
      · have hs2 := hide (show eltT s (e + 1) = eltT s e by rw [hst.out, hh]; rfl)
        go_wp2
        go_roundw
        case rel => exact ⟨e + 1, r, B, cr, by omega, by go_num, rfl, by omega, by rw [hs2.out]; exact hown, hbel⟩
        case measure => simp [intOf]; omega
      · have hs2 := hide (show eltT s (e + 1) = eltT s e ++ [(e : Int)] by rw [hst.out, hh]; rfl)
        generalize eltT s e = L at *
        go_wp2_with (refine wpl_app (by rfl) _ _ (by rfl) w.heap.size B r cr wr.heap.size L (e : Int) (by rfl) (by rfl) (hown.alloc _) (cell_new wr _) (by omega) (by simp; omega) ?_; intro g cap w3 hown3 hgrow hat hlt3)
        go_roundw
        case rel => exact ⟨e + 1, r + 1, _, cap, by omega, by go_num, rfl, by omega, by rw [hs2.out]; exact hown3, app_below hbel hbel.size hown hgrow (Below.refl _ _)⟩
        case measure => simp [intOf]; omega
set_option maxHeartbeats 1000000 in
theorem spread_any (A : Option Addr) (n c : Nat) (L : List Int) (x N : Nat) (w : World) (hL : Ints w A n L) (hn : n ≤ 5) (hN : N ≤ 5) (hx : x < 1024) (he : ∀ j, j < n → ∃ q : Nat, gv L j = (q : Int) ∧ q < N) :
    Calls Try.prog 51 #[.slice A n c, .int .i64 (x : Int)] w fun e w' => e = .returned (.int .i64 ((sprT L x n : Nat) : Int)) ∧ w = w' := by
  have hl := hide hL.len
  have HE := hide he
  have HS := hide (fun i (hi : i ≤ n) => sprT_lt (L := L) (x := x) (N := N) (fun j hj => by obtain ⟨q, h1, h2⟩ := HE.out j (by rw [← hl.out]; exact hj); omega) i (by rw [hl.out]; exact hi))
  have h32 : (2 : Nat) ^ N ≤ 32 := Nat.pow_le_pow_right (by omega) hN
  have H32 := hide h32
  clear he h32
  go_enter Try.func51, Try.ntmps51
  go_wp2
  go_loop [5, 10] (fun a t => ∃ i : Nat, i ≤ n ∧ t = .int .i64 i ∧ a = .int .i64 ((sprT L x i : Nat) : Int)) (fun _ t => n - (intOf t).toNat)
  case atStart => exact ⟨0, Nat.zero_le _, rfl, rfl⟩
  case round =>
    obtain ⟨i, hi, rfl, rfl⟩ := hrel
    by_cases hlt : i < n
    · obtain ⟨q, hq, hqN⟩ := HE.out i hlt
      obtain ⟨b, off, rfl, hb, hc⟩ := hL.at_ hlt
      rw [hq] at hc
      have hb10 : sprT L x i < 1024 := by have := HS.out i hi; have := H32.out; omega
      have q40 : q ≤ 40 := by omega
      have hst := hide (show sprT L x (i + 1) = if hasB x i then insN (sprT L x i) q else sprT L x i by show (if hasB x i then insN (sprT L x i) (gv L i).toNat else sprT L x i) = _; rw [hq, Int.toNat_natCast])
      clear hq
      generalize sprT L x i = a at *
      cases hh : hasB x i
      · have hs2 := hide (hst.out.trans (by rw [hh]; rfl) : sprT L x (i + 1) = a)
        go_wp2
        go_round
        case rel => exact ⟨i + 1, by omega, by go_num, by rw [hs2.out]⟩
        case measure => simp [intOf]; omega
      · have hs2 := hide (hst.out.trans (by rw [hh]; rfl) : sprT L x (i + 1) = insN a q)
        go_wp2
        go_round
        case rel => exact ⟨i + 1, by omega, by go_num, by rw [hs2.out]⟩
        case measure => simp [intOf]; omega
    · obtain rfl : i = n := by omega
      go_wp2
      go_ret
      exact ⟨rfl, rfl⟩
set_option maxHeartbeats 1000000 in
theorem l2List_any (s : Nat) (w : World) (hs : s < 32) :
    Calls Try.prog 65 #[.int .i64 (s : Int)] w fun e w' => ∃ B r cr, e = .returned (.slice B r cr) ∧ Own w' w.heap.size B r cr (eltL s) ∧ r ≤ 5 ∧ Below w.heap.size w w' := by
  have hO := own_zero' w
  have hB := (Below.refl w.heap.size w).alloc (Nat.le_refl _) (.cells #[] 3)
  go_enter Try.func65, Try.ntmps65
  go_wp2
  go_loopw [3, 4, 5] (fun l t u wr => ∃ (e r x : Nat) (B : Option Addr) (cr : Nat), e ≤ 5 ∧ t = .int .i64 e ∧ u = .int .i64 x ∧ Hid (x = s / 2 ^ e) ∧ x < 32 ∧ l = .slice B r cr ∧ r ≤ e ∧ Own wr w.heap.size B r cr (eltT s e) ∧ Below w.heap.size w wr) (fun _ t _ _ => 6 - (intOf t).toNat)
  case atStart => exact ⟨0, 0, s, _, 0, by omega, rfl, rfl, hide (by simp), hs, rfl, Nat.le_refl _, hO, hB⟩
  clear hO hB
  case round =>
    obtain ⟨e, r, x, B, cr, he, rfl, rfl, hx, hx32, rfl, hr, hown, hbel⟩ := hrel
    have hbsz := hbel.size
    by_cases hz : x = 0
    · subst hz
      have hlt : s < 2 ^ e := by
        rcases Nat.div_eq_zero_iff.1 hx.out.symm with h | h
        · have := Nat.two_pow_pos e; omega
        · exact h
      have hE := hide (elt_all hlt he)
      clear hlt
      rw [hE.out] at hown
      go_wp2
      go_ret
      exact ⟨B, r, cr, rfl, hown, by omega, hbel⟩
    · have he5 : e < 5 := by
        by_cases h5 : e = 5
        · subst h5
          have := hx.out
          rw [Nat.div_eq_of_lt (by omega : s < 2 ^ 5)] at this
          exact absurd this hz
        · omega
      have hx0 : 0 < x := by omega
      have hbit : (bits .and .i64 (x : Int) 1 == 1) = hasB s e := by
        have h := has_and x 0 (by omega)
        rw [show ((x : Int) / 2 ^ 0) = (x : Int) by simp] at h
        rw [h]
        unfold hasB
        rw [hx.out, Nat.testBit_div_two_pow, Nat.zero_add]
      have hnx := hide (show x / 2 = s / 2 ^ (e + 1) by rw [hx.out, Nat.div_div_eq_div_mul, Nat.pow_succ])
      have hst := hide (show eltT s (e + 1) = if hasB s e then eltT s e ++ [(e : Int)] else eltT s e from rfl)
      cases hh : hasB s e
      · have hs2 := hide (show eltT s (e + 1) = eltT s e by rw [hst.out, hh]; rfl)
        rw [hh] at hbit
        go_wp2
        go_roundw
        case rel => exact ⟨e + 1, r, x / 2, B, cr, by omega, by go_num, by go_num, hide hnx.out, by omega, rfl, by omega, by rw [hs2.out]; exact hown, hbel⟩
        case measure => simp [intOf]; omega
      · have hs2 := hide (show eltT s (e + 1) = eltT s e ++ [(e : Int)] by rw [hst.out, hh]; rfl)
        rw [hh] at hbit
        generalize eltT s e = L at *
        go_wp2_with (refine wpl_app (by rfl) _ _ (by rfl) w.heap.size B r cr wr.heap.size L (e : Int) (by rfl) (by rfl) (hown.alloc _) (cell_new wr _) (by omega) (by simp; omega) ?_; intro g cap w3 hown3 hgrow hat hlt3)
        go_roundw
        case rel => exact ⟨e + 1, r + 1, x / 2, _, cap, by omega, by go_num, by go_num, hide hnx.out, by omega, rfl, by omega, by rw [hs2.out]; exact hown3, app_below hbel hbel.size hown hgrow (Below.refl _ _)⟩
        case measure => simp [intOf]; omega
set_option maxHeartbeats 1000000 in
theorem l5Spread_any (s x : Nat) (w : World) (hs : s < 32) (hx : x < 1024) :
    Calls Try.prog 44 #[.int .i64 (s : Int), .int .i64 (x : Int)] w fun e w' => e = .returned (.int .i64 ((sprT (eltL s) x (eltL s).length : Nat) : Int)) ∧ Below w.heap.size w w' := by
  have HE := hide (fun j (hj : j < (eltL s).length) => (show ∃ q : Nat, gv (eltL s) j = (q : Int) ∧ q < 5 by
    obtain ⟨q, h1, h2, _⟩ := eltT_mem s 5 _ (gv_mem hj)
    exact ⟨q, h1, h2⟩))
  have HS := hide (fun i (hi : i ≤ (eltL s).length) => sprT_lt (L := eltL s) (x := x) (N := 5) (fun j hj => by obtain ⟨q, h1, h2⟩ := HE.out j hj; omega) i hi)
  go_enter Try.func44, Try.ntmps44
  go_wp2_with fail
  refine (l2List_any s w hs).mono ?_
  rintro e w1 ⟨B, n, c, rfl, hown, hn, hb1⟩
  have hl := hide hown.len
  go_wp2
  go_loop [6, 7] (fun a t => ∃ i : Nat, i ≤ n ∧ t = .int .i64 i ∧ a = .int .i64 ((sprT (eltL s) x i : Nat) : Int)) (fun _ t => n - (intOf t).toNat)
  case atStart => exact ⟨0, Nat.zero_le _, rfl, rfl⟩
  case round =>
    obtain ⟨i, hi, rfl, rfl⟩ := hrel
    by_cases hlt : i < n
    · obtain ⟨q, hq, hqN⟩ := HE.out i (by rw [hl.out]; exact hlt)
      obtain ⟨b, off, rfl, hb, hc⟩ := hown.ints.at_ hlt
      rw [hq] at hc
      have hb10 : sprT (eltL s) x i < 1024 := by have := HS.out i (by rw [hl.out]; exact hi); omega
      have q40 : q ≤ 40 := by omega
      have hst := hide (show sprT (eltL s) x (i + 1) = if hasB x i then insN (sprT (eltL s) x i) q else sprT (eltL s) x i by show (if hasB x i then insN (sprT (eltL s) x i) (gv (eltL s) i).toNat else sprT (eltL s) x i) = _; rw [hq, Int.toNat_natCast])
      clear hq
      generalize sprT (eltL s) x i = a at *
      cases hh : hasB x i
      · have hs2 := hide (hst.out.trans (by rw [hh]; rfl) : sprT (eltL s) x (i + 1) = a)
        go_wp2
        go_round
        case rel => exact ⟨i + 1, by omega, by go_num, by rw [hs2.out]⟩
        case measure => simp [intOf]; omega
      · have hs2 := hide (hst.out.trans (by rw [hh]; rfl) : sprT (eltL s) x (i + 1) = insN a q)
        go_wp2
        go_round
        case rel => exact ⟨i + 1, by omega, by go_num, by rw [hs2.out]⟩
        case measure => simp [intOf]; omega
    · obtain rfl : i = n := by omega
      go_wp2
      go_ret
      exact ⟨by rw [hl.out]; rfl, hb1⟩
end Go.Proofs.Ytfmibekefllhjaa
