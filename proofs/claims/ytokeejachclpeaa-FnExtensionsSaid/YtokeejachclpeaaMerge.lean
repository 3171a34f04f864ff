/-
  Walks: elements merged.
-/
import Derived.Test.YtokeejachclpeaaSymA
import Derived.Test.YtokeejachclpeaaSubM
import Derived.Test.YtokeejachclpeaaCurM
namespace Go.Proofs.Ytokeejachclpeaa
open Go.RowKit

/-- The elements below e of a set, ascending. -/
def eltT (s : Nat) : Nat → List Int
  | 0 => []
  | e + 1 => if hasB s e then eltT s e ++ [(e : Int)] else eltT s e
theorem eltT_le (s : Nat) : ∀ e, (eltT s e).length ≤ e
  | 0 => Nat.le_refl _
  | e + 1 => by have ih := eltT_le s e; unfold eltT; split <;> simp <;> omega
theorem eltT_mem (s : Nat) : ∀ e, ∀ a ∈ eltT s e, ∃ q : Nat, a = (q : Int) ∧ q < e ∧ hasB s q = true
  | 0, a, h => by simp [eltT] at h
  | e + 1, a, h => by
    unfold eltT at h
    split at h
    · rename_i hh
      rcases List.mem_append.1 h with h | h
      · obtain ⟨q, h1, h2, h3⟩ := eltT_mem s e a h
        exact ⟨q, h1, by omega, h3⟩
      · simp at h; exact ⟨e, h, by omega, hh⟩
    · obtain ⟨q, h1, h2, h3⟩ := eltT_mem s e a h
      exact ⟨q, h1, by omega, h3⟩
theorem elt_stop {s e : Nat} (h : s < 2 ^ e) : ∀ d, eltT s (e + d) = eltT s e
  | 0 => rfl
  | d + 1 => by
    have ih := elt_stop h d
    show (if hasB s (e + d) then eltT s (e + d) ++ [((e + d : Nat) : Int)] else eltT s (e + d)) = _
    rw [show hasB s (e + d) = false from Nat.testBit_lt_two_pow (Nat.lt_of_lt_of_le h (Nat.pow_le_pow_right (by omega) (by omega))), ih]
    rfl
def eltL (s : Nat) : List Int := eltT s 5
theorem elt_all {s e : Nat} (h : s < 2 ^ e) (he : e ≤ 5) : eltT s e = eltL s := by
  have := elt_stop h (5 - e)
  rw [show e + (5 - e) = 5 by omega] at this
  exact this.symm
/-- The set whose elements are those of L at the places in x, of the first i places. -/
def sprT (L : List Int) (x : Nat) : Nat → Nat
  | 0 => 0
  | i + 1 => if hasB x i then insN (sprT L x i) (gv L i).toNat else sprT L x i
theorem sprT_lt {L : List Int} {x N : Nat} (h : ∀ j, j < L.length → (gv L j).toNat < N) : ∀ i, i ≤ L.length → sprT L x i < 2 ^ N
  | 0, _ => Nat.two_pow_pos N
  | i + 1, hi => by
    have ih := sprT_lt (x := x) h i (by omega)
    unfold sprT
    split
    · exact insN_lt ih (h i (by omega))
    · exact ih
def mrgI (L : List Int) (a b x : Nat) : Nat := if hasB (sprT L x L.length) a then insN (sprT L x L.length) b else sprT L x L.length
theorem own_zero' (w : World) : Own (w.alloc (.cells #[] 3)) w.heap.size (some ⟨w.heap.size, 0, none⟩) 0 0 [] := own_none w
set_option maxHeartbeats 1000000 in
theorem elementsOf_any (s : Nat) (w : World) (hs : s < 32) :
    Calls Try.prog 182 #[.int .i64 (s : Int)] w fun e w' => ∃ B r cr, e = .returned (.slice B r cr) ∧ Own w' w.heap.size B r cr (eltL s) ∧ r ≤ 5 ∧ Below w.heap.size w w' := by
  have s10 : s < 1024 := by omega
  go_enter Try.func182, Try.ntmps182
  go_wp2
  go_loopw [3, 4] (fun l t wr => ∃ (e r : Nat) (B : Option Addr) (cr : Nat), e ≤ 5 ∧ t = .int .i64 e ∧ l = .slice B r cr ∧ r ≤ e ∧ Own wr w.heap.size B r cr (eltT s e) ∧ Below w.heap.size w wr) (fun _ t _ => 6 - (intOf t).toNat)
  case atStart => exact ⟨0, 0, none, 0, by omega, rfl, rfl, Nat.le_refl _, own_nil _ _, Below.refl _ _⟩
  case round =>
    obtain ⟨e, r, B, cr, he, rfl, rfl, hr, hown, hbel⟩ := hrel
    have hbsz := hbel.size
    have hcast : ((s : Int) / 2 ^ e) = ((s / 2 ^ e : Nat) : Int) := by norm_cast
    have hmin : min e 64 = e := by omega
    by_cases hz : s / 2 ^ e = 0
    · have hlt : s < 2 ^ e := by
        rcases Nat.div_eq_zero_iff.1 hz with h | h
        · have := Nat.two_pow_pos e; omega
        · exact h
      have hE := hide (elt_all hlt he)
      have hd : ((s : Int) / 2 ^ e != 0) = false := by rw [hcast, hz]; rfl
      clear hcast hz hlt
      rw [hE.out] at hown
      go_wp2
      go_ret
      exact ⟨B, r, cr, rfl, hown, by omega, hbel⟩
    · have he5 : e < 5 := by
        by_cases h5 : e = 5
        · subst h5; exact absurd (Nat.div_eq_of_lt (by omega : s < 2 ^ 5)) hz
        · omega
      have hd : ((s : Int) / 2 ^ e != 0) = true := by
        rw [hcast, bne_iff_ne]
        intro h0
        exact hz (by exact_mod_cast h0)
      have hst := hide (show eltT s (e + 1) = if hasB s e then eltT s e ++ [(e : Int)] else eltT s e from rfl)
      clear hcast hz
      cases hh : hasB s e
      · have hs2 := hide (show eltT s (e + 1) = eltT s e by rw [hst.out, hh]; rfl)
        go_wp2
        go_roundw
        case rel => exact ⟨e + 1, r, B, cr, by omega, by go_num, rfl, by omega, by rw [hs2.out]; exact hown, hbel⟩
        case measure => simp [intOf]; omega
      · have hs2 := hide (show eltT s (e + 1) = eltT s e ++ [(e : Int)] by rw [hst.out, hh]; rfl)
        generalize eltT s e = L at *
        go_wp2_with (refine wpl_app (by rfl) _ _ (by rfl) w.heap.size B r cr wr.heap.size L (e : Int) (by rfl) (by rfl) (hown.alloc _) (cell_new wr _) (by omega) (by simp; omega) ?_; intro g cap w3 hown3 hgrow hat hlt3)
        go_roundw
        case rel => exact ⟨e + 1, r + 1, _, cap, by omega, by go_num, rfl, by omega, by rw [hs2.out]; exact hown3, app_below hbel hbel.size hown hgrow (Below.refl _ _)⟩
        case measure => simp [intOf]; omega
end Go.Proofs.Ytokeejachclpeaa
