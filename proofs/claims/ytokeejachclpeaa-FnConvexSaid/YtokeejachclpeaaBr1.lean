/-
  The words of the walks, read as plain mathematics: submodular functions, weights, orders, corners, pairings.
-/
import Derived.Test.YtokeejachclpeaaSubM
import Derived.Test.YtokeejachclpeaaExt
import Derived.Test.YtokeejachclpeaaLevM
import Derived.Test.YtokeejachclpeaaMath
namespace Go.Proofs.Ytokeejachclpeaa
open Go.RowKit

theorem not_bit {a : Bool} (h : (!a) = true) : a = false := by cases a <;> simp_all
theorem sub_smod {N n : Nat} {v : List Int} (hn : n = 2 ^ N) (h : okL v (allP N n) = true) : M.Smod (gv v) N := by
  unfold okL at h
  rw [List.all_eq_true] at h
  have key : ∀ s i k, s < 2 ^ N → i < N → k < N → i < k → s.testBit i = false → s.testBit k = false → gv v (s ||| 2 ^ i ||| 2 ^ k) + gv v s ≤ gv v (s ||| 2 ^ i) + gv v (s ||| 2 ^ k) := by
    intro s i k hs hi hk hik h1 h2
    have := h (s, i, k) (mem_allP.2 ⟨by rw [hn]; exact hs, hik, hk, by simp [offB, hasB, h1, h2]⟩)
    simp only [decide_eq_true_eq] at this
    unfold excN insN at this
    omega
  intro s i k hs hi hk hik h1 h2
  by_cases hlt : i < k
  · exact key s i k hs hi hk hlt h1 h2
  · have := key s k i hs hk hi (by omega) h2 h1
    rw [Nat.or_assoc, Nat.or_comm (2 ^ k), ← Nat.or_assoc] at this
    omega
theorem smod_sub {N n : Nat} {v : List Int} (hn : n = 2 ^ N) (h : M.Smod (gv v) N) : okL v (allP N n) = true := by
  unfold okL
  rw [List.all_eq_true]
  rintro ⟨s, i, k⟩ ht
  obtain ⟨h1, h2, h3, h4⟩ := mem_allP.1 ht
  simp only [offB, hasB, Bool.and_eq_true] at h4
  have := h s i k (by rw [← hn]; exact h1) (by simp only at h2 h3; omega) h3 (by simp only at h2; omega) (not_bit h4.1) (not_bit h4.2)
  simp only [decide_eq_true_eq]
  unfold excN insN
  omega
theorem wtN_wt (x : List Int) (s : Nat) : ∀ k, wtN x s k = M.wt (gv x) s k
  | 0 => rfl
  | k + 1 => by
    unfold wtN M.wt hasB
    rw [wtN_wt x s k]
    cases s.testBit k <;> simp
theorem weigh_wt (x : List Int) (s : Nat) : weigh x s = M.wt (gv x) s x.length := wtN_wt x s _
theorem prodT_dot (x y : List Int) : ∀ k, prodT x y k = M.dot (gv x) (gv y) k
  | 0 => rfl
  | k + 1 => by
    unfold prodT M.dot M.sumN
    rw [prodT_dot x y k]; rfl
theorem ord_ord {N : Nat} {o : List Int} (h : ordB N o = true) : M.Ord N (fun i => (gv o i).toNat) (seenN o) where
  s0 := rfl
  succ := fun i _ => rfl
  lt := fun i hi => by
    have hl : o.length = N := by simp only [ordB, Bool.and_eq_true, decide_eq_true_eq] at h; omega
    obtain ⟨e, h1, h2, _⟩ := ord_elem h (k := i) (by omega)
    show (gv o i).toNat < N
    omega
  fresh := fun i hi => by
    have hl : o.length = N := by simp only [ordB, Bool.and_eq_true, decide_eq_true_eq] at h; omega
    exact ord_fresh h (k := i) (by omega)
theorem ord_len {N : Nat} {o : List Int} (h : ordB N o = true) : o.length = N := by simp only [ordB, Bool.and_eq_true, decide_eq_true_eq] at h; omega
theorem cornT_at {N : Nat} {v o : List Int} (h : ordB N o = true) : ∀ k, k ≤ N → ∀ i, i < k → gv (cornT N v o k) (gv o i).toNat = gainN v (seenN o i) (gv o i).toNat
  | 0, _, i, hi => by omega
  | k + 1, hk, i, hi => by
    have hO := ord_ord h
    have hlt := hO.lt i (by omega)
    unfold cornT
    rw [gv_set2 (by rw [cornT_len]; exact hlt)]
    by_cases hik : i = k
    · subst hik; rw [if_pos rfl]
    · rw [if_neg, cornT_at h k (by omega) i (by omega)]
      intro he
      have h1 := hO.fresh k (by omega)
      have h2 : (seenN o (i + 1)).testBit (gv o i).toNat = true := by
        rw [hO.succ i (by omega), M.ins_bit]; simp
      have h3 := hO.part (i := i + 1) (j := k) (by omega) (by omega) _ h2
      rw [he, h3] at h1
      cases h1
theorem corn_corn {N : Nat} {v o : List Int} (h : ordB N o = true) : M.Corn (gv v) N (fun i => (gv o i).toNat) (seenN o) (gv (cornT N v o N)) := fun i hi => by
  show gv (cornT N v o N) (gv o i).toNat = _
  rw [cornT_at h N (Nat.le_refl _) i hi]
  rfl
theorem desc_desc (x : List Int) (N : Nat) : ∀ i, i + 1 < N → gv x (gv (ordD x N) (i + 1)).toNat ≤ gv x (gv (ordD x N) i).toNat := fun i hi =>
  ordD_desc x N i (i + 1) (by omega) (by rw [ordD_len]; exact hi)
/-- What is known of a valid function that is submodular. -/
theorem sub_ok {E : Int} {v : List Int} (h : subB E v = true) : ∃ N : Nat, E = (N : Int) ∧ N ≤ 5 ∧ v.length = 2 ^ N ∧ allIn v (-1000) 1000 = true ∧ M.Smod (gv v) N := by
  simp only [subB, Bool.and_eq_true] at h
  obtain ⟨N, rfl, hN, hl, ha⟩ := isFn_true h.1
  exact ⟨N, rfl, hN, hl, ha, sub_smod (N := N) hl (by simpa using h.2)⟩
/-- The extension's value as a pairing. -/
theorem ext_dot {N : Nat} {v x : List Int} (h : extOk N v x = true) : extV N v x = gv v 0 + M.dot (gv x) (gv (cornT N v (ordD x N) N)) N ∧ x.length = N := by
  obtain ⟨_, _, h3⟩ := ext_ok h
  have hl : x.length = N := by omega
  unfold extV
  rw [if_pos h, hl, prodT_dot]
  exact ⟨rfl, rfl⟩
end Go.Proofs.Ytokeejachclpeaa
