/-
  Plain: the elements by descending numbers, equal ones in order: each put in behind the last one that is not less.
-/
import Derived.Test.YtokeejachclpeaaCorner
namespace Go.Proofs.Ytokeejachclpeaa

def posN (x L : List Int) (e : Nat) : Nat → Nat
  | 0 => 0
  | k + 1 => if gv x (gv L k).toNat < gv x e then posN x L e k else k + 1
theorem posN_le (x L : List Int) (e : Nat) : ∀ k, posN x L e k ≤ k
  | 0 => Nat.le_refl _
  | k + 1 => by
    unfold posN; split
    · exact Nat.le_succ_of_le (posN_le x L e k)
    · exact Nat.le_refl _
/-- L with e put in at place p. -/
def putE (L : List Int) (e p : Nat) : List Int := L.take p ++ (e : Int) :: L.drop p
def insE (x L : List Int) (e : Nat) : List Int := putE L e (posN x L e L.length)
/-- The first k elements in order. -/
def ordD (x : List Int) : Nat → List Int
  | 0 => []
  | k + 1 => insE x (ordD x k) k
theorem putE_len {L : List Int} {e p : Nat} (hp : p ≤ L.length) : (putE L e p).length = L.length + 1 := by
  unfold putE; simp; omega
theorem ordD_len (x : List Int) : ∀ k, (ordD x k).length = k
  | 0 => rfl
  | k + 1 => by
    have ih := ordD_len x k
    unfold ordD insE
    rw [putE_len (posN_le _ _ _ _), ih]
theorem ordD_perm (x : List Int) : ∀ k, (ordD x k).Perm ((List.range k).map fun j : Nat => (j : Int))
  | 0 => List.Perm.refl _
  | k + 1 => by
    have ih := ordD_perm x k
    rw [List.range_succ, List.map_append]
    unfold ordD insE putE
    refine List.perm_middle.trans ?_
    rw [List.take_append_drop]
    refine (List.Perm.cons _ ih).trans ?_
    simpa using (List.perm_append_singleton (k : Int) ((List.range k).map fun j : Nat => (j : Int))).symm
theorem ordD_elem {x : List Int} {k j : Nat} (hj : j < k) : ∃ e : Nat, gv (ordD x k) j = (e : Int) ∧ e < k := by
  have h := gv_mem (v := ordD x k) (k := j) (by rw [ordD_len]; exact hj)
  have h2 := (ordD_perm x k).mem_iff.1 h
  simp only [List.mem_map, List.mem_range] at h2
  obtain ⟨e, he, h3⟩ := h2
  exact ⟨e, h3.symm, he⟩
theorem seenN_has {x : List Int} (hx : ∀ j, j < x.length → 0 ≤ gv x j) : ∀ k, k ≤ x.length → ∀ e : Nat, hasB (seenN x k) e = true → ∃ j, j < k ∧ gv x j = (e : Int)
  | 0, _, e, h => by simp [seenN, hasB] at h
  | k + 1, hk, e, h => by
    simp only [seenN, hasB, insN, Nat.testBit_or, Bool.or_eq_true] at h
    rcases h with h | h
    · obtain ⟨j, hj, h2⟩ := seenN_has hx k (by omega) e h
      exact ⟨j, by omega, h2⟩
    · rw [Nat.testBit_two_pow] at h
      have h3 : (gv x k).toNat = e := by simpa using h
      have := hx k (by omega)
      exact ⟨k, by omega, by omega⟩
theorem ordB_of {L : List Int} {N : Nat} (hl : L.length = N) (hr : ∀ j, j < N → 0 ≤ gv L j ∧ gv L j < N) (hd : L.Nodup) : ordB N L = true := by
  have key : ∀ k, k ≤ N → ordT N L k = true := by
    intro k
    induction k with
    | zero => intro _; rfl
    | succ k ih =>
      intro hk
      have h1 := hr k (by omega)
      simp only [ordT, ih (by omega), Bool.true_and, Bool.and_eq_true, Bool.not_eq_true']
      refine ⟨by simp [inR]; omega, ?_⟩
      cases hb : hasB (seenN L k) (gv L k).toNat
      · rfl
      · obtain ⟨j, hj, h2⟩ := seenN_has (fun j hj => (hr j (by omega)).1) k (by omega) _ hb
        exfalso
        have h3 : gv L j = gv L k := by omega
        rw [gv_get (by omega), gv_get (by omega)] at h3
        exact List.pairwise_iff_getElem.1 hd j k (by omega) (by omega) hj h3
  simp only [ordB, hl, decide_true, Bool.true_and]
  exact key N (Nat.le_refl _)
theorem ordD_ok (x : List Int) (k : Nat) : ordB k (ordD x k) = true := by
  refine ordB_of (ordD_len x k) (fun j hj => ?_) ?_
  · obtain ⟨e, h1, h2⟩ := ordD_elem (x := x) hj
    omega
  · refine (ordD_perm x k).nodup_iff.2 ?_
    exact List.Pairwise.map _ (fun a b h h2 => h (by have h3 : (a : Int) = (b : Int) := h2; omega)) List.nodup_range
theorem gv_append {A B : List Int} {j : Nat} (h : j < A.length) : gv (A ++ B) j = gv A j := by
  rw [gv_get h, gv_get (by simp; omega), List.getElem_append_left h]
theorem gv_append2 {A B : List Int} {j : Nat} (hj : j = A.length) {y : Int} : gv (A ++ y :: B) j = y := by
  subst hj; rw [gv_get (by simp), List.getElem_append_right (Nat.le_refl _)]; simp
theorem take_drop_gv {L : List Int} {j : Nat} (hj : j < L.length) : L.drop j = gv L j :: L.drop (j + 1) := by
  rw [gv_get hj]; exact List.drop_eq_getElem_cons hj
/-- The swap of the element with the one before it. -/
theorem put_swap {L R : List Int} {e j : Nat} (hj : j < L.length) :
    ((putE L e (j + 1) ++ R).set (j + 1) (gv L j)).set j (e : Int) = putE L e j ++ R := by
  have h1 : L.take (j + 1) = L.take j ++ [gv L j] := take_gv hj
  have hl : (L.take j).length = j := by simp; omega
  unfold putE
  rw [h1, take_drop_gv hj]
  simp only [List.append_assoc, List.cons_append, List.nil_append]
  rw [List.set_append_right _ _ (by omega), hl, show j + 1 - j = 1 by omega]
  rw [List.set_append_right _ _ (by simp [hl]), hl, Nat.sub_self]
  rfl
theorem put_at {L R : List Int} {e j : Nat} (hj : j ≤ L.length) : gv (putE L e j ++ R) j = (e : Int) := by
  unfold putE
  rw [List.append_assoc]
  exact gv_append2 (by simp; omega)
theorem put_before {L R : List Int} {e j : Nat} (hj : j < L.length) : gv (putE L e (j + 1) ++ R) j = gv L j := by
  unfold putE
  rw [List.append_assoc, gv_append (by simp; omega), take_gv hj]
  exact gv_append2 (by simp; omega)
end Go.Proofs.Ytokeejachclpeaa
