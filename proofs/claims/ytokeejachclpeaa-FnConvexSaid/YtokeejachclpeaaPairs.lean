/-
  Plain: the pairs of elements that are not in a set, in order; how much the condition of submodularity fails.
-/
import Derived.Test.YtokeejachclpeaaFun
namespace Go.Proofs.Ytokeejachclpeaa
open Go.RowKit

/-- By how much the condition fails for a set and two elements. -/
def excN (v : List Int) (s i k : Nat) : Int := gv v (insN (insN s i) k) + gv v s - gv v (insN s i) - gv v (insN s k)
/-- Neither i nor k is in s. -/
def offB (s i k : Nat) : Bool := !hasB s i && !hasB s k
theorem insN_comm (s i k : Nat) : insN (insN s i) k = insN (insN s k) i := by
  unfold insN; rw [Nat.or_assoc, Nat.or_assoc, Nat.or_comm (2 ^ i)]
theorem orN_ins (s i k : Nat) : orN (insN s i) (insN s k) = insN (insN s i) k := by
  unfold insN orN
  apply Nat.eq_of_testBit_eq; intro j
  simp only [Nat.testBit_or]
  cases s.testBit j <;> simp
theorem excN_comm (v : List Int) (s i k : Nat) : excN v s i k = excN v s k i := by
  unfold excN; rw [insN_comm]; omega
theorem excN_bd {N n : Nat} {v : List Int} (h : FnOk N n v) {s i k : Nat} (hs : s < n) (hi : i < N) (hk : k < N) : -4000 ≤ excN v s i k ∧ excN v s i k ≤ 4000 := by
  have h1 := h.ins hs hi
  have h2 := h.ins hs hk
  have := h.bd hs
  have := h.bd h1
  have := h.bd h2
  have := h.bd (h.ins h1 hk)
  unfold excN; omega

abbrev T3 := Nat × Nat × Nat
def rowP (s i k : Nat) : List T3 := ((List.range k).filter fun j => decide (i < j) && offB s i j).map fun j => (s, i, j)
def colP (N s i : Nat) : List T3 := (List.range i).flatMap fun j => rowP s j N
def allP (N s : Nat) : List T3 := (List.range s).flatMap fun t => colP N t N
theorem rowP_start (s i : Nat) : rowP s i (i + 1) = [] := by
  unfold rowP
  rw [List.map_eq_nil_iff, List.filter_eq_nil_iff]
  intro j hj
  simp at hj; simp; intro h; omega
theorem rowP_snoc {s i k : Nat} (h : i < k) : rowP s i (k + 1) = rowP s i k ++ (if offB s i k then [(s, i, k)] else []) := by
  unfold rowP
  rw [List.range_succ, List.filter_append, List.map_append]
  cases hb : offB s i k <;> simp [h, hb]
theorem colP_snoc (N s i : Nat) : colP N s (i + 1) = colP N s i ++ rowP s i N := by
  unfold colP; rw [List.range_succ, List.flatMap_append]; simp
theorem allP_snoc (N s : Nat) : allP N (s + 1) = allP N s ++ colP N s N := by
  unfold allP; rw [List.range_succ, List.flatMap_append]; simp
theorem mem_rowP {s i k : Nat} {t : T3} : t ∈ rowP s i k ↔ t.1 = s ∧ t.2.1 = i ∧ i < t.2.2 ∧ t.2.2 < k ∧ offB s i t.2.2 = true := by
  obtain ⟨a, b, c⟩ := t
  simp only [rowP, List.mem_map, List.mem_filter, List.mem_range, Bool.and_eq_true, decide_eq_true_eq, Prod.mk.injEq]
  constructor
  · rintro ⟨j, ⟨h1, h2, h3⟩, rfl, rfl, rfl⟩; exact ⟨rfl, rfl, h2, h1, h3⟩
  · rintro ⟨rfl, rfl, h1, h2, h3⟩; exact ⟨c, ⟨h2, h1, h3⟩, rfl, rfl, rfl⟩
theorem mem_allP {N n : Nat} {t : T3} : t ∈ allP N n ↔ t.1 < n ∧ t.2.1 < t.2.2 ∧ t.2.2 < N ∧ offB t.1 t.2.1 t.2.2 = true := by
  obtain ⟨a, b, c⟩ := t
  simp only [allP, colP, List.mem_flatMap, List.mem_range, mem_rowP]
  constructor
  · rintro ⟨s, hs, i, hi, rfl, rfl, h1, h2, h3⟩; exact ⟨hs, h1, h2, h3⟩
  · rintro ⟨h1, h2, h3, h4⟩; exact ⟨a, h1, b, by omega, rfl, rfl, h2, h3, h4⟩

/-- The greatest of 0 and of what the triples of the list exceed by. -/
def gapL (v : List Int) (l : List T3) : Int := l.foldl (fun m t => mx m (excN v t.1 t.2.1 t.2.2)) 0
theorem gapL_snoc (v : List Int) (l : List T3) (s i k : Nat) : gapL v (l ++ [(s, i, k)]) = mx (gapL v l) (excN v s i k) := by
  unfold gapL; rw [List.foldl_append]; rfl
theorem mx_ge (a b : Int) : a ≤ mx a b ∧ b ≤ mx a b := by unfold mx; split <;> omega
theorem gap_from (v : List Int) : ∀ (l : List T3) (m : Int), m ≤ l.foldl (fun m t => mx m (excN v t.1 t.2.1 t.2.2)) m ∧ (∀ t ∈ l, excN v t.1 t.2.1 t.2.2 ≤ l.foldl (fun m t => mx m (excN v t.1 t.2.1 t.2.2)) m) ∧
    (l.foldl (fun m t => mx m (excN v t.1 t.2.1 t.2.2)) m = m ∨ ∃ t ∈ l, l.foldl (fun m t => mx m (excN v t.1 t.2.1 t.2.2)) m = excN v t.1 t.2.1 t.2.2)
  | [], m => ⟨Int.le_refl _, fun _ h => (List.not_mem_nil h).elim, .inl rfl⟩
  | t :: l, m => by
    obtain ⟨h1, h2, h3⟩ := gap_from v l (mx m (excN v t.1 t.2.1 t.2.2))
    have h4 := mx_ge m (excN v t.1 t.2.1 t.2.2)
    refine ⟨Int.le_trans h4.1 h1, fun u hu => ?_, ?_⟩
    · rcases List.mem_cons.1 hu with rfl | hu
      · exact Int.le_trans h4.2 h1
      · exact h2 u hu
    · rcases h3 with h3 | ⟨u, hu, h3⟩
      · simp only [List.foldl_cons]
        rw [h3]
        by_cases hlt : m < excN v t.1 t.2.1 t.2.2
        · exact .inr ⟨t, List.mem_cons_self, by unfold mx; rw [if_pos hlt]⟩
        · exact .inl (by unfold mx; rw [if_neg hlt])
      · exact .inr ⟨u, List.mem_cons_of_mem _ hu, h3⟩
theorem gapL_spec (v : List Int) (l : List T3) : 0 ≤ gapL v l ∧ (∀ t ∈ l, excN v t.1 t.2.1 t.2.2 ≤ gapL v l) ∧ (gapL v l = 0 ∨ ∃ t ∈ l, gapL v l = excN v t.1 t.2.1 t.2.2) := gap_from v l 0
theorem gapL_le {v : List Int} {l : List T3} {b : Int} (hb : 0 ≤ b) (h : ∀ t ∈ l, excN v t.1 t.2.1 t.2.2 ≤ b) : gapL v l ≤ b := by
  rcases (gapL_spec v l).2.2 with e | ⟨t, ht, e⟩
  · omega
  · have := h t ht; omega
def gapN (v : List Int) (N n : Nat) : Int := gapL v (allP N n)
def gapR (E : Int) (v : List Int) : Int := if isFn E v then gapN v E.toNat v.length else 0

/-! The other order: k below i. -/
def rowQ (s i k : Nat) : List T3 := ((List.range k).filter fun j => offB s i j).map fun j => (s, i, j)
def colQ (s i : Nat) : List T3 := (List.range i).flatMap fun j => rowQ s j j
def allQ (N s : Nat) : List T3 := (List.range s).flatMap fun t => colQ t N
theorem rowQ_snoc (s i k : Nat) : rowQ s i (k + 1) = rowQ s i k ++ (if offB s i k then [(s, i, k)] else []) := by
  unfold rowQ
  rw [List.range_succ, List.filter_append, List.map_append]
  cases hb : offB s i k <;> simp [hb]
theorem colQ_snoc (s i : Nat) : colQ s (i + 1) = colQ s i ++ rowQ s i i := by
  unfold colQ; rw [List.range_succ, List.flatMap_append]; simp
theorem allQ_snoc (N s : Nat) : allQ N (s + 1) = allQ N s ++ colQ s N := by
  unfold allQ; rw [List.range_succ, List.flatMap_append]; simp
theorem mem_allQ {N n : Nat} {t : T3} : t ∈ allQ N n ↔ t.1 < n ∧ t.2.2 < t.2.1 ∧ t.2.1 < N ∧ offB t.1 t.2.1 t.2.2 = true := by
  obtain ⟨a, b, c⟩ := t
  simp only [allQ, colQ, rowQ, List.mem_flatMap, List.mem_map, List.mem_filter, List.mem_range, Prod.mk.injEq]
  constructor
  · rintro ⟨s, hs, i, hi, j, ⟨h1, h2⟩, rfl, rfl, rfl⟩; exact ⟨hs, h1, hi, h2⟩
  · rintro ⟨h1, h2, h3, h4⟩; exact ⟨a, h1, b, h3, c, ⟨h2, h4⟩, rfl, rfl, rfl⟩
theorem offB_comm (s i k : Nat) : offB s i k = offB s k i := Bool.and_comm _ _
theorem gap_same (v : List Int) (N n : Nat) : gapL v (allQ N n) = gapN v N n := by
  apply Int.le_antisymm
  · refine gapL_le (gapL_spec _ _).1 fun t ht => ?_
    obtain ⟨h1, h2, h3, h4⟩ := mem_allQ.1 ht
    have := (gapL_spec v (allP N n)).2.1 (t.1, t.2.2, t.2.1) (mem_allP.2 ⟨h1, h2, h3, by rw [offB_comm]; exact h4⟩)
    rw [excN_comm]; exact this
  · refine gapL_le (gapL_spec _ _).1 fun t ht => ?_
    obtain ⟨h1, h2, h3, h4⟩ := mem_allP.1 ht
    have := (gapL_spec v (allQ N n)).2.1 (t.1, t.2.2, t.2.1) (mem_allQ.2 ⟨h1, h2, h3, by rw [offB_comm]; exact h4⟩)
    rw [excN_comm]; exact this
end Go.Proofs.Ytokeejachclpeaa
