/-
  Extensions of submodular functions are convex. Plain mathematics: no program in sight.
-/
import Derived.Test.YtokeejachclpeaaMext
namespace Go.Proofs.Ytokeejachclpeaa.M
section
variable {N : Nat} {o S : Nat → Nat} {f : Nat → Int} {c d x y : Nat → Int}
theorem Ord.perm (h : Ord N o S) (g : Nat → Int) : sumN (fun i => g (o i)) N = sumN g N := by
  have key : ∀ i, i ≤ N → sumN (fun i => g (o i)) i = wt g (S i) N := by
    intro i
    induction i with
    | zero => intro _; rw [h.s0, wt_zero]; rfl
    | succ i ih => intro hi; rw [sumN, ih (by omega), h.sum g (by omega)]
  rw [key N (Nat.le_refl _), h.full, wt_full]
theorem Smod.low (h : Smod f N) : Smod (fun s => f s - f 0) N := fun s i k hs hi hk hik h1 h2 => by
  have := h s i k hs hi hk hik h1 h2
  show (f _ - f 0) + (f _ - f 0) ≤ (f _ - f 0) + (f _ - f 0)
  omega
theorem Corn.low (h : Corn f N o S c) : Corn (fun s => f s - f 0) N o S c := fun i hi => by
  rw [h i hi]
  show f _ - f _ = (f _ - f 0) - (f _ - f 0)
  omega
theorem dot_add (x y c : Nat → Int) (N : Nat) : dot (fun k => x k + y k) c N = dot x c N + dot y c N := by
  unfold dot; rw [← sumN_add]; apply sumN_congr; intro j _; rw [Int.add_mul]
theorem dot_congr {x y c d : Nat → Int} {N : Nat} (h : ∀ k, k < N → x k = y k) (h2 : ∀ k, k < N → c k = d k) : dot x c N = dot y d N := sumN_congr fun k hk => by rw [h k hk, h2 k hk]
theorem dot_neg (x c : Nat → Int) : ∀ N, dot (fun k => - x k) c N = - dot x c N
  | 0 => rfl
  | N + 1 => by
    have h := dot_neg x c N
    unfold dot at *
    unfold sumN
    rw [h, Int.neg_mul]; omega

/-- The corner of any order pairs at most as well as that of a descending one. -/
theorem Smod.greatest (hf : Smod f N) {o' S' : Nat → Nat} {c' : Nat → Int} (h : Ord N o S) (hc : Corn f N o S c) (h' : Ord N o' S') (hc' : Corn f N o' S' c') (hx : ∀ i, i + 1 < N → x (o (i + 1)) ≤ x (o i)) : dot x c' N ≤ dot x c N := by
  refine h.edmonds hc.low (by show f 0 - f 0 = 0; omega) hx (fun s hs => h'.below hc'.low (by show f 0 - f 0 = 0; omega) hf.low hs) ?_
  have := h'.tight hc'.low (by show f 0 - f 0 = 0; omega) (Nat.le_refl N)
  rw [h'.full] at this
  exact this
theorem Smod.convex (hf : Smod f N) {ox Sx oy Sy oz Sz : Nat → Nat} {cx cy cz : Nat → Int} (h1 : Ord N ox Sx) (c1 : Corn f N ox Sx cx) (d1 : ∀ i, i + 1 < N → x (ox (i + 1)) ≤ x (ox i))
    (h2 : Ord N oy Sy) (c2 : Corn f N oy Sy cy) (d2 : ∀ i, i + 1 < N → y (oy (i + 1)) ≤ y (oy i)) (h3 : Ord N oz Sz) (c3 : Corn f N oz Sz cz) :
    dot (fun k => x k + y k) cz N ≤ dot x cx N + dot y cy N := by
  rw [dot_add]
  have := hf.greatest h1 c1 h3 c3 d1
  have := hf.greatest h2 c2 h3 c3 d2
  omega
/-- The sum over the levels is the extension. -/
theorem Ord.lev_dot (h : Ord N o S) (hc : Corn f N o S c) (hx : ∀ i, i + 1 < N → x (o (i + 1)) ≤ x (o i)) (T : Nat) (hT : ∀ k, k < N → -(T : Int) ≤ x k ∧ x k ≤ T) :
    sumN (fun j => f (lev x (-(T : Int) + 1 + j) N) - f 0) (2 * T) = dot x c N + T * (f (2 ^ N - 1) - f 0) := by
  rw [h.levels hx T hT]
  have e1 : dot x c N = sumN (fun i => x (o i) * (f (S (i + 1)) - f (S i))) N := by
    unfold dot
    rw [← h.perm]
    apply sumN_congr
    intro i hi
    rw [hc i hi]
  have e2 : ∀ i, i ≤ N → sumN (fun i => (T : Int) * (f (S (i + 1)) - f (S i))) i = T * (f (S i) - f 0) := by
    intro i
    induction i with
    | zero => intro _; rw [h.s0]; simp [sumN]
    | succ i ih => intro hi; rw [sumN, ih (by omega)]; grind
  have e3 := e2 N (Nat.le_refl _)
  rw [h.full] at e3
  rw [e1, ← e3, ← sumN_add]
  apply sumN_congr
  intro i _
  rw [Int.add_mul]
theorem Smod.lattice (hf : Smod f N) {ox Sx oy Sy ou Su ov Sv : Nat → Nat} {cx cy cu cv : Nat → Int} {u v : Nat → Int} (h1 : Ord N ox Sx) (c1 : Corn f N ox Sx cx) (d1 : ∀ i, i + 1 < N → x (ox (i + 1)) ≤ x (ox i))
    (h2 : Ord N oy Sy) (c2 : Corn f N oy Sy cy) (d2 : ∀ i, i + 1 < N → y (oy (i + 1)) ≤ y (oy i)) (h3 : Ord N ou Su) (c3 : Corn f N ou Su cu) (d3 : ∀ i, i + 1 < N → u (ou (i + 1)) ≤ u (ou i))
    (h4 : Ord N ov Sv) (c4 : Corn f N ov Sv cv) (d4 : ∀ i, i + 1 < N → v (ov (i + 1)) ≤ v (ov i)) (hu : ∀ k, k < N → u k = min (x k) (y k)) (hv : ∀ k, k < N → v k = max (x k) (y k))
    (T : Nat) (hT : ∀ k, k < N → -(T : Int) ≤ x k ∧ x k ≤ T) (hT2 : ∀ k, k < N → -(T : Int) ≤ y k ∧ y k ≤ T) : dot u cu N + dot v cv N ≤ dot x cx N + dot y cy N := by
  have q1 := h1.lev_dot c1 d1 T hT
  have q2 := h2.lev_dot c2 d2 T hT2
  have q3 := h3.lev_dot c3 d3 T (fun k hk => by rw [hu k hk]; have := hT k hk; have := hT2 k hk; omega)
  have q4 := h4.lev_dot c4 d4 T (fun k hk => by rw [hv k hk]; have := hT k hk; have := hT2 k hk; omega)
  have hl : sumN (fun j => f (lev u (-(T : Int) + 1 + j) N) - f 0) (2 * T) + sumN (fun j => f (lev v (-(T : Int) + 1 + j) N) - f 0) (2 * T) ≤ sumN (fun j => f (lev x (-(T : Int) + 1 + j) N) - f 0) (2 * T) + sumN (fun j => f (lev y (-(T : Int) + 1 + j) N) - f 0) (2 * T) := by
    rw [← sumN_add, ← sumN_add]
    apply sumN_le
    intro j _
    have e1 : ∀ t, lev u t N = lev x t N &&& lev y t N := by
      intro t; rw [← lev_min]
      apply Nat.eq_of_testBit_eq; intro k
      rw [lev_bit, lev_bit]
      by_cases hk : k < N
      · rw [hu k hk]
      · simp [hk]
    have e2 : ∀ t, lev v t N = lev x t N ||| lev y t N := by
      intro t; rw [← lev_max]
      apply Nat.eq_of_testBit_eq; intro k
      rw [lev_bit, lev_bit]
      by_cases hk : k < N
      · rw [hv k hk]
      · simp [hk]
    rw [e1, e2]
    have := hf.two (lev_lt x (-(T : Int) + 1 + j) N) (lev_lt y (-(T : Int) + 1 + j) N)
    omega
  omega
/-- The extension at a set's indicator. -/
theorem Ord.indicator (h : Ord N o S) (hc : Corn f N o S c) (hx : ∀ i, i + 1 < N → x (o (i + 1)) ≤ x (o i)) {s : Nat} (hs : s < 2 ^ N) (hi : ∀ k, k < N → x k = if s.testBit k then 1 else 0) : f 0 + dot x c N = f s := by
  have q := h.lev_dot hc hx 1 (fun k hk => by rw [hi k hk]; split <;> omega)
  have e0 : lev x (-((1 : Nat) : Int) + 1 + ((0 : Nat) : Int)) N = 2 ^ N - 1 := by
    apply Nat.eq_of_testBit_eq; intro k
    rw [lev_bit, Nat.testBit_two_pow_sub_one]
    by_cases hk : k < N
    · rw [hi k hk]; cases s.testBit k <;> simp [hk]
    · simp [hk]
  have e1 : lev x (-((1 : Nat) : Int) + 1 + ((1 : Nat) : Int)) N = s := by
    apply Nat.eq_of_testBit_eq; intro k
    rw [lev_bit]
    by_cases hk : k < N
    · rw [hi k hk]; cases s.testBit k <;> simp [hk]
    · cases hb : s.testBit k
      · simp [hk]
      · exact absurd (bit_lt hs hb) hk
  simp only [sumN] at q
  rw [e0, e1] at q
  omega
end
end Go.Proofs.Ytokeejachclpeaa.M
