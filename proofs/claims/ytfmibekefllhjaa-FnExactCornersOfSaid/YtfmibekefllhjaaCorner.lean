/-
  Walks: orders and corners.
-/
import Derived.Test.YtfmibekefllhjaaBelM
import Derived.Deep.RegionHeld3
namespace Go.Proofs.Ytfmibekefllhjaa
open Go.RowKit

/-- The set of the first k numbers of a list. -/
def seenN (x : List Int) : Nat → Nat
  | 0 => 0
  | k + 1 => insN (seenN x k) (gv x k).toNat
/-- Are the first k numbers elements, each once? -/
def ordT (N : Nat) (x : List Int) : Nat → Bool
  | 0 => true
  | k + 1 => ordT N x k && (inR (gv x k) 0 ((N : Int) - 1) && !hasB (seenN x k) (gv x k).toNat)
def ordB (N : Nat) (x : List Int) : Bool := decide ((x.length : Int) = (N : Int)) && ordT N x x.length
theorem ordT_le {N : Nat} {x : List Int} {k : Nat} : ∀ {j}, k ≤ j → ordT N x j = true → ordT N x k = true
  | 0, h, hj => by obtain rfl : k = 0 := by omega
                   exact hj
  | j + 1, h, hj => by
    by_cases he : k = j + 1
    · rw [he]; exact hj
    · simp [ordT] at hj
      exact ordT_le (j := j) (by omega) hj.1
theorem ordB_no {N : Nat} {x : List Int} {k : Nat} (hk : k < x.length) (h : (inR (gv x k) 0 ((N : Int) - 1) && !hasB (seenN x k) (gv x k).toNat) = false) : ordB N x = false := by
  cases ho : ordB N x
  · rfl
  · simp only [ordB, Bool.and_eq_true] at ho
    have := ordT_le (k := k + 1) (by omega) ho.2
    simp only [ordT, h, Bool.and_false] at this
    exact absurd this Bool.false_ne_true
theorem seen_lt {N : Nat} {x : List Int} : ∀ k, ordT N x k = true → seenN x k < 2 ^ N
  | 0, _ => Nat.two_pow_pos N
  | k + 1, h => by
    simp only [ordT, Bool.and_eq_true] at h
    have ⟨h1, h2⟩ := inR_true h.2.1
    exact insN_lt (seen_lt k h.1) (by omega)
theorem ord_elem {N : Nat} {x : List Int} (h : ordB N x = true) {k : Nat} (hk : k < x.length) : ∃ e : Nat, gv x k = (e : Int) ∧ e < N ∧ seenN x (k + 1) = insN (seenN x k) e := by
  simp only [ordB, Bool.and_eq_true] at h
  have h2 := ordT_le (k := k + 1) (by omega) h.2
  simp only [ordT, Bool.and_eq_true] at h2
  have ⟨h3, h4⟩ := inR_true h2.2.1
  exact ⟨(gv x k).toNat, by omega, by omega, rfl⟩
theorem ord_seen {N : Nat} {x : List Int} (h : ordB N x = true) {k : Nat} (hk : k ≤ x.length) : seenN x k < 2 ^ N := by
  simp only [ordB, Bool.and_eq_true] at h
  exact seen_lt k (ordT_le hk h.2)

theorem FB.set_ {w wr : World} {E : Int} {A : Option Addr} {n c : Nat} (h : FB w wr E A n c) {p : Addr} (hp : w.heap.size < p.block) (u : Value) : FB w (wr.setCell p u) E A n c := by
  have hb := (Below.refl (w.heap.size + 1) wr).setCell (p := p) hp u
  obtain ⟨h1, h2, h3, h4⟩ := h
  refine ⟨h1.setCell (Nat.le_of_lt hp) u, Nat.lt_of_lt_of_le h2 hb.size, ?_, ?_⟩
  · exact (hb.cell (p := ⟨w.heap.size, 0, none⟩) (Nat.lt_succ_self _)).trans h3
  · exact (hb.cell (p := ⟨w.heap.size, 1, none⟩) (Nat.lt_succ_self _)).trans h4
/-- What the first k elements of an order add. -/
def cornT (N : Nat) (v x : List Int) : Nat → List Int
  | 0 => List.replicate N 0
  | k + 1 => (cornT N v x k).set (gv x k).toNat (gainN v (seenN x k) (gv x k).toNat)
def cornOk (E : Int) (v x : List Int) : Bool := grdB E v && ordB E.toNat x
def cornL (E : Int) (v x : List Int) : List Int := if cornOk E v x then cornT E.toNat v x x.length else []
set_option maxHeartbeats 1000000 in
theorem corner_any (N : Nat) (A : Option Addr) (n c : Nat) (v : List Int) (A' : Option Addr) (m c' : Nat) (x : List Int) (w : World) (hv : Ints w A n v) (hx : Ints w A' m x) (hf : isFn N v = true) (ho : ordB N x = true) :
    Calls Try.prog 60 #[.agg #[.int .i64 (N : Int), .slice A n c], .slice A' m c'] w fun e w' => ∃ B r cr, e = .returned (.slice B r cr) ∧ Own w' w.heap.size B r cr (cornT N v x m) ∧ r ≤ 1048576 ∧ Below w.heap.size w w' := by
  have hle := hx.le
  have hxl := hide hx.len
  have Hf := hide hf
  have Ho := hide ho
  obtain ⟨N', hNe, fo⟩ := FnOk.of hf hv
  obtain rfl : N = N' := by omega
  clear hNe
  have hN := fo.hN
  have n32 := fo.n32
  have hnp := hide fo.hn
  have hmN : m = N := by simp only [ordB, Bool.and_eq_true, decide_eq_true_eq, hxl.out] at ho; omega
  have hm5 : m ≤ 5 := by omega
  have HmN := hide hmN
  clear hf ho hmN
  have hmk := fun W => make_ints m (by omega) W
  have hOwn0 : Own ((w.alloc (.cells #[.int .i64 (N : Int), .slice A n c] 27)).alloc (.cells (madeCells #[.int .i64 0] m) 3)) (w.heap.size + 1) (some ⟨w.heap.size + 1, 0, none⟩) m m (List.replicate m 0) := by
    simpa using own_made m (by omega) (w.alloc (.cells #[.int .i64 (N : Int), .slice A n c] 27)) (Nat.le_refl _)
  have hF0 : FB w ((w.alloc (.cells #[.int .i64 (N : Int), .slice A n c] 27)).alloc (.cells (madeCells #[.int .i64 0] m) 3)) N A n c := (FB.start w N A n c).step ((Below.refl _ _).alloc (Nat.le_refl _) _)
  go_enter Try.func60, Try.ntmps60
  go_wp2
  go_loopw [6, 14] (fun s i wr => ∃ k : Nat, k ≤ m ∧ i = .int .i64 k ∧ s = .int .i64 (seenN x k : Int) ∧ Own wr (w.heap.size + 1) (some ⟨w.heap.size + 1, 0, none⟩) m m (cornT N v x k) ∧ FB w wr N A n c) (fun _ i _ => m - (intOf i).toNat)
  case atStart => exact ⟨0, Nat.zero_le _, rfl, rfl, by rw [show cornT N v x 0 = List.replicate m 0 by rw [HmN.out]; rfl]; exact hOwn0, hF0⟩
  clear hOwn0 hF0
  case round =>
    obtain ⟨k, hk, rfl, rfl, hown, hFBr⟩ := hrel
    obtain ⟨hbelr, hzr, r0, r1⟩ := hFBr.parts
    have hs := ord_seen Ho.out (k := k) (by rw [hxl.out]; exact hk)
    rw [← hnp.out] at hs
    by_cases hlt : k < m
    · obtain ⟨e, he, heN, hsn⟩ := ord_elem Ho.out (k := k) (by rw [hxl.out]; exact hlt)
      have Hsn := hide hsn; clear hsn
      have hct := hide (show cornT N v x (k + 1) = (cornT N v x k).set e (gainN v (seenN x k) e) by simp only [cornT, he]; rfl)
      obtain ⟨b, off, rfl, hbb, hc⟩ := (hx.below hbelr (Nat.le_refl _)).at_ hlt
      rw [he] at hc; clear he
      have hem : e < m := by rw [HmN.out]; exact heN
      have i1 : (0 : Int) ≤ (e : Int) := by omega
      have i2 : (e : Int) < (m : Int) := by omega
      have hg := fun W (h : Ints W A n v) => gain_any N A n c v (seenN x k) e W h Hf.out hs (by omega)
      have HG := hide hg; clear hg
      have hs10 : seenN x k < 1024 := by omega
      have he40 : e ≤ 40 := by omega
      generalize seenN x k = s at *
      go_wp2_with fail
      refine (HG.out _ (hv.below hbelr (Nat.le_refl _))).mono ?_
      rintro q w1 ⟨rfl, hb1⟩
      have hFB1 := hFBr.step hb1
      have hown1 := hown.below hb1 (Nat.le_refl _)
      have c3 := hown1.cell hem
      have c4 := hown1.frozen e
      go_wp2
      go_roundw
      case rel => exact ⟨k + 1, by omega, by go_num, by rw [Hsn.out], by rw [hct.out]; exact hown1.set_ e _, hFB1.set_ (p := ⟨w.heap.size + 1, e, none⟩) (Nat.lt_succ_self _) _⟩
      case measure => simp [intOf]; omega
    · obtain rfl : k = m := by omega
      go_wp2
      go_ret
      exact ⟨_, k, k, rfl, hown.less (Nat.le_succ _), by omega, hbelr⟩
set_option maxHeartbeats 1000000 in
theorem l8Corner_any (N : Nat) (A : Option Addr) (n c : Nat) (v : List Int) (A' : Option Addr) (m c' : Nat) (x : List Int) (w : World) (hv : Ints w A n v) (hx : Ints w A' m x) (hf : isFn N v = true) (ho : ordB N x = true) :
    Calls Try.prog 57 #[.agg #[.int .i64 (N : Int), .slice A n c], .slice A' m c'] w fun e w' => ∃ B r cr, e = .returned (.slice B r cr) ∧ Own w' w.heap.size B r cr (cornT N v x m) ∧ r ≤ 1048576 ∧ Below w.heap.size w w' := by
  have hle := hx.le
  have hxl := hide hx.len
  have Ho := hide ho
  obtain ⟨N', hNe, fo⟩ := FnOk.of hf hv
  obtain rfl : N = N' := by omega
  clear hNe
  have hN := fo.hN
  have n32 := fo.n32
  have hnp := hide fo.hn
  have hmN : m = N := by simp only [ordB, Bool.and_eq_true, decide_eq_true_eq, hxl.out] at ho; omega
  have hm5 : m ≤ 5 := by omega
  have HmN := hide hmN
  obtain ⟨b0, off0, rfl, hb0, hc0⟩ := hv.all_ fo.n0
  have HC := hide hc0
  clear hf ho hmN hc0
  have hmk := fun W => make_ints N (by omega) W
  have hOwn0 : Own ((w.alloc (.cells #[.int .i64 (N : Int), .slice (some ⟨b0, off0, none⟩) n c] 27)).alloc (.cells (madeCells #[.int .i64 0] N) 3)) (w.heap.size + 1) (some ⟨w.heap.size + 1, 0, none⟩) N N (List.replicate N 0) := by
    simpa using own_made N (by omega) (w.alloc (.cells #[.int .i64 (N : Int), .slice (some ⟨b0, off0, none⟩) n c] 27)) (Nat.le_refl _)
  have hF0 : FB w ((w.alloc (.cells #[.int .i64 (N : Int), .slice (some ⟨b0, off0, none⟩) n c] 27)).alloc (.cells (madeCells #[.int .i64 0] N) 3)) N (some ⟨b0, off0, none⟩) n c := (FB.start w N (some ⟨b0, off0, none⟩) n c).step ((Below.refl _ _).alloc (Nat.le_refl _) _)
  go_enter Try.func57, Try.ntmps57
  go_wp2
  go_loopw [6, 7] (fun s i wr => ∃ k : Nat, k ≤ m ∧ i = .int .i64 k ∧ s = .int .i64 (seenN x k : Int) ∧ Own wr (w.heap.size + 1) (some ⟨w.heap.size + 1, 0, none⟩) N N (cornT N v x k) ∧ FB w wr N (some ⟨b0, off0, none⟩) n c) (fun _ i _ => m - (intOf i).toNat)
  case atStart => exact ⟨0, Nat.zero_le _, rfl, rfl, hOwn0, hF0⟩
  clear hOwn0 hF0
  case round =>
    obtain ⟨k, hk, rfl, rfl, hown, hFBr⟩ := hrel
    obtain ⟨hbelr, hzr, r0, r1⟩ := hFBr.parts
    have hs := ord_seen Ho.out (k := k) (by rw [hxl.out]; exact hk)
    rw [← hnp.out] at hs
    by_cases hlt : k < m
    · obtain ⟨e, he, heN, hsn⟩ := ord_elem Ho.out (k := k) (by rw [hxl.out]; exact hlt)
      have Hsn := hide hsn; clear hsn
      have hct := hide (show cornT N v x (k + 1) = (cornT N v x k).set e (gv v (insN (seenN x k) e) - gv v (seenN x k)) by simp only [cornT, he]; rfl)
      obtain ⟨b, off, rfl, hbb, hc⟩ := hx.at_ hlt
      have hbne : w.heap.size + 1 ≠ b := by omega
      replace hc := (hbelr.cell (p := ⟨b, off + k, none⟩) hbb).trans hc
      rw [he] at hc; clear he
      have i1 : (0 : Int) ≤ (e : Int) := by omega
      have i2 : (e : Int) < (N : Int) := by omega
      have hins := fo.ins hs heN
      have hs10 : seenN x k < 1024 := by omega
      have he40 : e ≤ 40 := by omega
      have hi10 : insN (seenN x k) e < 1024 := by omega
      obtain ⟨g1, g2⟩ := fo.bd hs
      obtain ⟨g3, g4⟩ := fo.bd hins
      have c1 : wr.cell? ⟨b0, off0 + seenN x k, none⟩ = some (.int .i64 (gv v (seenN x k))) := (hbelr.cell (p := ⟨b0, off0 + seenN x k, none⟩) hb0).trans (HC.out _ hs)
      have c2 : wr.cell? ⟨b0, off0 + insN (seenN x k) e, none⟩ = some (.int .i64 (gv v (insN (seenN x k) e))) := (hbelr.cell (p := ⟨b0, off0 + insN (seenN x k) e, none⟩) hb0).trans (HC.out _ hins)
      have c3 := hown.cell heN
      have c4 := hown.frozen e
      generalize seenN x k = s at *
      have i3 : (0 : Int) ≤ (s : Int) := by omega
      have i4 : (s : Int) < (n : Int) := by omega
      have i5 : (0 : Int) ≤ ((insN s e : Nat) : Int) := by omega
      have i6 : ((insN s e : Nat) : Int) < (n : Int) := by omega
      have i7 : (0 : Int) ≤ (k : Int) := by omega
      have i8 : (k : Int) < (m : Int) := by omega
      have t1 : IntKind.i64.wrap (gv v (insN s e) - gv v s) = gv v (insN s e) - gv v s := IntWalk.i64_in _ (by omega)
      have j1 : w.heap.size + 1 ≠ b0 := by omega
      have j2 : w.heap.size + 1 ≠ b := hbne
      go_wp2
      go_region_held3 (fun w' => w'.cell? ⟨w.heap.size, 1, none⟩ = some (.slice (some ⟨b0, off0, none⟩) n c) ∧ w'.cell? ⟨b, off + k, none⟩ = some (.int .i64 (e : Int)) ∧ w'.cell? ⟨b0, off0 + insN s e, none⟩ = some (.int .i64 (gv v (insN s e))) ∧ w'.cell? ⟨b0, off0 + s, none⟩ = some (.int .i64 (gv v s)))
        (first
          | go_keep)
        (fail)
      go_wp2
      go_roundw
      case rel => exact ⟨k + 1, by omega, by go_num, by rw [Hsn.out], by rw [hct.out]; exact hown.set_ e _, hFBr.drew.set_ (p := ⟨w.heap.size + 1, e, none⟩) (Nat.lt_succ_self _) _⟩
      case measure => simp [intOf]; omega
    · obtain rfl : k = m := by omega
      go_wp2
      go_ret
      exact ⟨_, N, N, rfl, hown.less (Nat.le_succ _), by omega, hbelr⟩
end Go.Proofs.Ytfmibekefllhjaa
