/-
  Sets as bit masks: plain words, and how the walk's arithmetic on them reads.
-/
import Derived.Test.YtokeejachclpeaaMem
namespace Go.Proofs.Ytokeejachclpeaa
open Go.RowKit

/-- The set of one element. -/
def p2 (k : Nat) : Nat := 2 ^ k
/-- The set with an element, without one, with one changed. -/
def insN (s k : Nat) : Nat := s ||| 2 ^ k
def xorN (s k : Nat) : Nat := s ^^^ 2 ^ k
def orN (s t : Nat) : Nat := s ||| t
def andN (s t : Nat) : Nat := s &&& t

theorem p2_le {k : Nat} (hk : k ≤ 40) : p2 k ≤ 1099511627776 := by
  have : (2 : Nat) ^ k ≤ 2 ^ 40 := Nat.pow_le_pow_right (by omega) hk
  unfold p2; omega
theorem p2_pos (k : Nat) : 0 < p2 k := Nat.two_pow_pos k
theorem cast_p2 (k : Nat) : ((p2 k : Nat) : Int) = 2 ^ k := by unfold p2; simp
theorem shl_a (k : Nat) (hk : k ≤ 40) : wrap64 (2 ^ k) = ((p2 k : Nat) : Int) := by
  have := p2_le hk
  rw [← cast_p2, IntWalk.wrap64_in _ (by omega)]
theorem shl_b (k : Nat) (hk : k ≤ 40) : wrap64 (2 ^ min k 64) = ((p2 k : Nat) : Int) := by
  rw [Nat.min_eq_left (by omega)]; exact shl_a k hk
theorem shl_c (k : Nat) (hk : k ≤ 40) : IntKind.i64.wrap (2 ^ min k 64) = ((p2 k : Nat) : Int) := by
  rw [Nat.min_eq_left (by omega), IntKind.wrap_i64, ← cast_p2]
  have := p2_le hk
  omega
theorem shl_d (k : Nat) (hk : k ≤ 40) : IntKind.i64.wrap (2 ^ min (IntKind.u64.wrap (k : Int)).toNat 64) = ((p2 k : Nat) : Int) := by
  have : (IntKind.u64.wrap (k : Int)).toNat = k := by rw [IntKind.wrap_u64]; omega
  rw [this]; exact shl_c k hk
theorem bor_p2 (s k : Nat) (hs : s < 1024) (hk : k ≤ 40) : bits .or .i64 (s : Int) ((p2 k : Nat) : Int) = ((insN s k : Nat) : Int) := by
  have := p2_le hk
  exact i64_or_nat s (p2 k) (by omega) (by omega)
theorem bxor_p2 (s k : Nat) (hs : s < 1024) (hk : k ≤ 40) : bits .xor .i64 (s : Int) ((p2 k : Nat) : Int) = ((xorN s k : Nat) : Int) := by
  have := p2_le hk
  exact i64_xor_nat s (p2 k) (by omega) (by omega)
theorem bhas_a (s k : Nat) (hs : s < 1024) : (bits .and .i64 ((s : Int) / 2 ^ k) 1 == 1) = hasB s k := has_and s k (by omega)
theorem bhas_b (s k : Nat) (hs : s < 1024) : (bits .and .i64 ((s : Int) / 2 ^ min k 64) 1 == 1) = hasB s k := by
  by_cases hk : k ≤ 64
  · rw [Nat.min_eq_left hk]; exact bhas_a s k hs
  · have e : hasB s k = hasB s 64 := by
      have h : ∀ j, 64 ≤ j → hasB s j = false := fun j hj => Nat.testBit_lt_two_pow (Nat.lt_of_lt_of_le (by omega : s < 2 ^ 10) (Nat.pow_le_pow_right (by omega) (by omega)))
      rw [h k (by omega), h 64 (by omega)]
    rw [Nat.min_eq_right (by omega), e]; exact bhas_a s 64 hs
theorem zero_one (s k : Nat) (hs : s < 1024) : bits .and .i64 ((s : Int) / 2 ^ k) 1 = if hasB s k then 1 else 0 := by
  have h := i64_and_nat (s / 2 ^ k) 1 (by have := Nat.div_le_self s (2 ^ k); omega) (by omega)
  have e : ((s : Int) / 2 ^ k) = ((s / 2 ^ k : Nat) : Int) := by norm_cast
  rw [e]
  refine h.trans ?_
  have h2 : hasB s k = decide (s / 2 ^ k % 2 = 1) := by unfold hasB; exact Nat.testBit_eq_decide_div_mod_eq
  rw [h2, Nat.and_one_is_mod]
  by_cases h3 : s / 2 ^ k % 2 = 1
  · simp [h3]
  · simp [h3]; omega
theorem bno_a (s k : Nat) (hs : s < 1024) : (bits .and .i64 ((s : Int) / 2 ^ k) 1 == 0) = !hasB s k := by
  rw [zero_one s k hs]; cases hasB s k <;> rfl
theorem bno_b (s k : Nat) (hs : s < 1024) : (bits .and .i64 ((s : Int) / 2 ^ min k 64) 1 == 0) = !hasB s k := by
  by_cases hk : k ≤ 64
  · rw [Nat.min_eq_left hk]; exact bno_a s k hs
  · have e : hasB s k = hasB s 64 := by
      have h : ∀ j, 64 ≤ j → hasB s j = false := fun j hj => Nat.testBit_lt_two_pow (Nat.lt_of_lt_of_le (by omega : s < 2 ^ 10) (Nat.pow_le_pow_right (by omega) (by omega)))
      rw [h k (by omega), h 64 (by omega)]
    rw [Nat.min_eq_right (by omega), e]; exact bno_a s 64 hs

/-- a without the elements of b. -/
def diffN (a b : Nat) : Nat := a ^^^ (a &&& b)
theorem band_n (a b : Nat) (ha : a < 1024) (hb : b < 1024) : bits .and .i64 (a : Int) (b : Int) = ((andN a b : Nat) : Int) := i64_and_nat a b (by omega) (by omega)
theorem bor_n (a b : Nat) (ha : a < 1024) (hb : b < 1024) : bits .or .i64 (a : Int) (b : Int) = ((orN a b : Nat) : Int) := i64_or_nat a b (by omega) (by omega)
theorem diffN_le (a b : Nat) : diffN a b ≤ a := by
  have h : diffN a b = a &&& (a ^^^ b) := by
    unfold diffN
    apply Nat.eq_of_testBit_eq; intro i
    simp only [Nat.testBit_xor, Nat.testBit_and]
    cases a.testBit i <;> cases b.testBit i <;> rfl
  rw [h]; exact Nat.and_le_left
theorem bdiff_n (a b : Nat) (ha : a < 1024) (hb : b < 1024) : bits .andNot .i64 (a : Int) (b : Int) = ((diffN a b : Nat) : Int) := by
  have hle := diffN_le a b
  show IntKind.i64.wrap ((BitVec.ofInt 64 (a : Int) &&& ~~~(BitVec.ofInt 64 (b : Int))).toNat : Int) = _
  have e : (BitVec.ofInt 64 (a : Int) &&& ~~~(BitVec.ofInt 64 (b : Int))).toNat = diffN a b := by
    apply Nat.eq_of_testBit_eq
    intro i
    rw [BitVec.testBit_toNat, BitVec.getLsbD_and, BitVec.getLsbD_not, ← BitVec.testBit_toNat, ← BitVec.testBit_toNat, ofInt_i64 a (by omega), ofInt_i64 b (by omega)]
    unfold diffN
    simp only [Nat.testBit_xor, Nat.testBit_and]
    by_cases hi : i < 64
    · simp only [hi, decide_true, Bool.true_and]
      cases a.testBit i <;> cases b.testBit i <;> rfl
    · have ha' : a.testBit i = false := Nat.testBit_lt_two_pow (Nat.lt_of_lt_of_le (by omega : a < 2 ^ 10) (Nat.pow_le_pow_right (by omega) (by omega)))
      simp [ha']
  rw [e, IntKind.wrap_i64]
  omega

attribute [go_sem] band_n bor_n bdiff_n
attribute [go_sem] shl_a shl_b shl_c shl_d bor_p2 bxor_p2 bhas_a bhas_b bno_a bno_b

theorem insN_lt {s k N : Nat} (hs : s < 2 ^ N) (hk : k < N) : insN s k < 2 ^ N := Nat.or_lt_two_pow hs (Nat.pow_lt_pow_right (by omega) hk)
theorem xorN_lt {s k N : Nat} (hs : s < 2 ^ N) (hk : k < N) : xorN s k < 2 ^ N := Nat.xor_lt_two_pow hs (Nat.pow_lt_pow_right (by omega) hk)

/-! Functions of sets. -/
/-- A function of E elements with the values v: is it valid? -/
def isFn (E : Int) (v : List Int) : Bool := inR E 0 5 && (decide ((v.length : Int) = ((p2 E.toNat : Nat) : Int)) && allIn v (-1000) 1000)
theorem isFn_true {E : Int} {v : List Int} (h : isFn E v = true) : ∃ N : Nat, E = (N : Int) ∧ N ≤ 5 ∧ v.length = 2 ^ N ∧ allIn v (-1000) 1000 = true := by
  simp only [isFn, Bool.and_eq_true, decide_eq_true_eq] at h
  obtain ⟨h1, h2, h3⟩ := h
  have := inR_true h1
  refine ⟨E.toNat, by omega, by omega, ?_, h3⟩
  unfold p2 at h2; omega
/-- What is known of a valid function with N elements and n values. -/
structure FnOk (N n : Nat) (v : List Int) : Prop where
  hN : N ≤ 5
  hn : n = 2 ^ N
  hl : v.length = n
  ha : allIn v (-1000) 1000 = true
theorem FnOk.of {E : Int} {w : World} {A : Option Addr} {n : Nat} {v : List Int} (hf : isFn E v = true) (hv : Ints w A n v) : ∃ N : Nat, E = (N : Int) ∧ FnOk N n v := by
  obtain ⟨N, rfl, hN, hl, ha⟩ := isFn_true hf
  exact ⟨N, rfl, hN, hv.len.symm.trans hl, hv.len, ha⟩
section
variable {N n : Nat} {v : List Int}
theorem FnOk.n0 (h : FnOk N n v) : 0 < n := by rw [h.hn]; exact Nat.two_pow_pos N
theorem FnOk.n32 (h : FnOk N n v) : n ≤ 32 := by rw [h.hn]; exact Nat.pow_le_pow_right (by omega) h.hN
theorem FnOk.ins (h : FnOk N n v) {s k : Nat} (hs : s < n) (hk : k < N) : insN s k < n := by rw [h.hn] at *; exact insN_lt hs hk
theorem FnOk.xor (h : FnOk N n v) {s k : Nat} (hs : s < n) (hk : k < N) : xorN s k < n := by rw [h.hn] at *; exact xorN_lt hs hk
theorem FnOk.p2 (h : FnOk N n v) {k : Nat} (hk : k < N) : p2 k < n := by rw [h.hn]; exact Nat.pow_lt_pow_right (by omega) hk
theorem FnOk.bd (h : FnOk N n v) {s : Nat} (hs : s < n) : -1000 ≤ gv v s ∧ gv v s ≤ 1000 := allIn_gv (by rw [h.hl]; exact hs) h.ha
end
/-- What an element adds to a set. -/
def gainN (v : List Int) (s k : Nat) : Int := gv v (insN s k) - gv v s
theorem FnOk.gain {N n : Nat} {v : List Int} (h : FnOk N n v) {s k : Nat} (hs : s < n) (hk : k < N) : -2000 ≤ gainN v s k ∧ gainN v s k ≤ 2000 := by
  have := h.bd hs
  have := h.bd (h.ins hs hk)
  unfold gainN; omega

/-- Where a function that came in by value lies in its own block, and all else is as it was. -/
def FB (w wr : World) (E : Int) (A : Option Addr) (n c : Nat) : Prop :=
  Below w.heap.size w wr ∧ w.heap.size < wr.heap.size ∧ wr.cell? ⟨w.heap.size, 0, none⟩ = some (.int .i64 E) ∧ wr.cell? ⟨w.heap.size, 1, none⟩ = some (.slice A n c)
theorem FB.parts {w wr : World} {E : Int} {A : Option Addr} {n c : Nat} (h : FB w wr E A n c) : Below w.heap.size w wr ∧ w.heap.size < wr.heap.size ∧ wr.cell? ⟨w.heap.size, 0, none⟩ = some (.int .i64 E) ∧ wr.cell? ⟨w.heap.size, 1, none⟩ = some (.slice A n c) := h
theorem FB.start (w : World) (E : Int) (A : Option Addr) (n c : Nat) : FB w (w.alloc (.cells #[.int .i64 E, .slice A n c] 26)) E A n c :=
  ⟨(Below.refl _ _).alloc (Nat.le_refl _) _, by simp, by rw [World.cell?_alloc_at _ _ _ _ rfl]; rfl, by rw [World.cell?_alloc_at _ _ _ _ rfl]; rfl⟩
theorem FB.step {w wr w2 : World} {E : Int} {A : Option Addr} {n c : Nat} (h : FB w wr E A n c) (hb : Below wr.heap.size wr w2) : FB w w2 E A n c :=
  ⟨h.1.trans (hb.mono h.1.size), Nat.lt_of_lt_of_le h.2.1 hb.size, (hb.cell (p := ⟨w.heap.size, 0, none⟩) h.2.1).trans h.2.2.1, (hb.cell (p := ⟨w.heap.size, 1, none⟩) h.2.1).trans h.2.2.2⟩
theorem FB.drewN {w wr : World} {E : Int} {A : Option Addr} {n c : Nat} (h : FB w wr E A n c) (k : Nat) : FB w (wr.drewN k) E A n c :=
  h.step (below_drewN (Below.refl _ _) k)
theorem FB.drew {w wr : World} {E : Int} {A : Option Addr} {n c : Nat} (h : FB w wr E A n c) : FB w wr.drew E A n c := ⟨h.1.drew, h.2⟩
theorem app_FB {w wr W w1 : World} {o : Obj} {E : Int} {A B : Option Addr} {n c r cr : Nat} {xs : List Int} (hFB : FB w wr E A n c) (hown : Own wr (w.heap.size + 1) B r cr xs) (hg : W.grownBy w1 (B.map (·.block))) (hW : Below wr.heap.size (wr.alloc o) W) (hh : W.heap = (wr.alloc o).heap) : FB w w1 E A n c := by
  have hb := app_below (hFB.1) hFB.1.size (hown.less (Nat.le_succ _)) hg hW
  have h1 : wr.heap.size ≤ w1.heap.size := Nat.le_trans (by rw [hh]; simp) hg.size
  exact ⟨hb, Nat.lt_of_lt_of_le hFB.2.1 h1, app_keep hown hg hh (by omega) hFB.2.1 hFB.2.2.1, app_keep hown hg hh (by omega) hFB.2.1 hFB.2.2.2⟩
theorem quiet_left {P : Program} {f : FuncId} {args : Array Value} {w : World} {n : Nat} {v : Value}
    (h : Calls P f args (w.drewN n) fun e w' => e = .returned v ∧ w.drewN n = w') : Calls P f args (w.drewN n) fun e w'' => e = .returned v ∧ ∃ m, w'' = w.drewN m :=
  h.mono fun _ _ ⟨he, hm⟩ => ⟨he, n, hm.symm⟩
end Go.Proofs.Ytokeejachclpeaa
