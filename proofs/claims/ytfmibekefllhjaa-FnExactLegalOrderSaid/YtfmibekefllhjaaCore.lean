/-
  Plain words on lists of numbers and on sets: no Go, no program in sight.
  Words on memory for this seat's walks: a slice value that reads as a list of ints ('Ints'), and what keeps it. No program is named here.
  Sets as bit masks: plain words, and how the walk's arithmetic on them reads.
  Walks: numbers within bounds; ratios compared.
  Walks: vectors: their bounds, negative parts.
  Walks: functions of sets: validity, gains.
  append of a whole slice to a row of the call's own.
-/
import Derived.Test.YtfmibekefllhjaaProg
import Derived.Deep.OwnRows
import Derived.WalkKit
import Derived.WalkLawsBesides
import Derived.WalkSpells
import Derived.Deep.QuietTactic
import Derived.BigQuiet
import Derived.Deep.RegionHeld3
import Derived.Deep.AppendLies
import Derived.Laws.BitsAllLaws
import Derived.Laws.BitsLemmas
import Derived.Maps.AppendAt
namespace Go.Proofs.Ytfmibekefllhjaa

/-- The number at place k, 0 beyond the end. (A plain def: the walk's simp does not look inside.) -/
def gv (v : List Int) (k : Nat) : Int := v.getD k 0
theorem gv_get {v : List Int} {k : Nat} (h : k < v.length) : gv v k = v[k] := by simp [gv, List.getD, List.getElem?_eq_getElem h]
theorem gv_mem {v : List Int} {k : Nat} (h : k < v.length) : gv v k ∈ v := by rw [gv_get h]; exact List.getElem_mem h
theorem take_gv {v : List Int} {k : Nat} (h : k < v.length) : v.take (k + 1) = v.take k ++ [gv v k] := by
  rw [List.take_add_one, List.getElem?_eq_getElem h, gv_get h]; rfl

/-- Is the number from l to h? -/
def inR (x l h : Int) : Bool := decide (l ≤ x ∧ x ≤ h)
/-- Are all numbers from l to h? -/
def allIn (v : List Int) (l h : Int) : Bool := v.all fun x => inR x l h
/-- Is element k in the set s? -/
def hasB (s k : Nat) : Bool := s.testBit k

theorem inR_true {x l h : Int} (hh : inR x l h = true) : l ≤ x ∧ x ≤ h := by simpa [inR] using hh
theorem allIn_snoc {v : List Int} {l h : Int} {k : Nat} (hk : k < v.length) : allIn (v.take (k+1)) l h = (allIn (v.take k) l h && inR (gv v k) l h) := by
  rw [take_gv hk]; simp [allIn]
theorem allIn_false {v : List Int} {l h : Int} {k : Nat} (hk : k < v.length) (hf : inR (gv v k) l h = false) : allIn v l h = false := by
  unfold allIn; rw [List.all_eq_false]; exact ⟨gv v k, gv_mem hk, by simpa using hf⟩
theorem allIn_gv {v : List Int} {l h : Int} {k : Nat} (hk : k < v.length) (ha : allIn v l h = true) : l ≤ gv v k ∧ gv v k ≤ h :=
  inR_true ((List.all_eq_true.1 ha) _ (gv_mem hk))

/-- Compare a/b with c/d. -/
def cmpR (a b c d : Int) : Int :=
  if inR a 0 100000 && inR b 1 100000 && inR c 0 100000 && inR d 1 100000 then (if a * d < c * b then -1 else if a * d > c * b then 1 else 0) else -2

/-- At most five numbers from -r to r. -/
def vecOk (r : Int) (v : List Int) : Bool := decide (v.length ≤ 5) && allIn v (-r) r
theorem vecOk_true {r : Int} {v : List Int} (h : vecOk r v = true) : v.length ≤ 5 ∧ allIn v (-r) r = true := by simpa [vecOk] using h
theorem vecOk_gv {r : Int} {v : List Int} (h : vecOk r v = true) {k : Nat} (hk : k < v.length) : -r ≤ gv v k ∧ gv v k ≤ r := allIn_gv hk (vecOk_true h).2
/-- The sum of the negative numbers. -/
def negSum (v : List Int) : Int := (v.map fun x => min x 0).sum
/-- What NegativePart gives. -/
def negR (v : List Int) : Int := if vecOk 5000 v then negSum v else 0
theorem negSum_snoc {v : List Int} {k : Nat} (hk : k < v.length) : negSum (v.take (k + 1)) = negSum (v.take k) + min (gv v k) 0 := by
  rw [take_gv hk]; simp [negSum]
theorem negSum_bd {v : List Int} (h : vecOk 5000 v = true) (k : Nat) : -25000 ≤ negSum (v.take k) ∧ negSum (v.take k) ≤ 0 := by
  have h5 := (vecOk_true h).1
  have key : ∀ j : Nat, -5000 * (j : Int) ≤ negSum (v.take j) ∧ negSum (v.take j) ≤ 0 := by
    intro j
    induction j with
    | zero => simp [negSum]
    | succ j ih =>
      by_cases hj : j < v.length
      · rw [negSum_snoc hj]
        have := vecOk_gv h hj
        omega
      · rw [List.take_of_length_le (by omega)] at ih ⊢
        omega
  by_cases hk : k ≤ 5
  · have := key k; omega
  · have := key 5
    rw [List.take_of_length_le (by omega)] at this ⊢
    omega
end Go.Proofs.Ytfmibekefllhjaa
namespace Go.Proofs.Ytfmibekefllhjaa
open Go.RowKit

theorem hide {p : Prop} (h : p) : Hid p := h
theorem unhide {p : Prop} (h : Hid p) : p := h

/-- The slice '.slice A n c' reads as the numbers xs in the world w. -/
def Ints (w : World) (A : Option Addr) (n : Nat) (xs : List Int) : Prop :=
  xs.length = n ∧ n ≤ 9223372036854775807 ∧ (0 < n → ∃ b off, A = some ⟨b, off, none⟩ ∧ ∀ j, j < n → w.cell? ⟨b, off + j, none⟩ = some (.int .i64 (gv xs j)))

section
variable {w w' : World} {A : Option Addr} {n : Nat} {xs : List Int}
theorem Ints.len (h : Ints w A n xs) : xs.length = n := h.1
theorem Ints.le (h : Ints w A n xs) : n ≤ 9223372036854775807 := h.2.1
theorem Ints.at_ (h : Ints w A n xs) {k : Nat} (hk : k < n) : ∃ b off, A = some ⟨b, off, none⟩ ∧ b < w.heap.size ∧ w.cell? ⟨b, off + k, none⟩ = some (.int .i64 (gv xs k)) := by
  obtain ⟨b, off, rfl, hc⟩ := h.2.2 (by omega)
  exact ⟨b, off, rfl, World.block_lt_of_cell? _ _ (hc k hk), hc k hk⟩
theorem Ints.all_ (h : Ints w A n xs) (hn : 0 < n) : ∃ b off, A = some ⟨b, off, none⟩ ∧ b < w.heap.size ∧ ∀ j, j < n → w.cell? ⟨b, off + j, none⟩ = some (.int .i64 (gv xs j)) := by
  obtain ⟨b, off, rfl, hc⟩ := h.2.2 hn
  exact ⟨b, off, rfl, World.block_lt_of_cell? _ _ (hc 0 hn), hc⟩
theorem Ints.nil_ (w : World) (A : Option Addr) : Ints w A 0 [] := ⟨rfl, by omega, fun h => absurd h (by omega)⟩
theorem Ints.keep (h : Ints w A n xs) (hk : ∀ p : Addr, p.block < w.heap.size → w'.cell? p = w.cell? p) : Ints w' A n xs :=
  ⟨h.1, h.2.1, fun hn => by
    obtain ⟨b, off, rfl, hb, hc⟩ := h.all_ hn
    exact ⟨b, off, rfl, fun j hj => (hk _ hb).trans (hc j hj)⟩⟩
theorem Ints.below (h : Ints w A n xs) {B : Nat} (hb : Below B w w') (hB : w.heap.size ≤ B) : Ints w' A n xs := h.keep fun _ hp => hb.cell (Nat.lt_of_lt_of_le hp hB)
theorem Ints.drew (h : Ints w A n xs) : Ints w.drew A n xs := h
theorem Ints.alloc (h : Ints w A n xs) (o : Obj) : Ints (w.alloc o) A n xs := h.keep fun p hp => World.cell?_alloc_lt w o p hp
theorem Ints.of_own {base e c : Nat} (h : w.ownsRow base e 1 (.slice A n c) n (xs.map (Value.int .i64))) : Ints w A n xs := by
  have hl : xs.length = n := by simpa using h.1
  rcases h.2 with ⟨hv, h0⟩ | ⟨g, cap, cur, hv, _, hg, hnc, hcm, _⟩
  · exact ⟨hl, by omega, fun hn => absurd hn (by omega)⟩
  · injection hv with h1 h2 h3
    subst h1; subst h3
    refine ⟨hl, by simp only [maxLen] at hcm; omega, fun hn => ⟨g, 0, rfl, fun j hj => ?_⟩⟩
    have hu : (xs.map (Value.int .i64))[j]? = some (.int .i64 (gv xs j)) := by simp [gv_get (show j < xs.length by omega), List.getElem?_eq_getElem (show j < xs.length by omega)]
    have hadd : (⟨g, 0, none⟩ : Addr).add j = ⟨g, 0 + j, none⟩ := by unfold Addr.add; split <;> simp_all
    rw [← hadd]
    exact h.cells (g := g) rfl j _ hu
end

theorem ret_bool {a b : Bool} (h : a = b) : Ending.returned (.bool a) = .returned (.bool b) := by rw [h]
theorem ret_int {k : IntKind} {a b : Int} (h : a = b) : Ending.returned (.int k a) = .returned (.int k b) := by rw [h]

/-- Behind a call that made blocks: every old cell and mark reads as before (two rules for the walk). -/
theorem bcell {W w1 : World} (hb : Below W.heap.size W w1) : (∀ b o, b < W.heap.size → w1.cell? ⟨b, o, none⟩ = W.cell? ⟨b, o, none⟩) ∧ (∀ b o, b < W.heap.size → w1.frozen? ⟨b, o, none⟩ = W.frozen? ⟨b, o, none⟩) :=
  ⟨fun b o h => hb.cell (p := ⟨b, o, none⟩) h, fun b o h => hb.frozen (p := ⟨b, o, none⟩) h⟩

/-! Bits of ints that are sets. -/
theorem ofInt_i64 (a : Nat) (ha : a < 9223372036854775808) : (BitVec.ofInt 64 (a : Int)).toNat = a := by
  rw [BitVec.ofInt_natCast, BitVec.toNat_ofNat]; exact Nat.mod_eq_of_lt (by omega)
theorem i64_and_nat (a b : Nat) (ha : a < 9223372036854775808) (hb : b < 9223372036854775808) : bits .and .i64 (a : Int) (b : Int) = ((a &&& b : Nat) : Int) := by
  have hx : a &&& b < 2 ^ 63 := Nat.and_lt_two_pow _ (by omega)
  show IntKind.i64.wrap ((BitVec.ofInt 64 (a : Int) &&& BitVec.ofInt 64 (b : Int)).toNat : Int) = _
  rw [BitVec.toNat_and, ofInt_i64 a ha, ofInt_i64 b hb, IntKind.wrap_i64]
  omega
theorem i64_or_nat (a b : Nat) (ha : a < 9223372036854775808) (hb : b < 9223372036854775808) : bits .or .i64 (a : Int) (b : Int) = ((a ||| b : Nat) : Int) := by
  have hx : a ||| b < 2 ^ 63 := Nat.or_lt_two_pow (by omega) (by omega)
  show IntKind.i64.wrap ((BitVec.ofInt 64 (a : Int) ||| BitVec.ofInt 64 (b : Int)).toNat : Int) = _
  rw [BitVec.toNat_or, ofInt_i64 a ha, ofInt_i64 b hb, IntKind.wrap_i64]
  omega
theorem i64_xor_nat (a b : Nat) (ha : a < 9223372036854775808) (hb : b < 9223372036854775808) : bits .xor .i64 (a : Int) (b : Int) = ((a ^^^ b : Nat) : Int) := by
  have hx : a ^^^ b < 2 ^ 63 := Nat.xor_lt_two_pow (by omega) (by omega)
  show IntKind.i64.wrap ((BitVec.ofInt 64 (a : Int) ^^^ BitVec.ofInt 64 (b : Int)).toNat : Int) = _
  rw [BitVec.toNat_xor, ofInt_i64 a ha, ofInt_i64 b hb, IntKind.wrap_i64]
  omega
theorem has_and (s k : Nat) (hs : s < 9223372036854775808) : (bits .and .i64 ((s : Int) / 2 ^ k) 1 == 1) = hasB s k := by
  have e : ((s : Int) / 2 ^ k) = ((s / 2 ^ k : Nat) : Int) := by norm_cast
  have h1 : s / 2 ^ k ≤ s := Nat.div_le_self _ _
  have := i64_and_nat (s / 2 ^ k) 1 (by omega) (by omega)
  rw [e]
  have e1 : (1 : Int) = ((1 : Nat) : Int) := rfl
  rw [e1, this]
  have h2 : hasB s k = decide (s / 2 ^ k % 2 = 1) := by unfold hasB; exact Nat.testBit_eq_decide_div_mod_eq
  rw [h2, Nat.and_one_is_mod]
  rw [Bool.eq_iff_iff]; simp; omega

/-! A row of ints of the call's own: '.slice A n c' (nil too) lies in a block from B on and holds xs. -/
def Own (w : World) (B : Nat) (A : Option Addr) (n c : Nat) (xs : List Int) : Prop := w.ownsRow B 3 1 (.slice A n c) n (xs.map (Value.int .i64))

section
variable {w w' : World} {B n c : Nat} {A : Option Addr} {xs : List Int}
theorem Own.ints (h : Own w B A n c xs) : Ints w A n xs := Ints.of_own h
theorem Own.len (h : Own w B A n c xs) : xs.length = n := by simpa using h.1
theorem Own.form (h : Own w B A n c xs) (hn : 0 < n) : ∃ g, A = some ⟨g, 0, none⟩ ∧ B ≤ g ∧ g < w.heap.size := by
  rcases h.2 with ⟨_, h0⟩ | ⟨g, cap, cur, hv, hb, hg, _⟩
  · omega
  · injection hv with h1 h2 h3
    exact ⟨g, h1, hb, (Array.getElem?_eq_some_iff.1 hg).1⟩
/-- Where the row lies, if it is not nil. -/
theorem Own.where_ (h : Own w B A n c xs) : A = none ∨ ∃ g, A = some ⟨g, 0, none⟩ ∧ B ≤ g ∧ g < w.heap.size := by
  rcases h.2 with ⟨hv, _⟩ | ⟨g, cap, cur, hv, hb, hg, _⟩
  · injection hv with h1 _ _; exact .inl h1
  · injection hv with h1 h2 h3
    exact .inr ⟨g, h1, hb, (Array.getElem?_eq_some_iff.1 hg).1⟩
theorem Own.cell {g : Nat} (h : Own w B (some ⟨g, 0, none⟩) n c xs) {k : Nat} (hk : k < n) : w.cell? ⟨g, k, none⟩ = some (.int .i64 (gv xs k)) := by
  rw [World.ownsRow.cellAt h k (by omega)]
  have hl := h.len
  simp [gv_get (show k < xs.length by omega), List.getElem?_eq_getElem (show k < xs.length by omega)]
theorem Own.frozen {g : Nat} (h : Own w B (some ⟨g, 0, none⟩) n c xs) (k : Nat) : w.frozen? ⟨g, k, none⟩ = false := World.ownsRow.frozenAt h k
theorem Own.set_ {g : Nat} (h : Own w B (some ⟨g, 0, none⟩) n c xs) (k : Nat) (u : Int) : Own (w.setCell ⟨g, k, none⟩ (.int .i64 u)) B (some ⟨g, 0, none⟩) n c (xs.set k u) := by
  have h1 := (World.ownsRow.stored h k (.int .i64 u)).1
  unfold Own
  rw [List.map_set]
  exact h1
theorem Own.alloc (h : Own w B A n c xs) (o : Obj) : Own (w.alloc o) B A n c xs := World.ownsRow.alloc h o
theorem Own.less {B' : Nat} (h : Own w B A n c xs) (hB : B' ≤ B) : Own w B' A n c xs := by
  refine ⟨h.1, ?_⟩
  rcases h.2 with h2 | ⟨g, cap, cur, hv, hg, r⟩
  · exact Or.inl h2
  · exact Or.inr ⟨g, cap, cur, hv, Nat.le_trans hB hg, r⟩
/-- Kept where its block reads as it did. -/
theorem Own.keep (h : Own w B A n c xs) (hk : ∀ g, g < w.heap.size → A = some ⟨g, 0, none⟩ → w'.heap[g]? = w.heap[g]?) : Own w' B A n c xs := by
  refine ⟨h.1, ?_⟩
  rcases h.2 with h2 | ⟨g, cap, cur, hv, hg, hh, r⟩
  · exact Or.inl h2
  · refine Or.inr ⟨g, cap, cur, hv, hg, ?_, r⟩
    rw [hk g (Array.getElem?_eq_some_iff.1 hh).1 (by injection hv)]
    exact hh
theorem Own.below (h : Own w B A n c xs) {B' : Nat} (hb : Below B' w w') (hB : w.heap.size ≤ B') : Own w' B A n c xs :=
  h.keep fun g hg _ => hb.block g (Nat.lt_of_lt_of_le hg hB)
theorem Own.far {p : Addr} (h : Own w B A n c xs) (hp : ∀ g, A = some ⟨g, 0, none⟩ → g ≠ p.block) (u : Value) : Own (w.setCell p u) B A n c xs :=
  h.keep fun g _ ha => Below.heap_setCell _ _ _ _ (hp g ha)
theorem cell_new (w : World) (y : Int) : (w.alloc (.cells #[.int .i64 y] 3)).cell? ⟨w.heap.size, 0, none⟩ = some (.int .i64 y) := by rw [World.cell?_alloc_at _ _ _ _ rfl]; rfl
theorem own_none (w : World) : Own (w.alloc (.cells #[] 3)) w.heap.size (some ⟨w.heap.size, 0, none⟩) 0 0 [] :=
  World.ownsRow_made (base := w.heap.size) (e := 3) (size := 1) w #[] 0 (Nat.le_refl _) (by simp [maxLen]) rfl
theorem own_nil (w : World) (B : Nat) : Own w B none 0 0 [] := World.ownsRow_nil w B _ _
end

theorem int_info : (Try.prog.info? 3).map (fun i => (i.zero, i.size, i.bytes)) = some (some (.int .i64 0), 1, 8) := by kernel_rfl
theorem make_ints (n : Nat) (hn : n ≤ 1048576) (w : World) :
    (Instr.makeSlice 22 (.int .i64 (n : Int)) (.int .i64 (n : Int))).run Try.prog w = .ok (.slice (some ⟨w.heap.size, 0, none⟩) n n) (w.alloc (.cells (madeCells #[.int .i64 0] n) 3)) :=
  Go.run_make_row' 22 3 (.int .i64 0) 8 Try.underlying22 int_info rfl .i64 .i64 n (by omega) (by omega) w
theorem own_made (n : Nat) (hn : n ≤ 1048576) (w : World) {B : Nat} (hB : B ≤ w.heap.size) : Own (w.alloc (.cells (madeCells #[.int .i64 0] n) 3)) B (some ⟨w.heap.size, 0, none⟩) n n (List.replicate n 0) := by
  have h := World.ownsRow_lit (e := 3) (size := 1) w (madeCells #[.int .i64 0] n) n hB (by simp only [maxLen]; omega) (by simp [size_madeCells])
  rw [toList_madeCells_one] at h
  unfold Own
  rw [List.map_replicate]
  exact h

/-! append of one int to a row of the call's own -/
section
variable {w : World}
theorem app_side {H : Nat} {y : Int} (hcell : w.cell? ⟨H, 0, none⟩ = some (.int .i64 y)) :
    ∀ j u, ([Value.int .i64 y])[j]? = some u → w.cell? ((⟨H, 0, none⟩ : Addr).add j) = some u := by
  intro j u hu
  cases j with
  | zero => simp at hu; subst hu; simpa [Addr.add] using hcell
  | succ j => simp at hu
theorem own_block (A : Option Addr) (n c : Nat) : (Value.slice A n c).ownBlock = A.map (·.block) := by cases A <;> rfl
theorem step_app {ops : Array Oper} {o : Oper} {a : Act} {K : Act → World → Prop} {Q : Exit → Act → World → Prop} {E : Prop} (hgd : o.guard = none) (s x : Operand)
    (ho : o.op = .call { callee := .builtin .append, args := #[s, x], argTypes := #[22, 22] })
    (B : Nat) (A : Option Addr) (n c H : Nat) (xs : List Int) (y : Int) (hs : a.eval s = .slice A n c) (hx : a.eval x = .slice (some ⟨H, 0, none⟩) 1 1)
    (hown : Own w B A n c xs) (hcell : w.cell? ⟨H, 0, none⟩ = some (.int .i64 y)) (hn : n ≤ 1099511627776) (hB : B ≤ w.heap.size)
    (h : ∀ g cap w', Own w' B (some ⟨g, 0, none⟩) (n + 1) cap (xs ++ [y]) → w.grownBy w' (A.map (·.block)) → (A = some ⟨g, 0, none⟩ ∨ g = w.heap.size) → g < w'.heap.size → K (a.put o.dst (.slice (some ⟨g, 0, none⟩) (n + 1) cap)) w') :
    if Region.wanted o (yielded ops a.tmps) = true then Oper.wp Try.prog o a w K Q else E := by
  obtain ⟨i0, hi0, hz0, hz1, hz2⟩ := info_parts int_info
  refine step_append_lies _ hgd s x _ ho B 3 i0 _ 1 8 Try.underlying22 hi0 hz0 hz1 hz2 rfl (by omega) (.slice A n c) n (xs.map (Value.int .i64)) hs hown ⟨H, 0, none⟩ 1 1 [.int .i64 y] hx rfl (app_side hcell) (by simp [Value.oneCell'])
    (by omega) (by simp only [maxLen]; omega) (by omega) hB w.heap.size rfl ?_
  intro g cap w' ho hg hb hlt
  refine h g cap w' (by unfold Own; rw [List.map_append]; exact ho) (by rw [← own_block A n c]; exact hg) ?_ hlt
  rcases hb with hb | hb
  · rcases hown.where_ with e | ⟨g', e, _, _⟩
    · subst e; simp [Value.ownBlock] at hb
    · subst e; simp [Value.ownBlock] at hb; subst hb; exact .inl rfl
  · exact .inr hb
theorem wpl_app {ops : Array Oper} {rest : List Oper} {o : Oper} {a : Act} {Q : Exit → Act → World → Prop} (hgd : o.guard = none) (s x : Operand)
    (ho : o.op = .call { callee := .builtin .append, args := #[s, x], argTypes := #[22, 22] })
    (B : Nat) (A : Option Addr) (n c H : Nat) (xs : List Int) (y : Int) (hs : a.eval s = .slice A n c) (hx : a.eval x = .slice (some ⟨H, 0, none⟩) 1 1)
    (hown : Own w B A n c xs) (hcell : w.cell? ⟨H, 0, none⟩ = some (.int .i64 y)) (hn : n ≤ 1099511627776) (hB : B ≤ w.heap.size)
    (h : ∀ g cap w', Own w' B (some ⟨g, 0, none⟩) (n + 1) cap (xs ++ [y]) → w.grownBy w' (A.map (·.block)) → (A = some ⟨g, 0, none⟩ ∨ g = w.heap.size) → g < w'.heap.size → wpList Try.prog ops Q rest (a.put o.dst (.slice (some ⟨g, 0, none⟩) (n + 1) cap)) w') : wpList Try.prog ops Q (o :: rest) a w := by
  obtain ⟨i0, hi0, hz0, hz1, hz2⟩ := info_parts int_info
  refine wpList_append_lies _ hgd s x _ ho B 3 i0 _ 1 8 Try.underlying22 hi0 hz0 hz1 hz2 rfl (by omega) (.slice A n c) n (xs.map (Value.int .i64)) hs hown ⟨H, 0, none⟩ 1 1 [.int .i64 y] hx rfl (app_side hcell) (by simp [Value.oneCell'])
    (by omega) (by simp only [maxLen]; omega) (by omega) hB w.heap.size rfl ?_
  intro g cap w' ho hg hb hlt
  refine h g cap w' (by unfold Own; rw [List.map_append]; exact ho) (by rw [← own_block A n c]; exact hg) ?_ hlt
  rcases hb with hb | hb
  · rcases hown.where_ with e | ⟨g', e, _, _⟩
    · subst e; simp [Value.ownBlock] at hb
    · subst e; simp [Value.ownBlock] at hb; subst hb; exact .inl rfl
  · exact .inr hb
end

/-- Behind an append to a row of the call's own: an old cell, a box, another row. -/
theorem app_keep {wr W w1 : World} {o : Obj} {B n c : Nat} {A : Option Addr} {xs : List Int} {b off : Nat} {x : Value} (hown : Own wr B A n c xs) (hg : W.grownBy w1 (A.map (·.block))) (hW : W.heap = (wr.alloc o).heap)
    (hp : b < B) (hpw : b < wr.heap.size) (hc : wr.cell? ⟨b, off, none⟩ = some x) : w1.cell? ⟨b, off, none⟩ = some x := by
  have h1 : w1.heap[b]? = wr.heap[b]? := by
    rw [hg.block b (by rw [hW]; simp; omega) (fun he => by
      rcases hown.where_ with e | ⟨g, e, h1, _⟩
      · subst e; cases he
      · subst e; simp at he; omega), hW]
    exact Below.heap_alloc wr o b hpw
  rw [World.cell?_of_block (w := wr) h1]; exact hc
theorem app_below {w0 wr W w1 : World} {o : Obj} {B n c : Nat} {A : Option Addr} {xs : List Int} (hb : Below B w0 wr) (hB : B ≤ wr.heap.size) (hown : Own wr B A n c xs) (hg : W.grownBy w1 (A.map (·.block))) (hW : Below wr.heap.size (wr.alloc o) W) : Below B w0 w1 :=
  ((hb.alloc hB o).trans (hW.mono hB)).grown hg (Nat.le_trans (Nat.le_trans hB (by simp)) hW.size) (fun k hk => by
    rcases hown.where_ with e | ⟨g, e, h1, _⟩
    · subst e; cases hk
    · subst e; simp at hk; omega)
/-- The least of two, as the walk has it. -/
def mn (a b : Int) : Int := if b < a then b else a
def mx (a b : Int) : Int := if a < b then b else a
theorem take_set_snoc {zs P : List Int} {k : Nat} {u : Int} (hk : k < zs.length) (h : zs.take k = P) : (zs.set k u).take (k + 1) = P ++ [u] := by
  have h2 : k < (zs.set k u).length := by simpa using hk
  rw [take_gv h2, gv_get h2, List.take_set, List.set_eq_of_length_le (by simp; omega), h]
  simp
end Go.Proofs.Ytfmibekefllhjaa
namespace Go.Proofs.Ytfmibekefllhjaa
open Go.RowKit

/-- The set of one element. -/
def p2 (k : Nat) : Nat := 2 ^ k
/-- The set with an element, without one, with one changed. -/
def insN (s k : Nat) : Nat := s ||| 2 ^ k
def xorN (s k : Nat) : Nat := s ^^^ 2 ^ k
def orN (s t : Nat) : Nat := s ||| t
def andN (s t : Nat) : Nat := s &&& t

theorem p2_le {k : Nat} (hk : k ≤ 40) : p2 k ≤ 1099511627776 := by
  have : (2 : Nat) ^ k ≤ 2 ^ 40 := Nat.pow_le_pow_right (by omega) hk
  unfold p2; omega
theorem p2_pos (k : Nat) : 0 < p2 k := Nat.two_pow_pos k
theorem cast_p2 (k : Nat) : ((p2 k : Nat) : Int) = 2 ^ k := by unfold p2; simp
theorem shl_a (k : Nat) (hk : k ≤ 40) : wrap64 (2 ^ k) = ((p2 k : Nat) : Int) := by
  have := p2_le hk
  rw [← cast_p2, IntWalk.wrap64_in _ (by omega)]
theorem shl_b (k : Nat) (hk : k ≤ 40) : wrap64 (2 ^ min k 64) = ((p2 k : Nat) : Int) := by
  rw [Nat.min_eq_left (by omega)]; exact shl_a k hk
theorem shl_c (k : Nat) (hk : k ≤ 40) : IntKind.i64.wrap (2 ^ min k 64) = ((p2 k : Nat) : Int) := by
  rw [Nat.min_eq_left (by omega), IntKind.wrap_i64, ← cast_p2]
  have := p2_le hk
  omega
theorem shl_d (k : Nat) (hk : k ≤ 40) : IntKind.i64.wrap (2 ^ min (IntKind.u64.wrap (k : Int)).toNat 64) = ((p2 k : Nat) : Int) := by
  have : (IntKind.u64.wrap (k : Int)).toNat = k := by rw [IntKind.wrap_u64]; omega
  rw [this]; exact shl_c k hk
theorem bor_p2 (s k : Nat) (hs : s < 1024) (hk : k ≤ 40) : bits .or .i64 (s : Int) ((p2 k : Nat) : Int) = ((insN s k : Nat) : Int) := by
  have := p2_le hk
  exact i64_or_nat s (p2 k) (by omega) (by omega)
theorem bxor_p2 (s k : Nat) (hs : s < 1024) (hk : k ≤ 40) : bits .xor .i64 (s : Int) ((p2 k : Nat) : Int) = ((xorN s k : Nat) : Int) := by
  have := p2_le hk
  exact i64_xor_nat s (p2 k) (by omega) (by omega)
theorem bhas_a (s k : Nat) (hs : s < 1024) : (bits .and .i64 ((s : Int) / 2 ^ k) 1 == 1) = hasB s k := has_and s k (by omega)
theorem bhas_b (s k : Nat) (hs : s < 1024) : (bits .and .i64 ((s : Int) / 2 ^ min k 64) 1 == 1) = hasB s k := by
  by_cases hk : k ≤ 64
  · rw [Nat.min_eq_left hk]; exact bhas_a s k hs
  · have e : hasB s k = hasB s 64 := by
      have h : ∀ j, 64 ≤ j → hasB s j = false := fun j hj => Nat.testBit_lt_two_pow (Nat.lt_of_lt_of_le (by omega : s < 2 ^ 10) (Nat.pow_le_pow_right (by omega) (by omega)))
      rw [h k (by omega), h 64 (by omega)]
    rw [Nat.min_eq_right (by omega), e]; exact bhas_a s 64 hs
theorem zero_one (s k : Nat) (hs : s < 1024) : bits .and .i64 ((s : Int) / 2 ^ k) 1 = if hasB s k then 1 else 0 := by
  have h := i64_and_nat (s / 2 ^ k) 1 (by have := Nat.div_le_self s (2 ^ k); omega) (by omega)
  have e : ((s : Int) / 2 ^ k) = ((s / 2 ^ k : Nat) : Int) := by norm_cast
  rw [e]
  refine h.trans ?_
  have h2 : hasB s k = decide (s / 2 ^ k % 2 = 1) := by unfold hasB; exact Nat.testBit_eq_decide_div_mod_eq
  rw [h2, Nat.and_one_is_mod]
  by_cases h3 : s / 2 ^ k % 2 = 1
  · simp [h3]
  · simp [h3]; omega
theorem bno_a (s k : Nat) (hs : s < 1024) : (bits .and .i64 ((s : Int) / 2 ^ k) 1 == 0) = !hasB s k := by
  rw [zero_one s k hs]; cases hasB s k <;> rfl
theorem bno_b (s k : Nat) (hs : s < 1024) : (bits .and .i64 ((s : Int) / 2 ^ min k 64) 1 == 0) = !hasB s k := by
  by_cases hk : k ≤ 64
  · rw [Nat.min_eq_left hk]; exact bno_a s k hs
  · have e : hasB s k = hasB s 64 := by
      have h : ∀ j, 64 ≤ j → hasB s j = false := fun j hj => Nat.testBit_lt_two_pow (Nat.lt_of_lt_of_le (by omega : s < 2 ^ 10) (Nat.pow_le_pow_right (by omega) (by omega)))
      rw [h k (by omega), h 64 (by omega)]
    rw [Nat.min_eq_right (by omega), e]; exact bno_a s 64 hs

/-- a without the elements of b. -/
def diffN (a b : Nat) : Nat := a ^^^ (a &&& b)
theorem band_n (a b : Nat) (ha : a < 1024) (hb : b < 1024) : bits .and .i64 (a : Int) (b : Int) = ((andN a b : Nat) : Int) := i64_and_nat a b (by omega) (by omega)
theorem bor_n (a b : Nat) (ha : a < 1024) (hb : b < 1024) : bits .or .i64 (a : Int) (b : Int) = ((orN a b : Nat) : Int) := i64_or_nat a b (by omega) (by omega)
theorem diffN_le (a b : Nat) : diffN a b ≤ a := by
  have h : diffN a b = a &&& (a ^^^ b) := by
    unfold diffN
    apply Nat.eq_of_testBit_eq; intro i
    simp only [Nat.testBit_xor, Nat.testBit_and]
    cases a.testBit i <;> cases b.testBit i <;> rfl
  rw [h]; exact Nat.and_le_left
theorem bdiff_n (a b : Nat) (ha : a < 1024) (hb : b < 1024) : bits .andNot .i64 (a : Int) (b : Int) = ((diffN a b : Nat) : Int) := by
  have hle := diffN_le a b
  show IntKind.i64.wrap ((BitVec.ofInt 64 (a : Int) &&& ~~~(BitVec.ofInt 64 (b : Int))).toNat : Int) = _
  have e : (BitVec.ofInt 64 (a : Int) &&& ~~~(BitVec.ofInt 64 (b : Int))).toNat = diffN a b := by
    apply Nat.eq_of_testBit_eq
    intro i
    rw [BitVec.testBit_toNat, BitVec.getLsbD_and, BitVec.getLsbD_not, ← BitVec.testBit_toNat, ← BitVec.testBit_toNat, ofInt_i64 a (by omega), ofInt_i64 b (by omega)]
    unfold diffN
    simp only [Nat.testBit_xor, Nat.testBit_and]
    by_cases hi : i < 64
    · simp only [hi, decide_true, Bool.true_and]
      cases a.testBit i <;> cases b.testBit i <;> rfl
    · have ha' : a.testBit i = false := Nat.testBit_lt_two_pow (Nat.lt_of_lt_of_le (by omega : a < 2 ^ 10) (Nat.pow_le_pow_right (by omega) (by omega)))
      simp [ha']
  rw [e, IntKind.wrap_i64]
  omega

attribute [go_sem] band_n bor_n bdiff_n
attribute [go_sem] shl_a shl_b shl_c shl_d bor_p2 bxor_p2 bhas_a bhas_b bno_a bno_b

theorem insN_lt {s k N : Nat} (hs : s < 2 ^ N) (hk : k < N) : insN s k < 2 ^ N := Nat.or_lt_two_pow hs (Nat.pow_lt_pow_right (by omega) hk)
theorem xorN_lt {s k N : Nat} (hs : s < 2 ^ N) (hk : k < N) : xorN s k < 2 ^ N := Nat.xor_lt_two_pow hs (Nat.pow_lt_pow_right (by omega) hk)

/-! Functions of sets. -/
/-- A function of E elements with the values v: is it valid? -/
def isFn (E : Int) (v : List Int) : Bool := inR E 0 5 && (decide ((v.length : Int) = ((p2 E.toNat : Nat) : Int)) && allIn v (-1000) 1000)
theorem isFn_true {E : Int} {v : List Int} (h : isFn E v = true) : ∃ N : Nat, E = (N : Int) ∧ N ≤ 5 ∧ v.length = 2 ^ N ∧ allIn v (-1000) 1000 = true := by
  simp only [isFn, Bool.and_eq_true, decide_eq_true_eq] at h
  obtain ⟨h1, h2, h3⟩ := h
  have := inR_true h1
  refine ⟨E.toNat, by omega, by omega, ?_, h3⟩
  unfold p2 at h2; omega
/-- What is known of a valid function with N elements and n values. -/
structure FnOk (N n : Nat) (v : List Int) : Prop where
  hN : N ≤ 5
  hn : n = 2 ^ N
  hl : v.length = n
  ha : allIn v (-1000) 1000 = true
theorem FnOk.of {E : Int} {w : World} {A : Option Addr} {n : Nat} {v : List Int} (hf : isFn E v = true) (hv : Ints w A n v) : ∃ N : Nat, E = (N : Int) ∧ FnOk N n v := by
  obtain ⟨N, rfl, hN, hl, ha⟩ := isFn_true hf
  exact ⟨N, rfl, hN, hv.len.symm.trans hl, hv.len, ha⟩
section
variable {N n : Nat} {v : List Int}
theorem FnOk.n0 (h : FnOk N n v) : 0 < n := by rw [h.hn]; exact Nat.two_pow_pos N
theorem FnOk.n32 (h : FnOk N n v) : n ≤ 32 := by rw [h.hn]; exact Nat.pow_le_pow_right (by omega) h.hN
theorem FnOk.ins (h : FnOk N n v) {s k : Nat} (hs : s < n) (hk : k < N) : insN s k < n := by rw [h.hn] at *; exact insN_lt hs hk
theorem FnOk.xor (h : FnOk N n v) {s k : Nat} (hs : s < n) (hk : k < N) : xorN s k < n := by rw [h.hn] at *; exact xorN_lt hs hk
theorem FnOk.p2 (h : FnOk N n v) {k : Nat} (hk : k < N) : p2 k < n := by rw [h.hn]; exact Nat.pow_lt_pow_right (by omega) hk
theorem FnOk.bd (h : FnOk N n v) {s : Nat} (hs : s < n) : -1000 ≤ gv v s ∧ gv v s ≤ 1000 := allIn_gv (by rw [h.hl]; exact hs) h.ha
end
/-- What an element adds to a set. -/
def gainN (v : List Int) (s k : Nat) : Int := gv v (insN s k) - gv v s
theorem FnOk.gain {N n : Nat} {v : List Int} (h : FnOk N n v) {s k : Nat} (hs : s < n) (hk : k < N) : -2000 ≤ gainN v s k ∧ gainN v s k ≤ 2000 := by
  have := h.bd hs
  have := h.bd (h.ins hs hk)
  unfold gainN; omega

/-- Where a function that came in by value lies in its own block, and all else is as it was. -/
def FB (w wr : World) (E : Int) (A : Option Addr) (n c : Nat) : Prop :=
  Below w.heap.size w wr ∧ w.heap.size < wr.heap.size ∧ wr.cell? ⟨w.heap.size, 0, none⟩ = some (.int .i64 E) ∧ wr.cell? ⟨w.heap.size, 1, none⟩ = some (.slice A n c)
theorem FB.parts {w wr : World} {E : Int} {A : Option Addr} {n c : Nat} (h : FB w wr E A n c) : Below w.heap.size w wr ∧ w.heap.size < wr.heap.size ∧ wr.cell? ⟨w.heap.size, 0, none⟩ = some (.int .i64 E) ∧ wr.cell? ⟨w.heap.size, 1, none⟩ = some (.slice A n c) := h
theorem FB.start (w : World) (E : Int) (A : Option Addr) (n c : Nat) : FB w (w.alloc (.cells #[.int .i64 E, .slice A n c] 27)) E A n c :=
  ⟨(Below.refl _ _).alloc (Nat.le_refl _) _, by simp, by rw [World.cell?_alloc_at _ _ _ _ rfl]; rfl, by rw [World.cell?_alloc_at _ _ _ _ rfl]; rfl⟩
theorem FB.step {w wr w2 : World} {E : Int} {A : Option Addr} {n c : Nat} (h : FB w wr E A n c) (hb : Below wr.heap.size wr w2) : FB w w2 E A n c :=
  ⟨h.1.trans (hb.mono h.1.size), Nat.lt_of_lt_of_le h.2.1 hb.size, (hb.cell (p := ⟨w.heap.size, 0, none⟩) h.2.1).trans h.2.2.1, (hb.cell (p := ⟨w.heap.size, 1, none⟩) h.2.1).trans h.2.2.2⟩
theorem FB.drewN {w wr : World} {E : Int} {A : Option Addr} {n c : Nat} (h : FB w wr E A n c) (k : Nat) : FB w (wr.drewN k) E A n c :=
  h.step (below_drewN (Below.refl _ _) k)
theorem FB.drew {w wr : World} {E : Int} {A : Option Addr} {n c : Nat} (h : FB w wr E A n c) : FB w wr.drew E A n c := ⟨h.1.drew, h.2⟩
theorem app_FB {w wr W w1 : World} {o : Obj} {E : Int} {A B : Option Addr} {n c r cr : Nat} {xs : List Int} (hFB : FB w wr E A n c) (hown : Own wr (w.heap.size + 1) B r cr xs) (hg : W.grownBy w1 (B.map (·.block))) (hW : Below wr.heap.size (wr.alloc o) W) (hh : W.heap = (wr.alloc o).heap) : FB w w1 E A n c := by
  have hb := app_below (hFB.1) hFB.1.size (hown.less (Nat.le_succ _)) hg hW
  have h1 : wr.heap.size ≤ w1.heap.size := Nat.le_trans (by rw [hh]; simp) hg.size
  exact ⟨hb, Nat.lt_of_lt_of_le hFB.2.1 h1, app_keep hown hg hh (by omega) hFB.2.1 hFB.2.2.1, app_keep hown hg hh (by omega) hFB.2.1 hFB.2.2.2⟩
theorem quiet_left {P : Program} {f : FuncId} {args : Array Value} {w : World} {n : Nat} {v : Value}
    (h : Calls P f args (w.drewN n) fun e w' => e = .returned v ∧ w.drewN n = w') : Calls P f args (w.drewN n) fun e w'' => e = .returned v ∧ ∃ m, w'' = w.drewN m :=
  h.mono fun _ _ ⟨he, hm⟩ => ⟨he, n, hm.symm⟩
end Go.Proofs.Ytfmibekefllhjaa
namespace Go.Proofs.Ytfmibekefllhjaa
open Go.RowKit

theorem within_any (x l h : Int) (w : World) : Calls Try.prog 66 #[.int .i64 x, .int .i64 l, .int .i64 h] w fun e w' => e = .returned (.bool (inR x l h)) ∧ w = w' := by
  unfold inR
  go_enter Try.func66, Try.ntmps66
  go_wp2
  all_goals go_ret
  all_goals exact ⟨by simp [*] <;> omega, rfl⟩
theorem l1In_any (x l h : Int) (w : World) : Calls Try.prog 42 #[.int .i64 x, .int .i64 l, .int .i64 h] w fun e w' => e = .returned (.bool (inR x l h)) ∧ w = w' := by
  unfold inR
  go_enter Try.func42, Try.ntmps42
  go_wp2
  all_goals go_ret
  all_goals exact ⟨by simp [*] <;> omega, rfl⟩
theorem areWithin_any (A : Option Addr) (n c : Nat) (v : List Int) (l h : Int) (w : World) (hv : Ints w A n v) :
    Calls Try.prog 67 #[.slice A n c, .int .i64 l, .int .i64 h] w fun e w' => e = .returned (.bool (allIn v l h)) ∧ w = w' := by
  have hle := hv.le
  have hlen := hide hv.len
  go_enter Try.func67, Try.ntmps67
  go_wp2
  go_loop [11] (fun i => ∃ k : Nat, k ≤ n ∧ i = .int .i64 k ∧ allIn (v.take k) l h = true) (fun i => n - (intOf i).toNat)
  case atStart => exact ⟨0, Nat.zero_le _, rfl, rfl⟩
  case round =>
    obtain ⟨k, hk, rfl, hall⟩ := hrel
    have Hall := hide hall; clear hall
    by_cases hlt : k < n
    · obtain ⟨b, off, rfl, hb, hc⟩ := hv.at_ hlt
      go_wp2_with (go_at_call 66; refine (within_any _ _ _ _).mono ?_; rintro e w' ⟨rfl, rfl⟩)
      · have hq : (!inR (gv v k) l h) = true := by assumption
        go_ret
        exact ⟨ret_bool (allIn_false (by rw [hlen.out]; exact hlt) (by simpa using hq)).symm, rfl⟩
      · have hq : (!inR (gv v k) l h) = false := by assumption
        exact ⟨⟨k + 1, by omega, by go_num, by rw [allIn_snoc (by rw [hlen.out]; exact hlt), Hall.out]; simpa using hq⟩, by simp [intOf]; omega⟩
    · go_wp2
      go_ret
      obtain rfl : k = n := by omega
      exact ⟨ret_bool (by rw [← Hall.out, List.take_of_length_le (by rw [hlen.out]; omega)]), rfl⟩
end Go.Proofs.Ytfmibekefllhjaa
namespace Go.Proofs.Ytfmibekefllhjaa
open Go.RowKit

end Go.Proofs.Ytfmibekefllhjaa
namespace Go.Proofs.Ytfmibekefllhjaa
open Go.RowKit

theorem isFunction_any (E : Int) (A : Option Addr) (n c : Nat) (v : List Int) (w : World) (hv : Ints w A n v) :
    Calls Try.prog 45 #[.agg #[.int .i64 E, .slice A n c]] w fun e w' => e = .returned (.bool (isFn E v)) ∧ Below w.heap.size w w' := by
  have hle := hv.le
  have hlen := hide hv.len
  cases hin : inR E 0 5
  · have e0 : isFn E v = false := by simp [isFn, hin]
    rw [e0]; clear e0
    go_enter Try.func45, Try.ntmps45
    go_wp2_with (go_at_call 66; refine (within_any _ _ _ _).mono ?_; rintro e w' ⟨rfl, rfl⟩)
    go_ret
    exact ⟨rfl, (Below.refl _ _).alloc (Nat.le_refl _) _⟩
  · obtain ⟨h0, h1⟩ := inR_true hin
    obtain ⟨N, rfl⟩ := Int.eq_ofNat_of_zero_le h0
    have hN : N ≤ 40 := by omega
    have e0 : isFn N v = (decide ((n : Int) = ((p2 N : Nat) : Int)) && allIn v (-1000) 1000) := by simp [isFn, hin, hlen.out]
    rw [e0]; clear e0
    go_enter Try.func45, Try.ntmps45
    go_wp2_with (first | (go_at_call 66; refine (within_any _ _ _ _).mono ?_; rintro e w' ⟨rfl, rfl⟩) | (go_at_call 67; refine (areWithin_any _ _ _ _ _ _ _ (hv.alloc _)).mono ?_; rintro e w' ⟨rfl, rfl⟩))
    all_goals go_ret
    all_goals exact ⟨ret_bool (by simp_all), (Below.refl _ _).alloc (Nat.le_refl _) _⟩
theorem specIsFunction_any (E : Int) (A : Option Addr) (n c : Nat) (v : List Int) (w : World) (hv : Ints w A n v) :
    Calls Try.prog 41 #[.agg #[.int .i64 E, .slice A n c]] w fun e w' => e = .returned (.bool (isFn E v)) ∧ Below w.heap.size w w' := by
  have hle := hv.le
  have hlen := hide hv.len
  cases hin : inR E 0 5
  · have e0 : isFn E v = false := by simp [isFn, hin]
    rw [e0]; clear e0
    go_enter Try.func41, Try.ntmps41
    go_wp2
    go_quiet ((go_at_call 42; exact quiet_left (l1In_any _ _ _ _)))
    go_wp2
    go_ret
    exact ⟨rfl, below_drewN ((Below.refl _ _).alloc (Nat.le_refl _) _) _⟩
  · obtain ⟨h0, h1⟩ := inR_true hin
    obtain ⟨N, rfl⟩ := Int.eq_ofNat_of_zero_le h0
    have hN : N ≤ 40 := by omega
    have e0 : isFn N v = (decide ((n : Int) = ((p2 N : Nat) : Int)) && allIn v (-1000) 1000) := by simp [isFn, hin, hlen.out]
    rw [e0]; clear e0
    by_cases hnp : (n : Int) = ((p2 N : Nat) : Int)
    · have e1 : ((n : Int) != ((p2 N : Nat) : Int)) = false := by simp [hnp]
      have HNP := hide hnp; clear hnp
      go_enter Try.func41, Try.ntmps41
      go_wp2
      go_quiet ((go_at_call 42; exact quiet_left (l1In_any _ _ _ _)))
      go_wp2
      clear e1
      simp only [hin, shl_a N hN]
      go_loop [3] (fun i => ∃ k : Nat, k ≤ n ∧ i = .int .i64 k ∧ allIn (v.take k) (-1000) 1000 = true) (fun i => n - (intOf i).toNat)
      case atStart => exact ⟨0, Nat.zero_le _, rfl, rfl⟩
      case round =>
        obtain ⟨k, hk, rfl, hall⟩ := hrel
        have Hall := hide hall; clear hall
        by_cases hlt : k < n
        · obtain ⟨b, off, rfl, hb, hc⟩ := hv.at_ hlt
          have j1 : w.heap.size ≠ b := by omega
          go_wp2_with (go_at_call 42; refine (l1In_any _ _ _ _).mono ?_; rintro e w' ⟨rfl, rfl⟩)
          · have hq : (!inR (gv v k) (-1000) 1000) = true := by assumption
            go_ret
            exact ⟨ret_bool (by simp [allIn_false (v := v) (by rw [hlen.out]; exact hlt) (by simpa using hq)]), below_drewN ((Below.refl _ _).alloc (Nat.le_refl _) _) _⟩
          · have hq : (!inR (gv v k) (-1000) 1000) = false := by assumption
            exact ⟨⟨k + 1, by omega, by go_num, by rw [allIn_snoc (by rw [hlen.out]; exact hlt), Hall.out]; simpa using hq⟩, by simp [intOf]; omega⟩
        · obtain rfl : k = n := by omega
          have hall : allIn v (-1000) 1000 = true := by rw [← Hall.out, List.take_of_length_le (by rw [hlen.out]; omega)]
          have hA := hide hall; clear hall
          go_wp2
          go_ret
          exact ⟨ret_bool (by simp [hA.out, HNP.out]), below_drewN ((Below.refl _ _).alloc (Nat.le_refl _) _) _⟩
    · have e1 : ((n : Int) != ((p2 N : Nat) : Int)) = true := by simp [hnp]
      have e2 : decide ((n : Int) = ((p2 N : Nat) : Int)) = false := by simp [hnp]
      rw [e2]; clear e2
      go_enter Try.func41, Try.ntmps41
      go_wp2
      go_quiet ((go_at_call 42; exact quiet_left (l1In_any _ _ _ _)))
      go_wp2
      go_ret
      exact ⟨rfl, below_drewN ((Below.refl _ _).alloc (Nat.le_refl _) _) _⟩
theorem gain_any (E : Int) (A : Option Addr) (n c : Nat) (v : List Int) (s k : Nat) (w : World) (hv : Ints w A n v) (hf : isFn E v = true) (hs : s < n) (hk : (k : Int) < E) :
    Calls Try.prog 73 #[.agg #[.int .i64 E, .slice A n c], .int .i64 s, .int .i64 k] w fun e w' => e = .returned (.int .i64 (gainN v s k)) ∧ Below w.heap.size w w' := by
  obtain ⟨N, rfl, fo⟩ := FnOk.of hf hv
  obtain ⟨b, off, rfl, hb, hc⟩ := hv.all_ fo.n0
  have hN := fo.hN
  have n32 := fo.n32
  have n0 := fo.n0
  have j1 : w.heap.size ≠ b := by omega
  clear hf
  have hi := fo.ins hs (k := k) (by omega)
  obtain ⟨q1, q2⟩ := fo.bd hs
  obtain ⟨q3, q4⟩ := fo.bd hi
  have hs' : s < 1024 := by omega
  have hk' : k ≤ 40 := by omega
  have i1 : (0 : Int) ≤ (s : Int) := by omega
  have i2 : (s : Int) < (n : Int) := by omega
  have i3 : (0 : Int) ≤ (insN s k : Int) := by omega
  have i4 : (insN s k : Int) < (n : Int) := by omega
  go_enter Try.func73, Try.ntmps73
  go_wp2
  go_quiet (fail)
  go_wp2
  go_ret
  exact ⟨rfl, below_drewN ((Below.refl _ _).alloc (Nat.le_refl _) _) _⟩
theorem isElement_any (n e : Int) (w : World) : Calls Try.prog 46 #[.int .i64 n, .int .i64 e] w fun r w' => r = .returned (.bool (inR e 0 (n - 1))) ∧ w = w' := by
  go_enter Try.func46, Try.ntmps46
  go_wp2
  all_goals go_ret
  all_goals exact ⟨ret_bool (by unfold inR; simp only [decide_eq_decide, decide_eq_false_iff_not, eq_comm (a := false)]; omega), rfl⟩
theorem l2Full_any (N : Nat) (w : World) (hN : N ≤ 40) : Calls Try.prog 43 #[.int .i64 N] w fun e w' => e = .returned (.int .i64 ((p2 N : Nat) - 1)) ∧ w = w' := by
  have := p2_le hN
  go_enter Try.func43, Try.ntmps43
  go_wp2
  go_ret
  exact ⟨rfl, rfl⟩
theorem allOf_any (N : Nat) (A : Option Addr) (n c : Nat) (w : World) (hN : N ≤ 40) : Calls Try.prog 48 #[.agg #[.int .i64 N, .slice A n c]] w fun e w' => e = .returned (.int .i64 ((p2 N : Nat) - 1)) ∧ Below w.heap.size w w' := by
  have := p2_le hN
  go_enter Try.func48, Try.ntmps48
  go_wp2
  go_ret
  exact ⟨rfl, (Below.refl _ _).alloc (Nat.le_refl _) _⟩
end Go.Proofs.Ytfmibekefllhjaa
namespace Go.Proofs.Ytfmibekefllhjaa
open Go.RowKit

theorem own_cap {w : World} {B n c : Nat} {A : Option Addr} {xs : List Int} (h : Own w B A n c xs) : n ≤ c := by
  rcases h.2 with ⟨hv, h0⟩ | ⟨g, cap, cur, hv, _, _, hnc, _⟩
  · injection hv with _ h2 h3; omega
  · injection hv with _ h2 h3; omega
theorem run_apps (ty : TypeId) (B : Nat) (A : Option Addr) (n c : Nat) (xs : List Int) (X : Option Addr) (m cx : Nat) (ys : List Int) (w : World) (hown : Own w B A n c xs) (hy : Ints w X m ys)
    (hn : n ≤ 1048576) (hm : m ≤ 1048576) (hB : B ≤ w.heap.size) :
    ∃ A' c' w', (Builtin.append_ #[22, 22] ty #[.slice A n c, .slice X m cx]).run Try.prog w = .ok (.slice A' (n + m) c') w' ∧ Own w' B A' (n + m) c' (xs ++ ys) ∧ w.grownBy w' (A.map (·.block)) ∧ (A' = A ∨ A' = some ⟨w.heap.size, 0, none⟩) := by
  obtain ⟨i0, hi0, hz0, hz1, hz2⟩ := info_parts int_info
  have hyl := hy.len
  by_cases h0 : m = 0
  · subst h0
    have e : ys = [] := List.length_eq_zero_iff.1 hyl
    subst e
    refine ⟨A, c, w, ?_, by simpa using hown, World.grownBy.refl _ _, .inl rfl⟩
    have hle := own_cap hown
    have hu := Try.underlying22
    cases A <;> cases X <;> simp [Builtin.append_, run_underlying hu, sizeOf, typeInfo, hi0, Builtin.lenOf, hle, Builtin.firstCells, loadCells, loadCellsFrom, storeCells]
  · obtain ⟨b, off, rfl, hb, hc⟩ := hy.all_ (by omega)
    obtain ⟨v', w', hr, h2, h3, _, h5⟩ := run_append_own_at (P := Try.prog) w B 22 ty 3 i0 _ 1 8 Try.underlying22 hi0 hz0 hz1 hz2 rfl (by omega) (.slice A n c) n (xs.map (Value.int .i64)) hown ⟨b, off, none⟩ m cx (ys.map (Value.int .i64))
      (by simp [hyl]) (fun j u hu => by
        have hj : j < ys.length := by
          rw [List.getElem?_eq_some_iff] at hu
          obtain ⟨h1, _⟩ := hu
          simpa using h1
        rw [List.getElem?_map, List.getElem?_eq_getElem hj] at hu
        simp at hu
        subst hu
        have h1 := hc j (by omega)
        rw [gv_get hj] at h1
        have hadd : (⟨b, off, none⟩ : Addr).add j = ⟨b, off + j, none⟩ := by unfold Addr.add; split <;> simp_all
        rw [hadd]
        exact h1) (by simp [Value.oneCell']) (by simp only [maxLen]; omega) (by omega) hB
    rw [← List.map_append] at h2
    have hsh : ∃ g cap, v' = .slice (some ⟨g, 0, none⟩) (n + m) cap := by
      rcases h2.2 with ⟨_, hz⟩ | ⟨g, cap, cur, hv, _⟩
      · omega
      · exact ⟨g, cap, hv⟩
    obtain ⟨g, cap, rfl⟩ := hsh
    refine ⟨_, cap, w', hr, h2, by rw [← own_block A n c]; exact h3, ?_⟩
    rcases h5 with h5 | h5
    · left
      rcases Own.where_ hown with e | ⟨g', e, _, _⟩
      · subst e; simp [Value.ownBlock] at h5
      · subst e; simp [Value.ownBlock] at h5; subst h5; rfl
    · right
      simp [Value.ownBlock] at h5
      rw [h5]
section
variable {w : World}
theorem wp_apps {o : Oper} {a : Act} {K : Act → World → Prop} {Q : Exit → Act → World → Prop} (s x : Operand)
    (ho : o.op = .call { callee := .builtin .append, args := #[s, x], argTypes := #[22, 22] })
    (B : Nat) (A : Option Addr) (n c : Nat) (xs : List Int) (X : Option Addr) (m cx : Nat) (ys : List Int) (hs : a.eval s = .slice A n c) (hx : a.eval x = .slice X m cx)
    (hown : Own w B A n c xs) (hy : Ints w X m ys) (hn : n ≤ 1048576) (hm : m ≤ 1048576) (hB : B ≤ w.heap.size)
    (h : ∀ A' c' w', Own w' B A' (n + m) c' (xs ++ ys) → w.grownBy w' (A.map (·.block)) → (A' = A ∨ A' = some ⟨w.heap.size, 0, none⟩) → K (a.put o.dst (.slice A' (n + m) c')) w') : o.wp Try.prog a w K Q := by
  obtain ⟨A', c', w', hr, h2, h3, h4⟩ := run_apps o.type B A n c xs X m cx ys w hown hy hn hm hB
  unfold Oper.wp execOp
  simp only [ho, resolve, invoke, builtin, Sem.run_bind, Sem.run_pure, Result.andThen_ok, List.map_toArray, List.map_cons, List.map_nil, hs, hx, hr]
  exact h A' c' w' h2 h3 h4
theorem wpl_apps {ops : Array Oper} {rest : List Oper} {o : Oper} {a : Act} {Q : Exit → Act → World → Prop} (hgd : o.guard = none) (s x : Operand)
    (ho : o.op = .call { callee := .builtin .append, args := #[s, x], argTypes := #[22, 22] })
    (B : Nat) (A : Option Addr) (n c : Nat) (xs : List Int) (X : Option Addr) (m cx : Nat) (ys : List Int) (hs : a.eval s = .slice A n c) (hx : a.eval x = .slice X m cx)
    (hown : Own w B A n c xs) (hy : Ints w X m ys) (hn : n ≤ 1048576) (hm : m ≤ 1048576) (hB : B ≤ w.heap.size)
    (h : ∀ A' c' w', Own w' B A' (n + m) c' (xs ++ ys) → w.grownBy w' (A.map (·.block)) → (A' = A ∨ A' = some ⟨w.heap.size, 0, none⟩) → wpList Try.prog ops Q rest (a.put o.dst (.slice A' (n + m) c')) w') : wpList Try.prog ops Q (o :: rest) a w :=
  wpList_plain hgd fun _ hK => wp_apps s x ho B A n c xs X m cx ys hs hx hown hy hn hm hB fun A' c' w' h2 h3 h4 => hK _ _ (h A' c' w' h2 h3 h4)
theorem step_apps {ops : Array Oper} {o : Oper} {a : Act} {K : Act → World → Prop} {Q : Exit → Act → World → Prop} {E : Prop} (hgd : o.guard = none) (s x : Operand)
    (ho : o.op = .call { callee := .builtin .append, args := #[s, x], argTypes := #[22, 22] })
    (B : Nat) (A : Option Addr) (n c : Nat) (xs : List Int) (X : Option Addr) (m cx : Nat) (ys : List Int) (hs : a.eval s = .slice A n c) (hx : a.eval x = .slice X m cx)
    (hown : Own w B A n c xs) (hy : Ints w X m ys) (hn : n ≤ 1048576) (hm : m ≤ 1048576) (hB : B ≤ w.heap.size)
    (h : ∀ A' c' w', Own w' B A' (n + m) c' (xs ++ ys) → w.grownBy w' (A.map (·.block)) → (A' = A ∨ A' = some ⟨w.heap.size, 0, none⟩) → K (a.put o.dst (.slice A' (n + m) c')) w') :
    if Region.wanted o (yielded ops a.tmps) = true then Oper.wp Try.prog o a w K Q else E := by
  have hw : Region.wanted o (yielded ops a.tmps) = true := by simp [Region.wanted, hgd]
  rw [if_pos hw]
  exact wp_apps s x ho B A n c xs X m cx ys hs hx hown hy hn hm hB h
end
theorem own_zero (w : World) {B : Nat} (hB : B ≤ w.heap.size) : Own (w.alloc (.cells #[] 3)) B (some ⟨w.heap.size, 0, none⟩) 0 0 [] := (own_none w).less hB
end Go.Proofs.Ytfmibekefllhjaa
