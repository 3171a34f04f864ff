/-
  Words on memory for this seat's walks: a slice value that reads as a list of ints ('Ints'), and what keeps it. No program is named here.
-/
import Derived.Test.YtokeejachclpeaaPlain
import Derived.Test.YtokeejachclpeaaProg
import Derived.Deep.OwnRows
import Derived.WalkKit
import Derived.WalkLawsBesides
import Derived.WalkSpells
import Derived.Deep.QuietTactic
import Derived.BigQuiet
import Derived.Deep.RegionHeld3
import Derived.Deep.AppendLies
import Derived.Laws.BitsAllLaws
import Derived.Laws.BitsLemmas
namespace Go.Proofs.Ytokeejachclpeaa
open Go.RowKit

theorem hide {p : Prop} (h : p) : Hid p := h
theorem unhide {p : Prop} (h : Hid p) : p := h

/-- The slice '.slice A n c' reads as the numbers xs in the world w. -/
def Ints (w : World) (A : Option Addr) (n : Nat) (xs : List Int) : Prop :=
  xs.length = n ∧ n ≤ 9223372036854775807 ∧ (0 < n → ∃ b off, A = some ⟨b, off, none⟩ ∧ ∀ j, j < n → w.cell? ⟨b, off + j, none⟩ = some (.int .i64 (gv xs j)))

section
variable {w w' : World} {A : Option Addr} {n : Nat} {xs : List Int}
theorem Ints.len (h : Ints w A n xs) : xs.length = n := h.1
theorem Ints.le (h : Ints w A n xs) : n ≤ 9223372036854775807 := h.2.1
theorem Ints.at_ (h : Ints w A n xs) {k : Nat} (hk : k < n) : ∃ b off, A = some ⟨b, off, none⟩ ∧ b < w.heap.size ∧ w.cell? ⟨b, off + k, none⟩ = some (.int .i64 (gv xs k)) := by
  obtain ⟨b, off, rfl, hc⟩ := h.2.2 (by omega)
  exact ⟨b, off, rfl, World.block_lt_of_cell? _ _ (hc k hk), hc k hk⟩
theorem Ints.all_ (h : Ints w A n xs) (hn : 0 < n) : ∃ b off, A = some ⟨b, off, none⟩ ∧ b < w.heap.size ∧ ∀ j, j < n → w.cell? ⟨b, off + j, none⟩ = some (.int .i64 (gv xs j)) := by
  obtain ⟨b, off, rfl, hc⟩ := h.2.2 hn
  exact ⟨b, off, rfl, World.block_lt_of_cell? _ _ (hc 0 hn), hc⟩
theorem Ints.nil_ (w : World) (A : Option Addr) : Ints w A 0 [] := ⟨rfl, by omega, fun h => absurd h (by omega)⟩
theorem Ints.keep (h : Ints w A n xs) (hk : ∀ p : Addr, p.block < w.heap.size → w'.cell? p = w.cell? p) : Ints w' A n xs :=
  ⟨h.1, h.2.1, fun hn => by
    obtain ⟨b, off, rfl, hb, hc⟩ := h.all_ hn
    exact ⟨b, off, rfl, fun j hj => (hk _ hb).trans (hc j hj)⟩⟩
theorem Ints.below (h : Ints w A n xs) {B : Nat} (hb : Below B w w') (hB : w.heap.size ≤ B) : Ints w' A n xs := h.keep fun _ hp => hb.cell (Nat.lt_of_lt_of_le hp hB)
theorem Ints.drew (h : Ints w A n xs) : Ints w.drew A n xs := h
theorem Ints.alloc (h : Ints w A n xs) (o : Obj) : Ints (w.alloc o) A n xs := h.keep fun p hp => World.cell?_alloc_lt w o p hp
theorem Ints.of_own {base e c : Nat} (h : w.ownsRow base e 1 (.slice A n c) n (xs.map (Value.int .i64))) : Ints w A n xs := by
  have hl : xs.length = n := by simpa using h.1
  rcases h.2 with ⟨hv, h0⟩ | ⟨g, cap, cur, hv, _, hg, hnc, hcm, _⟩
  · exact ⟨hl, by omega, fun hn => absurd hn (by omega)⟩
  · injection hv with h1 h2 h3
    subst h1; subst h3
    refine ⟨hl, by simp only [maxLen] at hcm; omega, fun hn => ⟨g, 0, rfl, fun j hj => ?_⟩⟩
    have hu : (xs.map (Value.int .i64))[j]? = some (.int .i64 (gv xs j)) := by simp [gv_get (show j < xs.length by omega), List.getElem?_eq_getElem (show j < xs.length by omega)]
    have hadd : (⟨g, 0, none⟩ : Addr).add j = ⟨g, 0 + j, none⟩ := by unfold Addr.add; split <;> simp_all
    rw [← hadd]
    exact h.cells (g := g) rfl j _ hu
end

theorem ret_bool {a b : Bool} (h : a = b) : Ending.returned (.bool a) = .returned (.bool b) := by rw [h]
theorem ret_int {k : IntKind} {a b : Int} (h : a = b) : Ending.returned (.int k a) = .returned (.int k b) := by rw [h]

/-- Behind a call that made blocks: every old cell and mark reads as before (two rules for the walk). -/
theorem bcell {W w1 : World} (hb : Below W.heap.size W w1) : (∀ b o, b < W.heap.size → w1.cell? ⟨b, o, none⟩ = W.cell? ⟨b, o, none⟩) ∧ (∀ b o, b < W.heap.size → w1.frozen? ⟨b, o, none⟩ = W.frozen? ⟨b, o, none⟩) :=
  ⟨fun b o h => hb.cell (p := ⟨b, o, none⟩) h, fun b o h => hb.frozen (p := ⟨b, o, none⟩) h⟩

/-! Bits of ints that are sets. -/
theorem ofInt_i64 (a : Nat) (ha : a < 9223372036854775808) : (BitVec.ofInt 64 (a : Int)).toNat = a := by
  rw [BitVec.ofInt_natCast, BitVec.toNat_ofNat]; exact Nat.mod_eq_of_lt (by omega)
theorem i64_and_nat (a b : Nat) (ha : a < 9223372036854775808) (hb : b < 9223372036854775808) : bits .and .i64 (a : Int) (b : Int) = ((a &&& b : Nat) : Int) := by
  have hx : a &&& b < 2 ^ 63 := Nat.and_lt_two_pow _ (by omega)
  show IntKind.i64.wrap ((BitVec.ofInt 64 (a : Int) &&& BitVec.ofInt 64 (b : Int)).toNat : Int) = _
  rw [BitVec.toNat_and, ofInt_i64 a ha, ofInt_i64 b hb, IntKind.wrap_i64]
  omega
theorem i64_or_nat (a b : Nat) (ha : a < 9223372036854775808) (hb : b < 9223372036854775808) : bits .or .i64 (a : Int) (b : Int) = ((a ||| b : Nat) : Int) := by
  have hx : a ||| b < 2 ^ 63 := Nat.or_lt_two_pow (by omega) (by omega)
  show IntKind.i64.wrap ((BitVec.ofInt 64 (a : Int) ||| BitVec.ofInt 64 (b : Int)).toNat : Int) = _
  rw [BitVec.toNat_or, ofInt_i64 a ha, ofInt_i64 b hb, IntKind.wrap_i64]
  omega
theorem i64_xor_nat (a b : Nat) (ha : a < 9223372036854775808) (hb : b < 9223372036854775808) : bits .xor .i64 (a : Int) (b : Int) = ((a ^^^ b : Nat) : Int) := by
  have hx : a ^^^ b < 2 ^ 63 := Nat.xor_lt_two_pow (by omega) (by omega)
  show IntKind.i64.wrap ((BitVec.ofInt 64 (a : Int) ^^^ BitVec.ofInt 64 (b : Int)).toNat : Int) = _
  rw [BitVec.toNat_xor, ofInt_i64 a ha, ofInt_i64 b hb, IntKind.wrap_i64]
  omega
theorem has_and (s k : Nat) (hs : s < 9223372036854775808) : (bits .and .i64 ((s : Int) / 2 ^ k) 1 == 1) = hasB s k := by
  have e : ((s : Int) / 2 ^ k) = ((s / 2 ^ k : Nat) : Int) := by norm_cast
  have h1 : s / 2 ^ k ≤ s := Nat.div_le_self _ _
  have := i64_and_nat (s / 2 ^ k) 1 (by omega) (by omega)
  rw [e]
  have e1 : (1 : Int) = ((1 : Nat) : Int) := rfl
  rw [e1, this]
  have h2 : hasB s k = decide (s / 2 ^ k % 2 = 1) := by unfold hasB; exact Nat.testBit_eq_decide_div_mod_eq
  rw [h2, Nat.and_one_is_mod]
  rw [Bool.eq_iff_iff]; simp; omega

/-! A row of ints of the call's own: '.slice A n c' (nil too) lies in a block from B on and holds xs. -/
def Own (w : World) (B : Nat) (A : Option Addr) (n c : Nat) (xs : List Int) : Prop := w.ownsRow B 3 1 (.slice A n c) n (xs.map (Value.int .i64))

section
variable {w w' : World} {B n c : Nat} {A : Option Addr} {xs : List Int}
theorem Own.ints (h : Own w B A n c xs) : Ints w A n xs := Ints.of_own h
theorem Own.len (h : Own w B A n c xs) : xs.length = n := by simpa using h.1
theorem Own.form (h : Own w B A n c xs) (hn : 0 < n) : ∃ g, A = some ⟨g, 0, none⟩ ∧ B ≤ g ∧ g < w.heap.size := by
  rcases h.2 with ⟨_, h0⟩ | ⟨g, cap, cur, hv, hb, hg, _⟩
  · omega
  · injection hv with h1 h2 h3
    exact ⟨g, h1, hb, (Array.getElem?_eq_some_iff.1 hg).1⟩
/-- Where the row lies, if it is not nil. -/
theorem Own.where_ (h : Own w B A n c xs) : A = none ∨ ∃ g, A = some ⟨g, 0, none⟩ ∧ B ≤ g ∧ g < w.heap.size := by
  rcases h.2 with ⟨hv, _⟩ | ⟨g, cap, cur, hv, hb, hg, _⟩
  · injection hv with h1 _ _; exact .inl h1
  · injection hv with h1 h2 h3
    exact .inr ⟨g, h1, hb, (Array.getElem?_eq_some_iff.1 hg).1⟩
theorem Own.cell {g : Nat} (h : Own w B (some ⟨g, 0, none⟩) n c xs) {k : Nat} (hk : k < n) : w.cell? ⟨g, k, none⟩ = some (.int .i64 (gv xs k)) := by
  rw [World.ownsRow.cellAt h k (by omega)]
  have hl := h.len
  simp [gv_get (show k < xs.length by omega), List.getElem?_eq_getElem (show k < xs.length by omega)]
theorem Own.frozen {g : Nat} (h : Own w B (some ⟨g, 0, none⟩) n c xs) (k : Nat) : w.frozen? ⟨g, k, none⟩ = false := World.ownsRow.frozenAt h k
theorem Own.set_ {g : Nat} (h : Own w B (some ⟨g, 0, none⟩) n c xs) (k : Nat) (u : Int) : Own (w.setCell ⟨g, k, none⟩ (.int .i64 u)) B (some ⟨g, 0, none⟩) n c (xs.set k u) := by
  have h1 := (World.ownsRow.stored h k (.int .i64 u)).1
  unfold Own
  rw [List.map_set]
  exact h1
theorem Own.alloc (h : Own w B A n c xs) (o : Obj) : Own (w.alloc o) B A n c xs := World.ownsRow.alloc h o
theorem Own.less {B' : Nat} (h : Own w B A n c xs) (hB : B' ≤ B) : Own w B' A n c xs := by
  refine ⟨h.1, ?_⟩
  rcases h.2 with h2 | ⟨g, cap, cur, hv, hg, r⟩
  · exact Or.inl h2
  · exact Or.inr ⟨g, cap, cur, hv, Nat.le_trans hB hg, r⟩
/-- Kept where its block reads as it did. -/
theorem Own.keep (h : Own w B A n c xs) (hk : ∀ g, g < w.heap.size → A = some ⟨g, 0, none⟩ → w'.heap[g]? = w.heap[g]?) : Own w' B A n c xs := by
  refine ⟨h.1, ?_⟩
  rcases h.2 with h2 | ⟨g, cap, cur, hv, hg, hh, r⟩
  · exact Or.inl h2
  · refine Or.inr ⟨g, cap, cur, hv, hg, ?_, r⟩
    rw [hk g (Array.getElem?_eq_some_iff.1 hh).1 (by injection hv)]
    exact hh
theorem Own.below (h : Own w B A n c xs) {B' : Nat} (hb : Below B' w w') (hB : w.heap.size ≤ B') : Own w' B A n c xs :=
  h.keep fun g hg _ => hb.block g (Nat.lt_of_lt_of_le hg hB)
theorem Own.far {p : Addr} (h : Own w B A n c xs) (hp : ∀ g, A = some ⟨g, 0, none⟩ → g ≠ p.block) (u : Value) : Own (w.setCell p u) B A n c xs :=
  h.keep fun g _ ha => Below.heap_setCell _ _ _ _ (hp g ha)
theorem cell_new (w : World) (y : Int) : (w.alloc (.cells #[.int .i64 y] 3)).cell? ⟨w.heap.size, 0, none⟩ = some (.int .i64 y) := by rw [World.cell?_alloc_at _ _ _ _ rfl]; rfl
theorem own_none (w : World) : Own (w.alloc (.cells #[] 3)) w.heap.size (some ⟨w.heap.size, 0, none⟩) 0 0 [] :=
  World.ownsRow_made (base := w.heap.size) (e := 3) (size := 1) w #[] 0 (Nat.le_refl _) (by simp [maxLen]) rfl
theorem own_nil (w : World) (B : Nat) : Own w B none 0 0 [] := World.ownsRow_nil w B _ _
end

theorem int_info : (Try.prog.info? 3).map (fun i => (i.zero, i.size, i.bytes)) = some (some (.int .i64 0), 1, 8) := by kernel_rfl
theorem make_ints (n : Nat) (hn : n ≤ 1048576) (w : World) :
    (Instr.makeSlice 24 (.int .i64 (n : Int)) (.int .i64 (n : Int))).run Try.prog w = .ok (.slice (some ⟨w.heap.size, 0, none⟩) n n) (w.alloc (.cells (madeCells #[.int .i64 0] n) 3)) :=
  Go.run_make_row' 24 3 (.int .i64 0) 8 Try.underlying24 int_info rfl .i64 .i64 n (by omega) (by omega) w
theorem own_made (n : Nat) (hn : n ≤ 1048576) (w : World) {B : Nat} (hB : B ≤ w.heap.size) : Own (w.alloc (.cells (madeCells #[.int .i64 0] n) 3)) B (some ⟨w.heap.size, 0, none⟩) n n (List.replicate n 0) := by
  have h := World.ownsRow_lit (e := 3) (size := 1) w (madeCells #[.int .i64 0] n) n hB (by simp only [maxLen]; omega) (by simp [size_madeCells])
  rw [toList_madeCells_one] at h
  unfold Own
  rw [List.map_replicate]
  exact h

/-! append of one int to a row of the call's own -/
section
variable {w : World}
theorem app_side {H : Nat} {y : Int} (hcell : w.cell? ⟨H, 0, none⟩ = some (.int .i64 y)) :
    ∀ j u, ([Value.int .i64 y])[j]? = some u → w.cell? ((⟨H, 0, none⟩ : Addr).add j) = some u := by
  intro j u hu
  cases j with
  | zero => simp at hu; subst hu; simpa [Addr.add] using hcell
  | succ j => simp at hu
theorem own_block (A : Option Addr) (n c : Nat) : (Value.slice A n c).ownBlock = A.map (·.block) := by cases A <;> rfl
theorem step_app {ops : Array Oper} {o : Oper} {a : Act} {K : Act → World → Prop} {Q : Exit → Act → World → Prop} {E : Prop} (hgd : o.guard = none) (s x : Operand)
    (ho : o.op = .call { callee := .builtin .append, args := #[s, x], argTypes := #[24, 24] })
    (B : Nat) (A : Option Addr) (n c H : Nat) (xs : List Int) (y : Int) (hs : a.eval s = .slice A n c) (hx : a.eval x = .slice (some ⟨H, 0, none⟩) 1 1)
    (hown : Own w B A n c xs) (hcell : w.cell? ⟨H, 0, none⟩ = some (.int .i64 y)) (hn : n ≤ 1099511627776) (hB : B ≤ w.heap.size)
    (h : ∀ g cap w', Own w' B (some ⟨g, 0, none⟩) (n + 1) cap (xs ++ [y]) → w.grownBy w' (A.map (·.block)) → (A = some ⟨g, 0, none⟩ ∨ g = w.heap.size) → g < w'.heap.size → K (a.put o.dst (.slice (some ⟨g, 0, none⟩) (n + 1) cap)) w') :
    if Region.wanted o (yielded ops a.tmps) = true then Oper.wp Try.prog o a w K Q else E := by
  obtain ⟨i0, hi0, hz0, hz1, hz2⟩ := info_parts int_info
  refine step_append_lies _ hgd s x _ ho B 3 i0 _ 1 8 Try.underlying24 hi0 hz0 hz1 hz2 rfl (by omega) (.slice A n c) n (xs.map (Value.int .i64)) hs hown ⟨H, 0, none⟩ 1 1 [.int .i64 y] hx rfl (app_side hcell) (by simp [Value.oneCell'])
    (by omega) (by simp only [maxLen]; omega) (by omega) hB w.heap.size rfl ?_
  intro g cap w' ho hg hb hlt
  refine h g cap w' (by unfold Own; rw [List.map_append]; exact ho) (by rw [← own_block A n c]; exact hg) ?_ hlt
  rcases hb with hb | hb
  · rcases hown.where_ with e | ⟨g', e, _, _⟩
    · subst e; simp [Value.ownBlock] at hb
    · subst e; simp [Value.ownBlock] at hb; subst hb; exact .inl rfl
  · exact .inr hb
theorem wpl_app {ops : Array Oper} {rest : List Oper} {o : Oper} {a : Act} {Q : Exit → Act → World → Prop} (hgd : o.guard = none) (s x : Operand)
    (ho : o.op = .call { callee := .builtin .append, args := #[s, x], argTypes := #[24, 24] })
    (B : Nat) (A : Option Addr) (n c H : Nat) (xs : List Int) (y : Int) (hs : a.eval s = .slice A n c) (hx : a.eval x = .slice (some ⟨H, 0, none⟩) 1 1)
    (hown : Own w B A n c xs) (hcell : w.cell? ⟨H, 0, none⟩ = some (.int .i64 y)) (hn : n ≤ 1099511627776) (hB : B ≤ w.heap.size)
    (h : ∀ g cap w', Own w' B (some ⟨g, 0, none⟩) (n + 1) cap (xs ++ [y]) → w.grownBy w' (A.map (·.block)) → (A = some ⟨g, 0, none⟩ ∨ g = w.heap.size) → g < w'.heap.size → wpList Try.prog ops Q rest (a.put o.dst (.slice (some ⟨g, 0, none⟩) (n + 1) cap)) w') : wpList Try.prog ops Q (o :: rest) a w := by
  obtain ⟨i0, hi0, hz0, hz1, hz2⟩ := info_parts int_info
  refine wpList_append_lies _ hgd s x _ ho B 3 i0 _ 1 8 Try.underlying24 hi0 hz0 hz1 hz2 rfl (by omega) (.slice A n c) n (xs.map (Value.int .i64)) hs hown ⟨H, 0, none⟩ 1 1 [.int .i64 y] hx rfl (app_side hcell) (by simp [Value.oneCell'])
    (by omega) (by simp only [maxLen]; omega) (by omega) hB w.heap.size rfl ?_
  intro g cap w' ho hg hb hlt
  refine h g cap w' (by unfold Own; rw [List.map_append]; exact ho) (by rw [← own_block A n c]; exact hg) ?_ hlt
  rcases hb with hb | hb
  · rcases hown.where_ with e | ⟨g', e, _, _⟩
    · subst e; simp [Value.ownBlock] at hb
    · subst e; simp [Value.ownBlock] at hb; subst hb; exact .inl rfl
  · exact .inr hb
end

/-- Behind an append to a row of the call's own: an old cell, a box, another row. -/
theorem app_keep {wr W w1 : World} {o : Obj} {B n c : Nat} {A : Option Addr} {xs : List Int} {b off : Nat} {x : Value} (hown : Own wr B A n c xs) (hg : W.grownBy w1 (A.map (·.block))) (hW : W.heap = (wr.alloc o).heap)
    (hp : b < B) (hpw : b < wr.heap.size) (hc : wr.cell? ⟨b, off, none⟩ = some x) : w1.cell? ⟨b, off, none⟩ = some x := by
  have h1 : w1.heap[b]? = wr.heap[b]? := by
    rw [hg.block b (by rw [hW]; simp; omega) (fun he => by
      rcases hown.where_ with e | ⟨g, e, h1, _⟩
      · subst e; cases he
      · subst e; simp at he; omega), hW]
    exact Below.heap_alloc wr o b hpw
  rw [World.cell?_of_block (w := wr) h1]; exact hc
theorem app_below {w0 wr W w1 : World} {o : Obj} {B n c : Nat} {A : Option Addr} {xs : List Int} (hb : Below B w0 wr) (hB : B ≤ wr.heap.size) (hown : Own wr B A n c xs) (hg : W.grownBy w1 (A.map (·.block))) (hW : Below wr.heap.size (wr.alloc o) W) : Below B w0 w1 :=
  ((hb.alloc hB o).trans (hW.mono hB)).grown hg (Nat.le_trans (Nat.le_trans hB (by simp)) hW.size) (fun k hk => by
    rcases hown.where_ with e | ⟨g, e, h1, _⟩
    · subst e; cases hk
    · subst e; simp at hk; omega)
/-- The least of two, as the walk has it. -/
def mn (a b : Int) : Int := if b < a then b else a
def mx (a b : Int) : Int := if a < b then b else a
theorem take_set_snoc {zs P : List Int} {k : Nat} {u : Int} (hk : k < zs.length) (h : zs.take k = P) : (zs.set k u).take (k + 1) = P ++ [u] := by
  have h2 : k < (zs.set k u).length := by simpa using hk
  rw [take_gv h2, gv_get h2, List.take_set, List.set_eq_of_length_le (by simp; omega), h]
  simp
end Go.Proofs.Ytokeejachclpeaa
