/-
  Walks: the drawing of numbers from a code: a byte, a number below a bound. (What is drawn is left open; that it is drawn, and within which bounds, is told.)
-/
import Derived.Test.YtokeejachclpeaaBits
import Derived.OneCell
namespace Go.Proofs.Ytokeejachclpeaa
open Go.RowKit

/-- The bytes of a slice can be read. -/
def Byts (w : World) (A : Option Addr) (n : Nat) : Prop :=
  n ≤ 9223372036854775807 ∧ (0 < n → ∃ b off, A = some ⟨b, off, none⟩ ∧ ∀ j, j < n → ∃ x : Nat, x < 256 ∧ w.cell? ⟨b, off + j, none⟩ = some (.int .u8 (x : Int)))
/-- The cursor over a code: the code, a place in it, a state. -/
def Cur (w : World) (bc : Nat) (A : Option Addr) (n c : Nat) : Prop :=
  ∃ (i : Nat) (h : Int), i ≤ n ∧ w.heap[bc]? = some (.cells #[.slice A n c, .int .i64 (i : Int), .int .i64 h] 121 (0, 0))
/-- The code's bytes lie outside of a block. -/
def Apart (A : Option Addr) (n bc : Nat) : Prop := 0 < n → ∀ b off, A = some ⟨b, off, none⟩ → b ≠ bc
theorem and255 (X : Int) : ∃ x : Nat, x < 256 ∧ bits .and .i64 X 255 = (x : Int) := by
  refine ⟨(BitVec.ofInt 64 X &&& BitVec.ofInt 64 255).toNat, ?_, ?_⟩
  · have h : (BitVec.ofInt 64 X &&& BitVec.ofInt 64 255).toNat ≤ (BitVec.ofInt 64 255).toNat := by rw [BitVec.toNat_and]; exact Nat.and_le_right
    have h2 : (BitVec.ofInt 64 255).toNat = 255 := by decide
    omega
  · have h : (BitVec.ofInt 64 X &&& BitVec.ofInt 64 255).toNat ≤ (BitVec.ofInt 64 255).toNat := by rw [BitVec.toNat_and]; exact Nat.and_le_right
    have h2 : (BitVec.ofInt 64 255).toNat = 255 := by decide
    show IntKind.i64.wrap ((BitVec.ofInt 64 X &&& BitVec.ofInt 64 255).toNat : Int) = _
    rw [IntKind.wrap_i64]
    omega
section
variable {w : World} {bc n c i : Nat} {A : Option Addr} {h : Int}
theorem cur_cell0 (hb : w.heap[bc]? = some (.cells #[.slice A n c, .int .i64 (i : Int), .int .i64 h] 121 (0, 0))) : w.cell? ⟨bc, 0, none⟩ = some (.slice A n c) := by simp [World.cell?, hb]
theorem cur_cell1 (hb : w.heap[bc]? = some (.cells #[.slice A n c, .int .i64 (i : Int), .int .i64 h] 121 (0, 0))) : w.cell? ⟨bc, 1, none⟩ = some (.int .i64 (i : Int)) := by simp [World.cell?, hb]
theorem cur_cell2 (hb : w.heap[bc]? = some (.cells #[.slice A n c, .int .i64 (i : Int), .int .i64 h] 121 (0, 0))) : w.cell? ⟨bc, 2, none⟩ = some (.int .i64 h) := by simp [World.cell?, hb]
theorem cur_set2 (hb : w.heap[bc]? = some (.cells #[.slice A n c, .int .i64 (i : Int), .int .i64 h] 121 (0, 0))) (u : Int) : (w.setCell ⟨bc, 2, none⟩ (.int .i64 u)).heap[bc]? = some (.cells #[.slice A n c, .int .i64 (i : Int), .int .i64 u] 121 (0, 0)) := by
  simp [World.setCell, Array.getElem?_modify, hb]
theorem cur_set1 (hb : w.heap[bc]? = some (.cells #[.slice A n c, .int .i64 (i : Int), .int .i64 h] 121 (0, 0))) (u : Int) : (w.setCell ⟨bc, 1, none⟩ (.int .i64 u)).heap[bc]? = some (.cells #[.slice A n c, .int .i64 u, .int .i64 h] 121 (0, 0)) := by
  simp [World.setCell, Array.getElem?_modify, hb]
end
theorem draw_trans {a b c : World} {row : Option Nat} (h : a.grownBy b row) (k : b.grownBy c row) : a.grownBy c row :=
  ⟨k.os.trans h.os, k.tape.trans h.tape, k.output.trans h.output, Nat.le_trans h.size k.size, fun i hi hne => (k.block i (Nat.lt_of_lt_of_le hi h.size) hne).trans (h.block i hi hne)⟩
theorem draw_below {w w' : World} (h : Below w.heap.size w w') {row : Option Nat} : w.grownBy w' row := ⟨h.os, h.tape, h.output, h.size, fun i hi _ => h.block i hi⟩
theorem draw_set {w wr : World} {g k : Nat} (h : w.grownBy wr (some g)) (u : Value) : w.grownBy (wr.setCell ⟨g, k, none⟩ u) (some g) :=
  ⟨h.os, h.tape, h.output, by simpa [World.setCell] using h.size, fun i hi hne => (Below.heap_setCell wr ⟨g, k, none⟩ u i (by
    rintro rfl
    exact hne rfl)).trans (h.block i hi hne)⟩
set_option maxHeartbeats 1000000 in
theorem l1Byte_any (bc : Nat) (A : Option Addr) (n c : Nat) (w : World) (hB : Byts w A n) (hne : Apart A n bc) (hC : Cur w bc A n c) :
    Calls Try.prog 216 #[.pointer (some ⟨bc, 0, none⟩)] w fun e w' => ∃ x : Nat, e = .returned (.int .i64 (x : Int)) ∧ x < 256 ∧ w.grownBy w' (some bc) ∧ Cur w' bc A n c := by
  obtain ⟨i, h, hi, hb⟩ := hC
  have a0 := cur_cell0 hb
  have a1 := cur_cell1 hb
  have a2 := cur_cell2 hb
  have f2 : w.frozen? ⟨bc, 2, none⟩ = false := frozen_of_row w bc 2 _ _ hb
  go_enter Try.func216, Try.ntmps216
  go_wp2
  obtain ⟨h1, hh⟩ : ∃ h1 : Int, h1 = wrap64 (wrap64 (h * 6364136223846793005) + 1442695040888963407) := ⟨_, rfl⟩
  try rw [← hh]
  have hb1 := cur_set2 hb h1
  have d0 := cur_cell0 hb1
  have d1 := cur_cell1 hb1
  have d2 := cur_cell2 hb1
  have hg1 : w.grownBy (w.setCell ⟨bc, 2, none⟩ (.int .i64 h1)) (some bc) := ⟨rfl, rfl, rfl, by simp [World.setCell], fun k hk hne => Below.heap_setCell w ⟨bc, 2, none⟩ _ k (by rintro rfl; exact hne rfl)⟩
  clear hh a0 a1 a2 f2
  generalize w.setCell ⟨bc, 2, none⟩ (.int .i64 h1) = w1 at *
  go_quiet (fail)
  go_wp2
  obtain ⟨x, hx, he⟩ := and255 (bits .xor .i64 (h1 / 8589934592) (h1 / 35184372088832))
  rw [he]
  clear he
  have hb2 : (w1.drewN nq).heap[bc]? = some (.cells #[.slice A n c, .int .i64 (i : Int), .int .i64 h1] 121 (0, 0)) := hb1
  have hg2 : w.grownBy (w1.drewN nq) (some bc) := draw_trans hg1 (draw_below ((below_drewN (Below.refl _ _) _)))
  clear hb1 hg1
  have e0 := cur_cell0 hb2
  have e1 := cur_cell1 hb2
  generalize w1.drewN nq = w2 at *
  clear d0 d1 d2
  have i1 : (0 : Int) ≤ (i : Int) := by omega
  have hnle := hB.1
  by_cases hlt : i < n
  · obtain ⟨b, off, rfl, hbb⟩ := hB.2 (by omega)
    obtain ⟨y, hy, hcy⟩ := hbb i hlt
    have hbne := hne (by omega) b off rfl
    have cy : w2.cell? ⟨b, off + i, none⟩ = some (.int .u8 (y : Int)) := by
      rw [World.cell?_of_block (w := w) (hg2.block b (World.block_lt_of_cell? _ _ hcy) (fun hk => by injection hk with hk; exact hbne hk))]
      exact hcy
    have i2 : (i : Int) < (n : Int) := by omega
    have hd : decide ((i : Int) < (n : Int)) = true := by simp [hlt]
    have t1 : IntKind.i64.wrap ((x : Int) + (y : Int)) = (x : Int) + (y : Int) := IntWalk.i64_in _ (by omega)
    go_wp2
    go_quiet (fail)
    obtain ⟨w3, hw3⟩ : ∃ w3, w3 = w2.drewN nq := ⟨_, rfl⟩
    rw [← hw3]
    have hb3 : w3.heap[bc]? = some (.cells #[.slice (some ⟨b, off, none⟩) n c, .int .i64 (i : Int), .int .i64 h1] 121 (0, 0)) := by rw [hw3]; exact hb2
    have hg3 : w.grownBy w3 (some bc) := by rw [hw3]; exact draw_trans hg2 (draw_below (below_drewN (Below.refl _ _) _))
    have cy3 : w3.cell? ⟨b, off + i, none⟩ = some (.int .u8 (y : Int)) := by rw [hw3]; exact cy
    have k0 := cur_cell0 hb3
    have k1 := cur_cell1 hb3
    clear e0 e1 cy hb2 hg2 hw3
    go_wp2
    go_quiet (fail)
    obtain ⟨x2, hx2, he2⟩ := and255 ((x : Int) + (y : Int))
    rw [he2]
    have hb4 : (w3.drewN nq).heap[bc]? = some (.cells #[.slice (some ⟨b, off, none⟩) n c, .int .i64 (i : Int), .int .i64 h1] 121 (0, 0)) := hb3
    have l1 := cur_cell1 hb4
    have l2 : (w3.drewN nq).frozen? ⟨bc, 1, none⟩ = false := frozen_of_row (w3.drewN nq) bc 1 _ _ hb4
    have hg4 : w.grownBy (w3.drewN nq) (some bc) := draw_trans hg3 (draw_below (below_drewN (Below.refl _ _) _))
    clear he2 k0 k1 t1 hd cy3
    go_wp2
    go_ret
    exact ⟨x2, rfl, hx2, draw_set hg4 _, i + 1, h1, by omega, by have := cur_set1 hb4 ((i : Int) + 1); simpa using this⟩
  · have hd : decide ((i : Int) < (n : Int)) = false := by simp; omega
    go_wp2
    go_quiet (fail)
    go_wp2
    go_ret
    exact ⟨x, rfl, hx, draw_trans hg2 (draw_below (below_drewN (Below.refl _ _) _)), i, h1, hi, hb2⟩
/-- What a draw leaves: the cursor, and all else as it was. -/
def Drew (w w' : World) (bc : Nat) (A : Option Addr) (n c : Nat) : Prop := w.grownBy w' (some bc) ∧ Cur w' bc A n c ∧ Byts w' A n
theorem byts_grown {w w' : World} {bc n : Nat} {A : Option Addr} (h : Byts w A n) (hg : w.grownBy w' (some bc)) (hne : Apart A n bc) : Byts w' A n :=
  ⟨h.1, fun h0 => by
    obtain ⟨b, off, rfl, hc⟩ := h.2 h0
    refine ⟨b, off, rfl, fun j hj => ?_⟩
    obtain ⟨y, hy, hcy⟩ := hc j hj
    refine ⟨y, hy, ?_⟩
    rw [World.cell?_of_block (w := w) (hg.block b (World.block_lt_of_cell? _ _ hcy) (fun hk => by injection hk with hk; exact hne h0 b off rfl hk))]
    exact hcy⟩
set_option maxHeartbeats 1000000 in
theorem l1Below_any (bc : Nat) (A : Option Addr) (n c : Nat) (k : Int) (w : World) (hB : Byts w A n) (hne : Apart A n bc) (hC : Cur w bc A n c) :
    Calls Try.prog 194 #[.pointer (some ⟨bc, 0, none⟩), .int .i64 k] w fun e w' => ∃ x : Nat, e = .returned (.int .i64 (x : Int)) ∧ ((x : Int) < k ∨ (k ≤ 0 ∧ x = 0)) ∧ w.grownBy w' (some bc) ∧ Cur w' bc A n c := by
  by_cases h0 : k ≤ 0
  · go_enter Try.func194, Try.ntmps194
    go_wp2
    go_ret
    exact ⟨0, rfl, .inr ⟨h0, rfl⟩, World.grownBy.refl _ _, hC⟩
  obtain ⟨K, rfl⟩ := Int.eq_ofNat_of_zero_le (show 0 ≤ k by omega)
  have hK : 0 < K := by omega
  by_cases h1 : K ≤ 256
  · go_enter Try.func194, Try.ntmps194
    go_wp2_with fail
    refine (l1Byte_any bc A n c w hB hne hC).mono ?_
    rintro e w1 ⟨x, rfl, hx, hg1, hC1⟩
    have hm := Nat.mod_lt x hK
    go_wp2
    go_ret
    exact ⟨x % K, by rfl, .inl (by omega), hg1, hC1⟩
  · have HB := fun W (h : w.grownBy W (some bc)) (hc : Cur W bc A n c) => l1Byte_any bc A n c W (byts_grown hB h hne) hne hc
    go_enter Try.func194, Try.ntmps194
    go_wp2_with fail
    refine (HB w (World.grownBy.refl _ _) hC).mono ?_
    rintro e w1 ⟨x1, rfl, hx1, hg1, hC1⟩
    go_wp2_with fail
    refine (HB w1 hg1 hC1).mono ?_
    rintro e w2 ⟨x2, rfl, hx2, hg2, hC2⟩
    have hgg2 := draw_trans hg1 hg2
    go_wp2_with fail
    refine (HB w2 hgg2 hC2).mono ?_
    rintro e w3 ⟨x3, rfl, hx3, hg3, hC3⟩
    have hgg3 := draw_trans hgg2 hg3
    go_wp2_with fail
    refine (HB w3 hgg3 hC3).mono ?_
    rintro e w4 ⟨x4, rfl, hx4, hg4, hC4⟩
    have hgg4 := draw_trans hgg3 hg4
    have hm := Nat.mod_lt (x1 * 16777216 + x2 * 65536 + x3 * 256 + x4) hK
    go_wp2
    go_ret
    exact ⟨(x1 * 16777216 + x2 * 65536 + x3 * 256 + x4) % K, by rfl, .inl (by omega), hgg4, hC4⟩
theorem l1Once_any (bc : Nat) (A : Option Addr) (n c : Nat) (k : Int) (w : World) (hB : Byts w A n) (hne : Apart A n bc) (hC : Cur w bc A n c) :
    Calls Try.prog 166 #[.pointer (some ⟨bc, 0, none⟩), .int .i64 k] w fun e w' => ∃ x : Bool, e = .returned (.bool x) ∧ w.grownBy w' (some bc) ∧ Cur w' bc A n c := by
  go_enter Try.func166, Try.ntmps166
  go_wp2_with fail
  refine (l1Below_any bc A n c k w hB hne hC).mono ?_
  rintro e w1 ⟨x, rfl, hx, hg1, hC1⟩
  go_wp2
  go_ret
  exact ⟨_, rfl, hg1, hC1⟩
theorem l1PickInt_any (bc : Nat) (A : Option Addr) (n c : Nat) (B : Option Addr) (r cr : Nat) (L : List Int) (w : World) (hL : Ints w B r L) (hr : 0 < r) (hB : Byts w A n) (hne : Apart A n bc) (hne2 : ∀ b off, B = some ⟨b, off, none⟩ → b ≠ bc) (hC : Cur w bc A n c) :
    Calls Try.prog 209 #[.pointer (some ⟨bc, 0, none⟩), .slice B r cr] w fun e w' => ∃ x : Nat, x < r ∧ e = .returned (.int .i64 (gv L x)) ∧ w.grownBy w' (some bc) ∧ Cur w' bc A n c := by
  have hle := hL.le
  go_enter Try.func209, Try.ntmps209
  go_wp2_with fail
  refine (l1Below_any bc A n c (r : Int) w hB hne hC).mono ?_
  rintro e w1 ⟨x, rfl, hx, hg1, hC1⟩
  have hxr : x < r := by omega
  obtain ⟨b, off, rfl, hb, hc⟩ := hL.at_ hxr
  have c1 : w1.cell? ⟨b, off + x, none⟩ = some (.int .i64 (gv L x)) := by
    rw [World.cell?_of_block (w := w) (hg1.block b hb (fun hk => by injection hk with hk; exact hne2 b off rfl hk))]
    exact hc
  clear hx
  go_wp2
  go_ret
  exact ⟨x, hxr, rfl, hg1, hC1⟩
end Go.Proofs.Ytokeejachclpeaa
