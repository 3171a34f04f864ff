/-
  Walks: the drawing of numbers from a code: a byte, a number below a bound. (What is drawn is left open; that it is drawn, and within which bounds, is told.)
  Walks: a cursor made.
  Walks: a coverage function drawn.
  What a draw leaves: the cursor moved, new blocks made, all else as it was.
-/
import Derived.Test.YtokeejachclpeaaCore
import Derived.OneCell
import Derived.Test.YtokeejachclpeaaSymA
namespace Go.Proofs.Ytokeejachclpeaa
open Go.RowKit

/-- The bytes of a slice can be read. -/
def Byts (w : World) (A : Option Addr) (n : Nat) : Prop :=
  n ≤ 9223372036854775807 ∧ (0 < n → ∃ b off, A = some ⟨b, off, none⟩ ∧ ∀ j, j < n → ∃ x : Nat, x < 256 ∧ w.cell? ⟨b, off + j, none⟩ = some (.int .u8 (x : Int)))
/-- The cursor over a code: the code, a place in it, a state. -/
def Cur (w : World) (bc : Nat) (A : Option Addr) (n c : Nat) : Prop :=
  ∃ (i : Nat) (h : Int), i ≤ n ∧ w.heap[bc]? = some (.cells #[.slice A n c, .int .i64 (i : Int), .int .i64 h] 121 (0, 0))
/-- The code's bytes lie outside of a block. -/
def Apart (A : Option Addr) (n bc : Nat) : Prop := 0 < n → ∀ b off, A = some ⟨b, off, none⟩ → b ≠ bc
theorem and255 (X : Int) : ∃ x : Nat, x < 256 ∧ bits .and .i64 X 255 = (x : Int) := by
  refine ⟨(BitVec.ofInt 64 X &&& BitVec.ofInt 64 255).toNat, ?_, ?_⟩
  · have h : (BitVec.ofInt 64 X &&& BitVec.ofInt 64 255).toNat ≤ (BitVec.ofInt 64 255).toNat := by rw [BitVec.toNat_and]; exact Nat.and_le_right
    have h2 : (BitVec.ofInt 64 255).toNat = 255 := by decide
    omega
  · have h : (BitVec.ofInt 64 X &&& BitVec.ofInt 64 255).toNat ≤ (BitVec.ofInt 64 255).toNat := by rw [BitVec.toNat_and]; exact Nat.and_le_right
    have h2 : (BitVec.ofInt 64 255).toNat = 255 := by decide
    show IntKind.i64.wrap ((BitVec.ofInt 64 X &&& BitVec.ofInt 64 255).toNat : Int) = _
    rw [IntKind.wrap_i64]
    omega
section
variable {w : World} {bc n c i : Nat} {A : Option Addr} {h : Int}
theorem cur_cell0 (hb : w.heap[bc]? = some (.cells #[.slice A n c, .int .i64 (i : Int), .int .i64 h] 121 (0, 0))) : w.cell? ⟨bc, 0, none⟩ = some (.slice A n c) := by simp [World.cell?, hb]
theorem cur_cell1 (hb : w.heap[bc]? = some (.cells #[.slice A n c, .int .i64 (i : Int), .int .i64 h] 121 (0, 0))) : w.cell? ⟨bc, 1, none⟩ = some (.int .i64 (i : Int)) := by simp [World.cell?, hb]
theorem cur_cell2 (hb : w.heap[bc]? = some (.cells #[.slice A n c, .int .i64 (i : Int), .int .i64 h] 121 (0, 0))) : w.cell? ⟨bc, 2, none⟩ = some (.int .i64 h) := by simp [World.cell?, hb]
theorem cur_set2 (hb : w.heap[bc]? = some (.cells #[.slice A n c, .int .i64 (i : Int), .int .i64 h] 121 (0, 0))) (u : Int) : (w.setCell ⟨bc, 2, none⟩ (.int .i64 u)).heap[bc]? = some (.cells #[.slice A n c, .int .i64 (i : Int), .int .i64 u] 121 (0, 0)) := by
  simp [World.setCell, Array.getElem?_modify, hb]
theorem cur_set1 (hb : w.heap[bc]? = some (.cells #[.slice A n c, .int .i64 (i : Int), .int .i64 h] 121 (0, 0))) (u : Int) : (w.setCell ⟨bc, 1, none⟩ (.int .i64 u)).heap[bc]? = some (.cells #[.slice A n c, .int .i64 u, .int .i64 h] 121 (0, 0)) := by
  simp [World.setCell, Array.getElem?_modify, hb]
end
theorem draw_trans {a b c : World} {row : Option Nat} (h : a.grownBy b row) (k : b.grownBy c row) : a.grownBy c row :=
  ⟨k.os.trans h.os, k.tape.trans h.tape, k.output.trans h.output, Nat.le_trans h.size k.size, fun i hi hne => (k.block i (Nat.lt_of_lt_of_le hi h.size) hne).trans (h.block i hi hne)⟩
theorem draw_below {w w' : World} (h : Below w.heap.size w w') {row : Option Nat} : w.grownBy w' row := ⟨h.os, h.tape, h.output, h.size, fun i hi _ => h.block i hi⟩
theorem draw_set {w wr : World} {g k : Nat} (h : w.grownBy wr (some g)) (u : Value) : w.grownBy (wr.setCell ⟨g, k, none⟩ u) (some g) :=
  ⟨h.os, h.tape, h.output, by simpa [World.setCell] using h.size, fun i hi hne => (Below.heap_setCell wr ⟨g, k, none⟩ u i (by
    rintro rfl
    exact hne rfl)).trans (h.block i hi hne)⟩
set_option maxHeartbeats 1000000 in
theorem l1Byte_any (bc : Nat) (A : Option Addr) (n c : Nat) (w : World) (hB : Byts w A n) (hne : Apart A n bc) (hC : Cur w bc A n c) :
    Calls Try.prog 216 #[.pointer (some ⟨bc, 0, none⟩)] w fun e w' => ∃ x : Nat, e = .returned (.int .i64 (x : Int)) ∧ x < 256 ∧ w.grownBy w' (some bc) ∧ Cur w' bc A n c := by
  obtain ⟨i, h, hi, hb⟩ := hC
  have a0 := cur_cell0 hb
  have a1 := cur_cell1 hb
  have a2 := cur_cell2 hb
  have f2 : w.frozen? ⟨bc, 2, none⟩ = false := frozen_of_row w bc 2 _ _ hb
  go_enter Try.func216, Try.ntmps216
  go_wp2
  obtain ⟨h1, hh⟩ : ∃ h1 : Int, h1 = wrap64 (wrap64 (h * 6364136223846793005) + 1442695040888963407) := ⟨_, rfl⟩
  try rw [← hh]
  have hb1 := cur_set2 hb h1
  have d0 := cur_cell0 hb1
  have d1 := cur_cell1 hb1
  have d2 := cur_cell2 hb1
  have hg1 : w.grownBy (w.setCell ⟨bc, 2, none⟩ (.int .i64 h1)) (some bc) := ⟨rfl, rfl, rfl, by simp [World.setCell], fun k hk hne => Below.heap_setCell w ⟨bc, 2, none⟩ _ k (by rintro rfl; exact hne rfl)⟩
  clear hh a0 a1 a2 f2
  generalize w.setCell ⟨bc, 2, none⟩ (.int .i64 h1) = w1 at *
  go_quiet (fail)
  go_wp2
  obtain ⟨x, hx, he⟩ := and255 (bits .xor .i64 (h1 / 8589934592) (h1 / 35184372088832))
  rw [he]
  clear he
  have hb2 : (w1.drewN nq).heap[bc]? = some (.cells #[.slice A n c, .int .i64 (i : Int), .int .i64 h1] 121 (0, 0)) := hb1
  have hg2 : w.grownBy (w1.drewN nq) (some bc) := draw_trans hg1 (draw_below ((below_drewN (Below.refl _ _) _)))
  clear hb1 hg1
  have e0 := cur_cell0 hb2
  have e1 := cur_cell1 hb2
  generalize w1.drewN nq = w2 at *
  clear d0 d1 d2
  have i1 : (0 : Int) ≤ (i : Int) := by omega
  have hnle := hB.1
  by_cases hlt : i < n
  · obtain ⟨b, off, rfl, hbb⟩ := hB.2 (by omega)
    obtain ⟨y, hy, hcy⟩ := hbb i hlt
    have hbne := hne (by omega) b off rfl
    have cy : w2.cell? ⟨b, off + i, none⟩ = some (.int .u8 (y : Int)) := by
      rw [World.cell?_of_block (w := w) (hg2.block b (World.block_lt_of_cell? _ _ hcy) (fun hk => by injection hk with hk; exact hbne hk))]
      exact hcy
    have i2 : (i : Int) < (n : Int) := by omega
    have hd : decide ((i : Int) < (n : Int)) = true := by simp [hlt]
    have t1 : IntKind.i64.wrap ((x : Int) + (y : Int)) = (x : Int) + (y : Int) := IntWalk.i64_in _ (by omega)
    go_wp2
    go_quiet (fail)
    obtain ⟨w3, hw3⟩ : ∃ w3, w3 = w2.drewN nq := ⟨_, rfl⟩
    rw [← hw3]
    have hb3 : w3.heap[bc]? = some (.cells #[.slice (some ⟨b, off, none⟩) n c, .int .i64 (i : Int), .int .i64 h1] 121 (0, 0)) := by rw [hw3]; exact hb2
    have hg3 : w.grownBy w3 (some bc) := by rw [hw3]; exact draw_trans hg2 (draw_below (below_drewN (Below.refl _ _) _))
    have cy3 : w3.cell? ⟨b, off + i, none⟩ = some (.int .u8 (y : Int)) := by rw [hw3]; exact cy
    have k0 := cur_cell0 hb3
    have k1 := cur_cell1 hb3
    clear e0 e1 cy hb2 hg2 hw3
    go_wp2
    go_quiet (fail)
    obtain ⟨x2, hx2, he2⟩ := and255 ((x : Int) + (y : Int))
    rw [he2]
    have hb4 : (w3.drewN nq).heap[bc]? = some (.cells #[.slice (some ⟨b, off, none⟩) n c, .int .i64 (i : Int), .int .i64 h1] 121 (0, 0)) := hb3
    have l1 := cur_cell1 hb4
    have l2 : (w3.drewN nq).frozen? ⟨bc, 1, none⟩ = false := frozen_of_row (w3.drewN nq) bc 1 _ _ hb4
    have hg4 : w.grownBy (w3.drewN nq) (some bc) := draw_trans hg3 (draw_below (below_drewN (Below.refl _ _) _))
    clear he2 k0 k1 t1 hd cy3
    go_wp2
    go_ret
    exact ⟨x2, rfl, hx2, draw_set hg4 _, i + 1, h1, by omega, by have := cur_set1 hb4 ((i : Int) + 1); simpa using this⟩
  · have hd : decide ((i : Int) < (n : Int)) = false := by simp; omega
    go_wp2
    go_quiet (fail)
    go_wp2
    go_ret
    exact ⟨x, rfl, hx, draw_trans hg2 (draw_below (below_drewN (Below.refl _ _) _)), i, h1, hi, hb2⟩
/-- What a draw leaves: the cursor, and all else as it was. -/
def Drew (w w' : World) (bc : Nat) (A : Option Addr) (n c : Nat) : Prop := w.grownBy w' (some bc) ∧ Cur w' bc A n c ∧ Byts w' A n
theorem byts_grown {w w' : World} {bc n : Nat} {A : Option Addr} (h : Byts w A n) (hg : w.grownBy w' (some bc)) (hne : Apart A n bc) : Byts w' A n :=
  ⟨h.1, fun h0 => by
    obtain ⟨b, off, rfl, hc⟩ := h.2 h0
    refine ⟨b, off, rfl, fun j hj => ?_⟩
    obtain ⟨y, hy, hcy⟩ := hc j hj
    refine ⟨y, hy, ?_⟩
    rw [World.cell?_of_block (w := w) (hg.block b (World.block_lt_of_cell? _ _ hcy) (fun hk => by injection hk with hk; exact hne h0 b off rfl hk))]
    exact hcy⟩
set_option maxHeartbeats 1000000 in
theorem l1Below_any (bc : Nat) (A : Option Addr) (n c : Nat) (k : Int) (w : World) (hB : Byts w A n) (hne : Apart A n bc) (hC : Cur w bc A n c) :
    Calls Try.prog 194 #[.pointer (some ⟨bc, 0, none⟩), .int .i64 k] w fun e w' => ∃ x : Nat, e = .returned (.int .i64 (x : Int)) ∧ ((x : Int) < k ∨ (k ≤ 0 ∧ x = 0)) ∧ w.grownBy w' (some bc) ∧ Cur w' bc A n c := by
  by_cases h0 : k ≤ 0
  · go_enter Try.func194, Try.ntmps194
    go_wp2
    go_ret
    exact ⟨0, rfl, .inr ⟨h0, rfl⟩, World.grownBy.refl _ _, hC⟩
  obtain ⟨K, rfl⟩ := Int.eq_ofNat_of_zero_le (show 0 ≤ k by omega)
  have hK : 0 < K := by omega
  by_cases h1 : K ≤ 256
  · go_enter Try.func194, Try.ntmps194
    go_wp2_with fail
    refine (l1Byte_any bc A n c w hB hne hC).mono ?_
    rintro e w1 ⟨x, rfl, hx, hg1, hC1⟩
    have hm := Nat.mod_lt x hK
    go_wp2
    go_ret
    exact ⟨x % K, by rfl, .inl (by omega), hg1, hC1⟩
  · have HB := fun W (h : w.grownBy W (some bc)) (hc : Cur W bc A n c) => l1Byte_any bc A n c W (byts_grown hB h hne) hne hc
    go_enter Try.func194, Try.ntmps194
    go_wp2_with fail
    refine (HB w (World.grownBy.refl _ _) hC).mono ?_
    rintro e w1 ⟨x1, rfl, hx1, hg1, hC1⟩
    go_wp2_with fail
    refine (HB w1 hg1 hC1).mono ?_
    rintro e w2 ⟨x2, rfl, hx2, hg2, hC2⟩
    have hgg2 := draw_trans hg1 hg2
    go_wp2_with fail
    refine (HB w2 hgg2 hC2).mono ?_
    rintro e w3 ⟨x3, rfl, hx3, hg3, hC3⟩
    have hgg3 := draw_trans hgg2 hg3
    go_wp2_with fail
    refine (HB w3 hgg3 hC3).mono ?_
    rintro e w4 ⟨x4, rfl, hx4, hg4, hC4⟩
    have hgg4 := draw_trans hgg3 hg4
    have hm := Nat.mod_lt (x1 * 16777216 + x2 * 65536 + x3 * 256 + x4) hK
    go_wp2
    go_ret
    exact ⟨(x1 * 16777216 + x2 * 65536 + x3 * 256 + x4) % K, by rfl, .inl (by omega), hgg4, hC4⟩
theorem l1Once_any (bc : Nat) (A : Option Addr) (n c : Nat) (k : Int) (w : World) (hB : Byts w A n) (hne : Apart A n bc) (hC : Cur w bc A n c) :
    Calls Try.prog 166 #[.pointer (some ⟨bc, 0, none⟩), .int .i64 k] w fun e w' => ∃ x : Bool, e = .returned (.bool x) ∧ w.grownBy w' (some bc) ∧ Cur w' bc A n c := by
  go_enter Try.func166, Try.ntmps166
  go_wp2_with fail
  refine (l1Below_any bc A n c k w hB hne hC).mono ?_
  rintro e w1 ⟨x, rfl, hx, hg1, hC1⟩
  go_wp2
  go_ret
  exact ⟨_, rfl, hg1, hC1⟩
theorem l1PickInt_any (bc : Nat) (A : Option Addr) (n c : Nat) (B : Option Addr) (r cr : Nat) (L : List Int) (w : World) (hL : Ints w B r L) (hr : 0 < r) (hB : Byts w A n) (hne : Apart A n bc) (hne2 : ∀ b off, B = some ⟨b, off, none⟩ → b ≠ bc) (hC : Cur w bc A n c) :
    Calls Try.prog 209 #[.pointer (some ⟨bc, 0, none⟩), .slice B r cr] w fun e w' => ∃ x : Nat, x < r ∧ e = .returned (.int .i64 (gv L x)) ∧ w.grownBy w' (some bc) ∧ Cur w' bc A n c := by
  have hle := hL.le
  go_enter Try.func209, Try.ntmps209
  go_wp2_with fail
  refine (l1Below_any bc A n c (r : Int) w hB hne hC).mono ?_
  rintro e w1 ⟨x, rfl, hx, hg1, hC1⟩
  have hxr : x < r := by omega
  obtain ⟨b, off, rfl, hb, hc⟩ := hL.at_ hxr
  have c1 : w1.cell? ⟨b, off + x, none⟩ = some (.int .i64 (gv L x)) := by
    rw [World.cell?_of_block (w := w) (hg1.block b hb (fun hk => by injection hk with hk; exact hne2 b off rfl hk))]
    exact hc
  clear hx
  go_wp2
  go_ret
  exact ⟨x, hxr, rfl, hg1, hC1⟩
end Go.Proofs.Ytokeejachclpeaa
namespace Go.Proofs.Ytokeejachclpeaa
open Go.RowKit

set_option maxHeartbeats 1000000 in
theorem l1New_any (A : Option Addr) (n c : Nat) (w : World) (hB : Byts w A n) :
    Calls Try.prog 163 #[.slice A n c] w fun e w' => ∃ bc : Nat, e = .returned (.pointer (some ⟨bc, 0, none⟩)) ∧ w.heap.size ≤ bc ∧ Below w.heap.size w w' ∧ Cur w' bc A n c := by
  have hnle := hB.1
  go_enter Try.func163, Try.ntmps163
  go_wp2
  go_loop [3, 4] (fun s t => ∃ (h : Int) (i : Nat), i ≤ n ∧ t = .int .i64 i ∧ s = .int .i64 h) (fun _ t => n - (intOf t).toNat)
  case atStart => exact ⟨_, 0, Nat.zero_le _, rfl, rfl⟩
  case round =>
    obtain ⟨h, i, hi, rfl, rfl⟩ := hrel
    by_cases hlt : i < n ∧ i < 4000
    · obtain ⟨b, off, rfl, hbb⟩ := hB.2 (by omega)
      obtain ⟨y, hy, hcy⟩ := hbb i hlt.1
      have h1 : (i : Int) < (n : Int) := by omega
      have h2 : (i : Int) < 4000 := by omega
      clear hbb
      go_wp2
      go_round
      case rel => exact ⟨_, i + 1, by omega, by go_num, rfl⟩
      case measure => simp [intOf]; omega
    · by_cases h1 : i < n
      · have h2 : ¬ (i : Int) < 4000 := by omega
        have h3 : (i : Int) < (n : Int) := by omega
        clear hlt
        go_wp2
        go_ret
        exact ⟨w.heap.size, rfl, Nat.le_refl _, (Below.refl _ _).alloc (Nat.le_refl _) _, 0, _, Nat.zero_le _, heap_alloc_new w _⟩
      · have h3 : ¬ (i : Int) < (n : Int) := by omega
        clear hlt
        go_wp2
        go_ret
        exact ⟨w.heap.size, rfl, Nat.le_refl _, (Below.refl _ _).alloc (Nat.le_refl _) _, 0, _, Nat.zero_le _, heap_alloc_new w _⟩
end Go.Proofs.Ytokeejachclpeaa
namespace Go.Proofs.Ytokeejachclpeaa
open Go.RowKit

theorem dr_row {w wr : World} {bc r cr : Nat} {B : Option Addr} {L : List Int} {w1 : World} (hown : Own wr w.heap.size B r cr L) (hg : wr.grownBy w1 (some bc)) (hb : bc < w.heap.size) : Own w1 w.heap.size B r cr L :=
  hown.keep fun g hlt hA => hg.block g hlt (fun hk => by
    injection hk with hk
    rcases hown.where_ with h0 | ⟨g', h1, h2, h3⟩
    · rw [h0] at hA; cases hA
    · rw [h1] at hA; injection hA with hA; injection hA with hA _; omega)
theorem dr_app {w wr w1 : World} {o : Obj} {bc r cr : Nat} {B : Option Addr} {L : List Int} (hown : Own wr w.heap.size B r cr L) (hgw : w.grownBy wr (some bc)) (hg : (wr.alloc o).grownBy w1 (B.map (·.block))) : w.grownBy w1 (some bc) := by
  have h0 : w.grownBy (wr.alloc o) (some bc) := draw_trans hgw (draw_below ((Below.refl _ _).alloc (Nat.le_refl _) _))
  refine ⟨hg.os.trans h0.os, hg.tape.trans h0.tape, hg.output.trans h0.output, Nat.le_trans h0.size hg.size, fun i hi hne => ?_⟩
  rw [hg.block i (Nat.lt_of_lt_of_le hi h0.size) (fun hk => ?_)]
  · exact h0.block i hi hne
  · rcases hown.where_ with h1 | ⟨g', h1, h2, h3⟩
    · rw [h1] at hk; cases hk
    · rw [h1] at hk; simp at hk; omega
theorem dr_cur {w wr w1 : World} {o : Obj} {bc r cr n c : Nat} {A B : Option Addr} {L : List Int} (hown : Own wr w.heap.size B r cr L) (hb : bc < w.heap.size) (hC : Cur wr bc A n c) (hg : (wr.alloc o).grownBy w1 (B.map (·.block))) : Cur w1 bc A n c := by
  obtain ⟨i, h, hi, hc⟩ := hC
  have hlt : bc < wr.heap.size := (Array.getElem?_eq_some_iff.1 hc).1
  refine ⟨i, h, hi, ?_⟩
  rw [hg.block bc (by simp; omega) (fun hk => ?_)]
  · exact (Below.heap_alloc wr o bc hlt).trans hc
  · rcases hown.where_ with h1 | ⟨g', h1, h2, h3⟩
    · rw [h1] at hk; cases hk
    · rw [h1] at hk; simp at hk; omega
theorem dr_other {w wr w1 : World} {o : Obj} {r cr r2 cr2 : Nat} {B B2 : Option Addr} {L L2 : List Int} (hown : Own wr w.heap.size B r cr L) (h2 : Own wr w.heap.size B2 r2 cr2 L2) (hd : ∀ g g', B = some ⟨g, 0, none⟩ → B2 = some ⟨g', 0, none⟩ → g ≠ g') (hg : (wr.alloc o).grownBy w1 (B.map (·.block))) : Own w1 w.heap.size B2 r2 cr2 L2 :=
  (h2.alloc o).keep fun g hlt hA => hg.block g hlt (fun hk => by
    rcases hown.where_ with h1 | ⟨g', h1, _, _⟩
    · rw [h1] at hk; cases hk
    · rw [h1] at hk; simp at hk; exact hd g' g h1 hA hk.symm)
theorem dr_dis {w wr : World} {o : Obj} {g r2 cr2 : Nat} {B B2 : Option Addr} {L2 : List Int} (h2 : Own wr w.heap.size B2 r2 cr2 L2) (hd : ∀ g g', B = some ⟨g, 0, none⟩ → B2 = some ⟨g', 0, none⟩ → g ≠ g') (hat : B = some ⟨g, 0, none⟩ ∨ g = (wr.alloc o).heap.size) : ∀ g1 g', (some ⟨g, 0, none⟩ : Option Addr) = some ⟨g1, 0, none⟩ → B2 = some ⟨g', 0, none⟩ → g1 ≠ g' := by
  intro g1 g' h1 h3
  injection h1 with h1; injection h1 with h1 _
  subst h1
  rcases hat with h | h
  · exact hd g g' h h3
  · rcases h2.where_ with h4 | ⟨g2, h4, _, h5⟩
    · rw [h4] at h3; cases h3
    · rw [h4] at h3; injection h3 with h3; injection h3 with h3 _
      simp at h; omega
set_option maxHeartbeats 4000000 in
theorem l2Cover_any (bc : Nat) (A : Option Addr) (n c N : Nat) (w : World) (hN : N ≤ 5) (hb : bc < w.heap.size) (hB : Byts w A n) (hne : Apart A n bc) (hC : Cur w bc A n c) :
    Calls Try.prog 220 #[.pointer (some ⟨bc, 0, none⟩), .int .i64 (N : Int)] w fun e w' => ∃ (B : Option Addr) (cr : Nat) (L : List Int), e = .returned (.slice B (2 ^ N) cr) ∧ Own w' w.heap.size B (2 ^ N) cr L ∧ w.grownBy w' (some bc) ∧ Cur w' bc A n c := by
  have hN40 : N ≤ 40 := by omega
  have h32 : p2 N ≤ 32 := Nat.le_trans (Nat.pow_le_pow_right (by decide) hN) (by decide)
  have hp0 := p2_pos N
  have HBel := hide (fun (k : Int) W (h : w.grownBy W (some bc)) (hc : Cur W bc A n c) => l1Below_any bc A n c k W (byts_grown hB h hne) hne hc)
  have hg0 : w.grownBy ((w.alloc (.cells #[] 3)).alloc (.cells #[] 3)) (some bc) := draw_trans (draw_below ((Below.refl _ _).alloc (Nat.le_refl _) _)) (draw_below ((Below.refl _ _).alloc (Nat.le_refl _) _))
  have hC0 : Cur ((w.alloc (.cells #[] 3)).alloc (.cells #[] 3)) bc A n c := by
    obtain ⟨i, h, hi, hc⟩ := hC
    exact ⟨i, h, hi, ((Below.heap_alloc _ _ bc (by simp; omega)).trans (Below.heap_alloc w _ bc hb)).trans hc⟩
  have hO1 := (own_none w).alloc (.cells #[] 3)
  have z1 : (w.alloc (.cells #[] 3)).heap.size = w.heap.size + 1 := by simp
  have hO2 := (own_none (w.alloc (.cells #[] 3))).less (B' := w.heap.size) (by simp)
  rw [z1] at hO2
  clear z1
  go_enter Try.func220, Try.ntmps220
  go_wp2_with fail
  refine (HBel.out 5 _ hg0 hC0).mono ?_
  rintro e w1 ⟨k0, rfl, hk0, hg1, hC1⟩
  have hk5 : k0 < 5 := by omega
  have hgw1 := draw_trans hg0 hg1
  have o1 := dr_row (w := w) hO1 hg1 hb
  have o2 := dr_row (w := w) hO2 hg1 hb
  clear hk0 hg0 hC0 hO1 hO2 hg1
  go_wp2
  go_loopw [5, 6, 7] (fun l m t wr => ∃ (j r : Nat) (B : Option Addr) (cr : Nat) (S : Option Addr) (cs : Nat) (L M : List Int), t = .int .i64 (j : Int) ∧ l = .slice B r cr ∧ m = .slice S r cs ∧ r + j ≤ 5 ∧ Own wr w.heap.size B r cr L ∧ Own wr w.heap.size S r cs M ∧ (∀ g g', B = some ⟨g, 0, none⟩ → S = some ⟨g', 0, none⟩ → g ≠ g') ∧ w.grownBy wr (some bc) ∧ Cur wr bc A n c) (fun _ _ t _ => (intOf t).toNat)
  case atStart => exact ⟨k0, 0, _, 0, _, 0, _, _, rfl, rfl, rfl, by omega, o1, o2, (fun g g' h1 h2 => by injection h1 with h1; injection h1 with h1 _; injection h2 with h2; injection h2 with h2 _; omega), hgw1, hC1⟩
  clear o1 o2 hgw1 hC1
  case round =>
    obtain ⟨j, r, B, cr, S, cs, L, M, rfl, rfl, rfl, hrj, hoB, hoS, hd, hgw, hCr⟩ := hrel
    have Hd := hide hd; clear hd
    by_cases hj : 0 < j
    · have HA := hide (HBel.out 3 wr hgw hCr)
      go_wp2_with fail
      refine HA.out.mono ?_
      rintro e w2 ⟨x, rfl, hx, hg2, hC2⟩
      have hx3 : x < 3 := by omega
      have oB2 := dr_row (w := w) hoB hg2 hb
      have oS2 := dr_row (w := w) hoS hg2 hb
      have hgw2 := draw_trans hgw hg2
      have hsz2 := hgw2.size
      clear hx
      go_wp2_with (refine wpl_app (by rfl) _ _ (by rfl) w.heap.size B r cr w2.heap.size L (1 + (x : Int)) (by rfl) (by rfl) (oB2.alloc _) (cell_new w2 _) (by omega) (by simp; omega) ?_; intro g cap w3 hoB3 hgrow hat hlt3; have hgw3 := dr_app oB2 hgw2 hgrow; have hC3 := dr_cur oB2 hb hC2 hgrow; have oS3 := dr_other oB2 oS2 Hd.out hgrow; have hd3 := hide (dr_dis oS2 Hd.out hat))
      have HA4 := hide (HBel.out ((p2 N : Nat) : Int) w3 hgw3 hC3)
      refine HA4.out.mono ?_
      rintro e w4 ⟨y, rfl, hy, hg4, hC4⟩
      have oB4 := dr_row (w := w) hoB3 hg4 hb
      have oS4 := dr_row (w := w) oS3 hg4 hb
      have hgw4 := draw_trans hgw3 hg4
      have hsz4 := hgw4.size
      clear hy
      go_wp2_with (refine wpl_app (by rfl) _ _ (by rfl) w.heap.size S r cs w4.heap.size M (y : Int) (by rfl) (by rfl) (oS4.alloc _) (cell_new w4 _) (by omega) (by simp; omega) ?_; intro g2 cap2 w5 hoS5 hgrow5 hat5 hlt5; have hgw5 := dr_app oS4 hgw4 hgrow5; have hC5 := dr_cur oS4 hb hC4 hgrow5; have oB5 := dr_other oS4 oB4 (fun a b h1 h2 => (hd3.out b a h2 h1).symm) hgrow5; have hd5 := hide (dr_dis oB4 (fun a b h1 h2 => (hd3.out b a h2 h1).symm) hat5))
      go_roundw
      case rel => exact ⟨j - 1, r + 1, _, cap, _, cap2, _, _, by go_num, rfl, rfl, by omega, oB5, hoS5, (fun a b h1 h2 => (hd5.out b a h2 h1).symm), hgw5, hC5⟩
      case measure => simp [intOf]; omega
    · obtain rfl : j = 0 := by omega
      obtain ⟨wq, rfl⟩ : ∃ wq : World, wq = wr := ⟨_, rfl⟩
      have hO3 := own_none wq
      have hB3 := (Below.refl wq.heap.size wq).alloc (Nat.le_refl _) (.cells #[] 3)
      have hIB := hoB.ints
      have hIS := hoS.ints
      go_wp2
      go_loopw [8, 9] (fun l t w2 => ∃ (s : Nat) (B3 : Option Addr) (cr3 : Nat) (V : List Int), s ≤ p2 N ∧ t = .int .i64 s ∧ l = .slice B3 s cr3 ∧ Own w2 wq.heap.size B3 s cr3 V ∧ Below wq.heap.size wq w2) (fun _ t _ => p2 N - (intOf t).toNat)
      case atStart => exact ⟨0, _, 0, _, Nat.zero_le _, rfl, rfl, hO3, hB3⟩
      clear hO3 hB3
      case round =>
        obtain ⟨s, B3, cr3, V, hs, rfl, rfl, hoV, hbl⟩ := hrel
        by_cases hlt : s < p2 N
        · have hIB2 := hIB.below hbl (Nat.le_refl _)
          have hIS2 := hIS.below hbl (Nat.le_refl _)
          have hblsz := hbl.size
          go_wp2
          go_loop [10, 11] (fun a t => ∃ (h : Int) (i : Nat), i ≤ r ∧ t = .int .i64 i ∧ a = .int .i64 h) (fun _ t => r - (intOf t).toNat)
          case atStart => exact ⟨0, 0, Nat.zero_le _, rfl, rfl⟩
          case round =>
            obtain ⟨h, i, hi, rfl, rfl⟩ := hrel
            by_cases hir : i < r
            · obtain ⟨bS, offS, rfl, hbS, hcS⟩ := hIS2.at_ hir
              obtain ⟨bB, offB, rfl, hbB, hcB⟩ := hIB2.at_ hir
              cases hq : (bits .and .i64 (gv M i) (s : Int) != 0)
              · go_wp2
                go_round
                case rel => exact ⟨h, i + 1, by omega, by go_num, rfl⟩
                case measure => simp [intOf]; omega
              · go_wp2
                go_round
                case rel => exact ⟨_, i + 1, by omega, by go_num, rfl⟩
                case measure => simp [intOf]; omega
            · obtain rfl : i = r := by omega
              go_wp2_with (refine wpl_app (by rfl) _ _ (by rfl) wq.heap.size B3 s cr3 _ V h (by rfl) (by rfl) (hoV.alloc _) (cell_new _ _) (by omega) (by simp; omega) ?_; intro g cap w6 hoV6 hgrow6 hat6 hlt6)
              go_roundw
              case rel => exact ⟨s + 1, by omega, by omega, _, _, ⟨rfl, rfl, rfl⟩, ⟨_, hoV6⟩, app_below hbl hblsz hoV hgrow6 (Below.refl _ _)⟩
              case measure => simp [intOf]; omega
        · obtain rfl : s = p2 N := by omega
          go_wp2
          go_ret
          refine ⟨B3, cr3, V, rfl, hoV.less hgw.size, draw_trans hgw (draw_below hbl), ?_⟩
          obtain ⟨i, h, hi, hc⟩ := hCr
          exact ⟨i, h, hi, (hbl.block bc (Array.getElem?_eq_some_iff.1 hc).1).trans hc⟩
end Go.Proofs.Ytokeejachclpeaa
namespace Go.Proofs.Ytokeejachclpeaa
open Go.RowKit

/-- From w to wr only the cursor's block has turned; the cursor still reads. -/
structure DS (w wr : World) (bc : Nat) (A : Option Addr) (n c : Nat) : Prop where
  grew : w.grownBy wr (some bc)
  cur : Cur wr bc A n c
/-- The same, with a result's two cells in the first new block. -/
structure DR (w wr : World) (bc : Nat) (A : Option Addr) (n c : Nat) (x y : Value) : Prop where
  ds : DS w wr bc A n c
  res : Two wr w.heap.size x y
section
variable {w wr w1 : World} {bc n c : Nat} {A : Option Addr} {x y : Value}
theorem Cur.lt (h : Cur w bc A n c) : bc < w.heap.size := by
  obtain ⟨i, h, hi, hc⟩ := h
  exact (Array.getElem?_eq_some_iff.1 hc).1
theorem Cur.same (h : Cur w bc A n c) (he : w1.heap[bc]? = w.heap[bc]?) : Cur w1 bc A n c := by
  obtain ⟨i, h, hi, hc⟩ := h
  exact ⟨i, h, hi, he.trans hc⟩
theorem Cur.below (h : Cur w bc A n c) {B : Nat} (hb : Below B w w1) (hB : bc < B) : Cur w1 bc A n c := h.same (hb.block bc hB)
theorem DS.start (h : Cur w bc A n c) : DS w w bc A n c := ⟨World.grownBy.refl _ _, h⟩
theorem DS.call (h : DS w wr bc A n c) (hg : wr.grownBy w1 (some bc)) (hC : Cur w1 bc A n c) : DS w w1 bc A n c := ⟨draw_trans h.grew hg, hC⟩
theorem DS.below (h : DS w wr bc A n c) (hb : Below wr.heap.size wr w1) : DS w w1 bc A n c := ⟨draw_trans h.grew (draw_below hb), h.cur.below hb h.cur.lt⟩
theorem DS.alloc (h : DS w wr bc A n c) (o : Obj) : DS w (wr.alloc o) bc A n c := h.below ((Below.refl _ _).alloc (Nat.le_refl _) o)
theorem DS.drew (h : DS w wr bc A n c) : DS w wr.drew bc A n c := h.below ((Below.refl wr.heap.size wr).drew)
theorem DS.ds (h : DS w wr bc A n c) : DS w wr bc A n c := h
theorem DS.app {o : Obj} {b0 r cr : Nat} {B : Option Addr} {L : List Int} (h : DS w wr bc A n c) (hown : Own wr b0 B r cr L) (hb : bc < b0) (hw : w.heap.size ≤ b0) (hg : (wr.alloc o).grownBy w1 (B.map (·.block))) : DS w w1 bc A n c := by
  have hne : ∀ k, some k = B.map (·.block) → b0 ≤ k := by
    intro k hk
    rcases hown.where_ with e | ⟨g, e, h1, _⟩
    · rw [e] at hk; cases hk
    · rw [e] at hk; simp at hk; omega
  have h0 := (h.alloc o).grew
  refine ⟨⟨hg.os.trans h0.os, hg.tape.trans h0.tape, hg.output.trans h0.output, Nat.le_trans h0.size hg.size, fun i hi hne' => ?_⟩, ?_⟩
  · rw [hg.block i (Nat.lt_of_lt_of_le hi h0.size) (fun hk => by have := hne i hk; omega)]
    exact h0.block i hi hne'
  · exact (h.alloc o).cur.same (hg.block bc (h.alloc o).cur.lt (fun hk => by have := hne bc hk; omega))
theorem DS.store (h : DS w wr bc A n c) {p : Addr} (hp : w.heap.size ≤ p.block) (hb : bc < w.heap.size) (u : Value) : DS w (wr.setCell p u) bc A n c :=
  ⟨⟨h.grew.os, h.grew.tape, h.grew.output, by simpa [World.setCell] using h.grew.size, fun i hi hne => (Below.heap_setCell wr p u i (by omega)).trans (h.grew.block i hi hne)⟩,
   h.cur.same (Below.heap_setCell wr p u bc (by omega))⟩
theorem DR.call (h : DR w wr bc A n c x y) (hb : bc < w.heap.size) (hg : wr.grownBy w1 (some bc)) (hC : Cur w1 bc A n c) : DR w w1 bc A n c x y :=
  ⟨h.ds.call hg hC, h.res.same (hg.block _ h.res.lt (fun hk => by injection hk with hk; omega))⟩
theorem DR.below (h : DR w wr bc A n c x y) (hb : Below wr.heap.size wr w1) : DR w w1 bc A n c x y := ⟨h.ds.below hb, h.res.below hb h.res.lt⟩
theorem DR.alloc (h : DR w wr bc A n c x y) (o : Obj) : DR w (wr.alloc o) bc A n c x y := h.below ((Below.refl _ _).alloc (Nat.le_refl _) o)
theorem DR.drew (h : DR w wr bc A n c x y) : DR w wr.drew bc A n c x y := h.below ((Below.refl wr.heap.size wr).drew)
theorem DR.app {o : Obj} {b0 r cr : Nat} {B : Option Addr} {L : List Int} (h : DR w wr bc A n c x y) (hown : Own wr b0 B r cr L) (hb : bc < b0) (hw : w.heap.size < b0) (hg : (wr.alloc o).grownBy w1 (B.map (·.block))) : DR w w1 bc A n c x y := by
  refine ⟨h.ds.app hown hb (Nat.le_of_lt hw) hg, (h.alloc o).res.same (hg.block _ (h.alloc o).res.lt (fun hk => ?_))⟩
  rcases hown.where_ with e | ⟨g, e, h1, _⟩
  · rw [e] at hk; cases hk
  · rw [e] at hk; simp at hk; omega
theorem DR.start (h : Cur w bc A n c) (x y : Value) : DR w (w.alloc (.cells #[x, y] 26)) bc A n c x y :=
  ⟨(DS.start h).alloc _, heap_alloc_new w _⟩
theorem DR.store (h : DR w wr bc A n c x y) {p : Addr} (hp : w.heap.size < p.block) (hb : bc < w.heap.size) (u : Value) : DR w (wr.setCell p u) bc A n c x y :=
  ⟨h.ds.store (Nat.le_of_lt hp) hb u, h.res.far (by omega) u⟩
theorem own_call {b0 r cr : Nat} {B : Option Addr} {L : List Int} (hown : Own wr b0 B r cr L) (hg : wr.grownBy w1 (some bc)) (hb : bc < b0) : Own w1 b0 B r cr L :=
  hown.keep fun g hlt hA => hg.block g hlt (fun hk => by
    injection hk with hk
    rcases hown.where_ with h0 | ⟨g', h1, h2, h3⟩
    · rw [h0] at hA; cases hA
    · rw [h1] at hA; injection hA with hA; injection hA with hA _; omega)
theorem own_lt {w : World} {b0 r cr g : Nat} {B : Option Addr} {L : List Int} (hown : Own w b0 B r cr L) (h : B = some ⟨g, 0, none⟩) : g < w.heap.size := by
  rcases hown.where_ with h0 | ⟨g', h1, _, h3⟩
  · rw [h0] at h; cases h
  · rw [h1] at h; injection h with h; injection h with h _; omega
/-- Two rows, one appended to. -/
theorem own_other {o : Obj} {b0 b2 r cr r2 cr2 : Nat} {B B2 : Option Addr} {L L2 : List Int} (hown : Own wr b0 B r cr L) (h2 : Own wr b2 B2 r2 cr2 L2) (hd : ∀ g g', B = some ⟨g, 0, none⟩ → B2 = some ⟨g', 0, none⟩ → g ≠ g') (hg : (wr.alloc o).grownBy w1 (B.map (·.block))) : Own w1 b2 B2 r2 cr2 L2 :=
  (h2.alloc o).keep fun g hlt hA => hg.block g hlt (fun hk => by
    rcases hown.where_ with h1 | ⟨g', h1, _, _⟩
    · rw [h1] at hk; cases hk
    · rw [h1] at hk; simp at hk; exact hd g' g h1 hA hk.symm)
theorem own_apart {o : Obj} {g b2 r2 cr2 : Nat} {B B2 : Option Addr} {L2 : List Int} (h2 : Own wr b2 B2 r2 cr2 L2) (hd : ∀ g g', B = some ⟨g, 0, none⟩ → B2 = some ⟨g', 0, none⟩ → g ≠ g') (hat : B = some ⟨g, 0, none⟩ ∨ g = (wr.alloc o).heap.size) : ∀ g1 g', (some ⟨g, 0, none⟩ : Option Addr) = some ⟨g1, 0, none⟩ → B2 = some ⟨g', 0, none⟩ → g1 ≠ g' := by
  intro g1 g' h1 h3
  injection h1 with h1; injection h1 with h1 _
  subst h1
  rcases hat with h | h
  · exact hd g g' h h3
  · rcases h2.where_ with h4 | ⟨g2, h4, _, h5⟩
    · rw [h4] at h3; cases h3
    · rw [h4] at h3; injection h3 with h3; injection h3 with h3 _
      simp at h; omega
end
end Go.Proofs.Ytokeejachclpeaa
