/-
  Walks: the submodularity gap.
-/
import Derived.Test.YtboggeipdgimdaaPairs
import Derived.OneCell
import Derived.Deep.RegionWith
namespace Go.Proofs.Ytboggeipdgimdaa
open Go.RowKit

theorem excess_any (E : Int) (A : Option Addr) (n c : Nat) (v : List Int) (s i k : Nat) (w : World) (hv : Ints w A n v) (hf : isFn E v = true) (hs : s < n) (hi : (i : Int) < E) (hk : (k : Int) < E) :
    Calls Try.prog 119 #[.agg #[.int .i64 E, .slice A n c], .int .i64 s, .int .i64 i, .int .i64 k] w fun e w' => e = .returned (.int .i64 (excN v s i k)) ∧ Below w.heap.size w w' := by
  obtain ⟨N, rfl, fo⟩ := FnOk.of hf hv
  obtain ⟨b, off, rfl, hb, hc⟩ := hv.all_ fo.n0
  have hN := fo.hN
  have n32 := fo.n32
  have n0 := fo.n0
  have j1 : w.heap.size ≠ b := by omega
  clear hf
  have hi' : i < N := by omega
  have hk' : k < N := by omega
  have h1 := fo.ins hs hi'
  have h2 := fo.ins hs hk'
  have h3 := fo.ins h1 hk'
  have g0 := fo.bd hs
  have g1 := fo.bd h1
  have g2 := fo.bd h2
  have g3 := fo.bd h3
  have hs10 : s < 1024 := by omega
  have hi10 : insN s i < 1024 := by omega
  have hk10 : insN s k < 1024 := by omega
  have hi40 : i ≤ 40 := by omega
  have hk40 : k ≤ 40 := by omega
  have eo := orN_ins s i k
  have x0 := hc _ hs
  have x1 := hc _ h1
  have x2 := hc _ h2
  have x3 := hc _ h3
  have i1 : (0 : Int) ≤ (s : Int) := by omega
  have i2 : (s : Int) < (n : Int) := by omega
  have i3 : (0 : Int) ≤ (insN s i : Int) := by omega
  have i4 : (insN s i : Int) < (n : Int) := by omega
  have i5 : (0 : Int) ≤ (insN s k : Int) := by omega
  have i6 : (insN s k : Int) < (n : Int) := by omega
  have i7 : (0 : Int) ≤ (insN (insN s i) k : Int) := by omega
  have i8 : (insN (insN s i) k : Int) < (n : Int) := by omega
  have t1 : IntKind.i64.wrap (gv v (insN (insN s i) k) + gv v s) = gv v (insN (insN s i) k) + gv v s := IntWalk.i64_in _ (by omega)
  have t2 : IntKind.i64.wrap (gv v (insN (insN s i) k) + gv v s - gv v (insN s i)) = gv v (insN (insN s i) k) + gv v s - gv v (insN s i) := IntWalk.i64_in _ (by omega)
  have t3 : IntKind.i64.wrap (gv v (insN (insN s i) k) + gv v s - gv v (insN s i) - gv v (insN s k)) = gv v (insN (insN s i) k) + gv v s - gv v (insN s i) - gv v (insN s k) := IntWalk.i64_in _ (by omega)
  clear hc
  go_enter Try.func119, Try.ntmps119
  go_wp2
  go_quiet (fail)
  clear t1 t2 t3
  go_wp2
  go_ret
  exact ⟨rfl, below_drewN ((Below.refl _ _).alloc (Nat.le_refl _) _) _⟩

/-- A block of one int. -/
def One (w : World) (b : Nat) (m : Int) : Prop := w.heap[b]? = some (.cells #[.int .i64 m] 3 (0, 0))
theorem One.cell {w : World} {b : Nat} {m : Int} (h : One w b m) : w.cell? ⟨b, 0, none⟩ = some (.int .i64 m) := by
  rw [cell_of_row w b 0 _ _ (0, 0) h]; rfl
theorem One.frozen {w : World} {b : Nat} {m : Int} (h : One w b m) : w.frozen? ⟨b, 0, none⟩ = false := frozen_of_row w b 0 _ _ h
theorem One.lt {w : World} {b : Nat} {m : Int} (h : One w b m) : b < w.heap.size := World.block_lt_of_cell? _ _ h.cell
theorem One.set_ {w : World} {b : Nat} {m : Int} (h : One w b m) (u : Int) : One (w.setCell ⟨b, 0, none⟩ (.int .i64 u)) b u := by
  unfold One at *
  simp [World.setCell, Array.getElem?_modify, h]
theorem One.below {w w' : World} {b B : Nat} {m : Int} (h : One w b m) (hb : Below B w w') (hB : b < B) : One w' b m := (hb.block b hB).trans h
theorem grown_of_below {w w' : World} (h : Below w.heap.size w w') (row : Option Nat) : w.grownBy w' row := ⟨h.os, h.tape, h.output, h.size, fun i hi _ => h.block i hi⟩
theorem grown_trans2 {a b c : World} {row : Option Nat} (h : a.grownBy b row) (k : b.grownBy c row) : a.grownBy c row :=
  ⟨k.os.trans h.os, k.tape.trans h.tape, k.output.trans h.output, Nat.le_trans h.size k.size, fun i hi hne => (k.block i (Nat.lt_of_lt_of_le hi h.size) hne).trans (h.block i hi hne)⟩
theorem grown_set2 {w wr : World} {g k : Nat} (h : w.grownBy wr (some g)) (u : Value) : w.grownBy (wr.setCell ⟨g, k, none⟩ u) (some g) :=
  ⟨h.os, h.tape, h.output, by simpa [World.setCell] using h.size, fun i hi hne => (Below.heap_setCell wr ⟨g, k, none⟩ u i (by
    rintro rfl
    exact hne rfl)).trans (h.block i hi hne)⟩
theorem grown_cell {w w' : World} {g b o : Nat} {x : Value} (h : w.grownBy w' (some g)) (hne : b ≠ g) (hb : b < w.heap.size) (hc : w.cell? ⟨b, o, none⟩ = some x) : w'.cell? ⟨b, o, none⟩ = some x := by
  rw [World.cell?_of_block (w := w) (h.block b hb (fun e => hne (by injection e)))]; exact hc
theorem Ints.grown {w w' : World} {g n : Nat} {A : Option Addr} {v : List Int} (hv : Ints w A n v) (h : w.grownBy w' (some g)) (hne : ∀ b off, A = some ⟨b, off, none⟩ → b ≠ g) : Ints w' A n v :=
  ⟨hv.1, hv.2.1, fun hn => by
    obtain ⟨b, off, rfl, hb, hc⟩ := hv.all_ hn
    exact ⟨b, off, rfl, fun j hj => grown_cell h (hne b off rfl) hb (hc j hj)⟩⟩

/-- Inside the visit: only the block bm (one int, m) has changed, and the visitor's own box stands. -/
def VP (w wr : World) (bm : Nat) (m E : Int) (A : Option Addr) (n c : Nat) : Prop :=
  w.grownBy wr (some bm) ∧ w.heap.size < wr.heap.size ∧ wr.cell? ⟨w.heap.size, 0, none⟩ = some (.int .i64 E) ∧ wr.cell? ⟨w.heap.size, 1, none⟩ = some (.slice A n c) ∧ One wr bm m
theorem VP.parts {w wr : World} {bm n c : Nat} {m E : Int} {A : Option Addr} (h : VP w wr bm m E A n c) :
  w.grownBy wr (some bm) ∧ w.heap.size < wr.heap.size ∧ wr.cell? ⟨w.heap.size, 0, none⟩ = some (.int .i64 E) ∧ wr.cell? ⟨w.heap.size, 1, none⟩ = some (.slice A n c) ∧ One wr bm m := h
theorem VP.start {w : World} {bm n c : Nat} {m E : Int} {A : Option Addr} (h : One w bm m) : VP w (w.alloc (.cells #[.int .i64 E, .slice A n c] 26)) bm m E A n c :=
  ⟨World.grownBy_alloc _ _ _, by simp, by rw [World.cell?_alloc_at _ _ _ _ rfl]; rfl, by rw [World.cell?_alloc_at _ _ _ _ rfl]; rfl, h.below ((Below.refl _ _).alloc (Nat.le_refl _) _) h.lt⟩
theorem VP.step {w wr w2 : World} {bm n c : Nat} {m m' E : Int} {A : Option Addr} (h : VP w wr bm m E A n c) (hb : bm < w.heap.size) (hg : wr.grownBy w2 (some bm)) (h1 : One w2 bm m') : VP w w2 bm m' E A n c :=
  ⟨grown_trans2 h.1 hg, Nat.lt_of_lt_of_le h.2.1 hg.size, grown_cell hg (by omega) h.2.1 h.2.2.1, grown_cell hg (by omega) h.2.1 h.2.2.2.1, h1⟩

end Go.Proofs.Ytboggeipdgimdaa
