/-
  Plain: the pairs of elements that are not in a set, in order; how much the condition of submodularity fails.
  Walks: the submodularity gap.
  Walks: is a function submodular.
  Walks: increasing functions, polymatroids.
-/
import Derived.Test.YtfmibekefllhjaaCore
import Derived.OneCell
import Derived.Deep.RegionWith
import Derived.Test.YtfmibekefllhjaaBelM
namespace Go.Proofs.Ytfmibekefllhjaa
open Go.RowKit

/-- By how much the condition fails for a set and two elements. -/
def excN (v : List Int) (s i k : Nat) : Int := gv v (insN (insN s i) k) + gv v s - gv v (insN s i) - gv v (insN s k)
/-- Neither i nor k is in s. -/
def offB (s i k : Nat) : Bool := !hasB s i && !hasB s k
theorem insN_comm (s i k : Nat) : insN (insN s i) k = insN (insN s k) i := by
  unfold insN; rw [Nat.or_assoc, Nat.or_assoc, Nat.or_comm (2 ^ i)]
theorem orN_ins (s i k : Nat) : orN (insN s i) (insN s k) = insN (insN s i) k := by
  unfold insN orN
  apply Nat.eq_of_testBit_eq; intro j
  simp only [Nat.testBit_or]
  cases s.testBit j <;> simp
theorem excN_comm (v : List Int) (s i k : Nat) : excN v s i k = excN v s k i := by
  unfold excN; rw [insN_comm]; omega
theorem excN_bd {N n : Nat} {v : List Int} (h : FnOk N n v) {s i k : Nat} (hs : s < n) (hi : i < N) (hk : k < N) : -4000 ≤ excN v s i k ∧ excN v s i k ≤ 4000 := by
  have h1 := h.ins hs hi
  have h2 := h.ins hs hk
  have := h.bd hs
  have := h.bd h1
  have := h.bd h2
  have := h.bd (h.ins h1 hk)
  unfold excN; omega

abbrev T3 := Nat × Nat × Nat
def rowP (s i k : Nat) : List T3 := ((List.range k).filter fun j => decide (i < j) && offB s i j).map fun j => (s, i, j)
def colP (N s i : Nat) : List T3 := (List.range i).flatMap fun j => rowP s j N
def allP (N s : Nat) : List T3 := (List.range s).flatMap fun t => colP N t N
theorem rowP_start (s i : Nat) : rowP s i (i + 1) = [] := by
  unfold rowP
  rw [List.map_eq_nil_iff, List.filter_eq_nil_iff]
  intro j hj
  simp at hj; simp; intro h; omega
theorem rowP_snoc {s i k : Nat} (h : i < k) : rowP s i (k + 1) = rowP s i k ++ (if offB s i k then [(s, i, k)] else []) := by
  unfold rowP
  rw [List.range_succ, List.filter_append, List.map_append]
  cases hb : offB s i k <;> simp [h, hb]
theorem colP_snoc (N s i : Nat) : colP N s (i + 1) = colP N s i ++ rowP s i N := by
  unfold colP; rw [List.range_succ, List.flatMap_append]; simp
theorem allP_snoc (N s : Nat) : allP N (s + 1) = allP N s ++ colP N s N := by
  unfold allP; rw [List.range_succ, List.flatMap_append]; simp
theorem mem_rowP {s i k : Nat} {t : T3} : t ∈ rowP s i k ↔ t.1 = s ∧ t.2.1 = i ∧ i < t.2.2 ∧ t.2.2 < k ∧ offB s i t.2.2 = true := by
  obtain ⟨a, b, c⟩ := t
  simp only [rowP, List.mem_map, List.mem_filter, List.mem_range, Bool.and_eq_true, decide_eq_true_eq, Prod.mk.injEq]
  constructor
  · rintro ⟨j, ⟨h1, h2, h3⟩, rfl, rfl, rfl⟩; exact ⟨rfl, rfl, h2, h1, h3⟩
  · rintro ⟨rfl, rfl, h1, h2, h3⟩; exact ⟨c, ⟨h2, h1, h3⟩, rfl, rfl, rfl⟩
theorem mem_allP {N n : Nat} {t : T3} : t ∈ allP N n ↔ t.1 < n ∧ t.2.1 < t.2.2 ∧ t.2.2 < N ∧ offB t.1 t.2.1 t.2.2 = true := by
  obtain ⟨a, b, c⟩ := t
  simp only [allP, colP, List.mem_flatMap, List.mem_range, mem_rowP]
  constructor
  · rintro ⟨s, hs, i, hi, rfl, rfl, h1, h2, h3⟩; exact ⟨hs, h1, h2, h3⟩
  · rintro ⟨h1, h2, h3, h4⟩; exact ⟨a, h1, b, by omega, rfl, rfl, h2, h3, h4⟩

/-- The greatest of 0 and of what the triples of the list exceed by. -/
def gapL (v : List Int) (l : List T3) : Int := l.foldl (fun m t => mx m (excN v t.1 t.2.1 t.2.2)) 0
theorem gapL_snoc (v : List Int) (l : List T3) (s i k : Nat) : gapL v (l ++ [(s, i, k)]) = mx (gapL v l) (excN v s i k) := by
  unfold gapL; rw [List.foldl_append]; rfl
theorem mx_ge (a b : Int) : a ≤ mx a b ∧ b ≤ mx a b := by unfold mx; split <;> omega
theorem gap_from (v : List Int) : ∀ (l : List T3) (m : Int), m ≤ l.foldl (fun m t => mx m (excN v t.1 t.2.1 t.2.2)) m ∧ (∀ t ∈ l, excN v t.1 t.2.1 t.2.2 ≤ l.foldl (fun m t => mx m (excN v t.1 t.2.1 t.2.2)) m) ∧
    (l.foldl (fun m t => mx m (excN v t.1 t.2.1 t.2.2)) m = m ∨ ∃ t ∈ l, l.foldl (fun m t => mx m (excN v t.1 t.2.1 t.2.2)) m = excN v t.1 t.2.1 t.2.2)
  | [], m => ⟨Int.le_refl _, fun _ h => (List.not_mem_nil h).elim, .inl rfl⟩
  | t :: l, m => by
    obtain ⟨h1, h2, h3⟩ := gap_from v l (mx m (excN v t.1 t.2.1 t.2.2))
    have h4 := mx_ge m (excN v t.1 t.2.1 t.2.2)
    refine ⟨Int.le_trans h4.1 h1, fun u hu => ?_, ?_⟩
    · rcases List.mem_cons.1 hu with rfl | hu
      · exact Int.le_trans h4.2 h1
      · exact h2 u hu
    · rcases h3 with h3 | ⟨u, hu, h3⟩
      · simp only [List.foldl_cons]
        rw [h3]
        by_cases hlt : m < excN v t.1 t.2.1 t.2.2
        · exact .inr ⟨t, List.mem_cons_self, by unfold mx; rw [if_pos hlt]⟩
        · exact .inl (by unfold mx; rw [if_neg hlt])
      · exact .inr ⟨u, List.mem_cons_of_mem _ hu, h3⟩
theorem gapL_spec (v : List Int) (l : List T3) : 0 ≤ gapL v l ∧ (∀ t ∈ l, excN v t.1 t.2.1 t.2.2 ≤ gapL v l) ∧ (gapL v l = 0 ∨ ∃ t ∈ l, gapL v l = excN v t.1 t.2.1 t.2.2) := gap_from v l 0
theorem gapL_le {v : List Int} {l : List T3} {b : Int} (hb : 0 ≤ b) (h : ∀ t ∈ l, excN v t.1 t.2.1 t.2.2 ≤ b) : gapL v l ≤ b := by
  rcases (gapL_spec v l).2.2 with e | ⟨t, ht, e⟩
  · omega
  · have := h t ht; omega
def gapN (v : List Int) (N n : Nat) : Int := gapL v (allP N n)
def gapR (E : Int) (v : List Int) : Int := if isFn E v then gapN v E.toNat v.length else 0

/-! The other order: k below i. -/
def rowQ (s i k : Nat) : List T3 := ((List.range k).filter fun j => offB s i j).map fun j => (s, i, j)
def colQ (s i : Nat) : List T3 := (List.range i).flatMap fun j => rowQ s j j
def allQ (N s : Nat) : List T3 := (List.range s).flatMap fun t => colQ t N
theorem rowQ_snoc (s i k : Nat) : rowQ s i (k + 1) = rowQ s i k ++ (if offB s i k then [(s, i, k)] else []) := by
  unfold rowQ
  rw [List.range_succ, List.filter_append, List.map_append]
  cases hb : offB s i k <;> simp [hb]
theorem colQ_snoc (s i : Nat) : colQ s (i + 1) = colQ s i ++ rowQ s i i := by
  unfold colQ; rw [List.range_succ, List.flatMap_append]; simp
theorem allQ_snoc (N s : Nat) : allQ N (s + 1) = allQ N s ++ colQ s N := by
  unfold allQ; rw [List.range_succ, List.flatMap_append]; simp
theorem mem_allQ {N n : Nat} {t : T3} : t ∈ allQ N n ↔ t.1 < n ∧ t.2.2 < t.2.1 ∧ t.2.1 < N ∧ offB t.1 t.2.1 t.2.2 = true := by
  obtain ⟨a, b, c⟩ := t
  simp only [allQ, colQ, rowQ, List.mem_flatMap, List.mem_map, List.mem_filter, List.mem_range, Prod.mk.injEq]
  constructor
  · rintro ⟨s, hs, i, hi, j, ⟨h1, h2⟩, rfl, rfl, rfl⟩; exact ⟨hs, h1, hi, h2⟩
  · rintro ⟨h1, h2, h3, h4⟩; exact ⟨a, h1, b, h3, c, ⟨h2, h4⟩, rfl, rfl, rfl⟩
theorem offB_comm (s i k : Nat) : offB s i k = offB s k i := Bool.and_comm _ _
theorem gap_same (v : List Int) (N n : Nat) : gapL v (allQ N n) = gapN v N n := by
  apply Int.le_antisymm
  · refine gapL_le (gapL_spec _ _).1 fun t ht => ?_
    obtain ⟨h1, h2, h3, h4⟩ := mem_allQ.1 ht
    have := (gapL_spec v (allP N n)).2.1 (t.1, t.2.2, t.2.1) (mem_allP.2 ⟨h1, h2, h3, by rw [offB_comm]; exact h4⟩)
    rw [excN_comm]; exact this
  · refine gapL_le (gapL_spec _ _).1 fun t ht => ?_
    obtain ⟨h1, h2, h3, h4⟩ := mem_allP.1 ht
    have := (gapL_spec v (allQ N n)).2.1 (t.1, t.2.2, t.2.1) (mem_allQ.2 ⟨h1, h2, h3, by rw [offB_comm]; exact h4⟩)
    rw [excN_comm]; exact this
end Go.Proofs.Ytfmibekefllhjaa
namespace Go.Proofs.Ytfmibekefllhjaa
open Go.RowKit

theorem excess_any (E : Int) (A : Option Addr) (n c : Nat) (v : List Int) (s i k : Nat) (w : World) (hv : Ints w A n v) (hf : isFn E v = true) (hs : s < n) (hi : (i : Int) < E) (hk : (k : Int) < E) :
    Calls Try.prog 81 #[.agg #[.int .i64 E, .slice A n c], .int .i64 s, .int .i64 i, .int .i64 k] w fun e w' => e = .returned (.int .i64 (excN v s i k)) ∧ Below w.heap.size w w' := by
  obtain ⟨N, rfl, fo⟩ := FnOk.of hf hv
  obtain ⟨b, off, rfl, hb, hc⟩ := hv.all_ fo.n0
  have hN := fo.hN
  have n32 := fo.n32
  have n0 := fo.n0
  have j1 : w.heap.size ≠ b := by omega
  clear hf
  have hi' : i < N := by omega
  have hk' : k < N := by omega
  have h1 := fo.ins hs hi'
  have h2 := fo.ins hs hk'
  have h3 := fo.ins h1 hk'
  have g0 := fo.bd hs
  have g1 := fo.bd h1
  have g2 := fo.bd h2
  have g3 := fo.bd h3
  have hs10 : s < 1024 := by omega
  have hi10 : insN s i < 1024 := by omega
  have hk10 : insN s k < 1024 := by omega
  have hi40 : i ≤ 40 := by omega
  have hk40 : k ≤ 40 := by omega
  have eo := orN_ins s i k
  have x0 := hc _ hs
  have x1 := hc _ h1
  have x2 := hc _ h2
  have x3 := hc _ h3
  have i1 : (0 : Int) ≤ (s : Int) := by omega
  have i2 : (s : Int) < (n : Int) := by omega
  have i3 : (0 : Int) ≤ (insN s i : Int) := by omega
  have i4 : (insN s i : Int) < (n : Int) := by omega
  have i5 : (0 : Int) ≤ (insN s k : Int) := by omega
  have i6 : (insN s k : Int) < (n : Int) := by omega
  have i7 : (0 : Int) ≤ (insN (insN s i) k : Int) := by omega
  have i8 : (insN (insN s i) k : Int) < (n : Int) := by omega
  have t1 : IntKind.i64.wrap (gv v (insN (insN s i) k) + gv v s) = gv v (insN (insN s i) k) + gv v s := IntWalk.i64_in _ (by omega)
  have t2 : IntKind.i64.wrap (gv v (insN (insN s i) k) + gv v s - gv v (insN s i)) = gv v (insN (insN s i) k) + gv v s - gv v (insN s i) := IntWalk.i64_in _ (by omega)
  have t3 : IntKind.i64.wrap (gv v (insN (insN s i) k) + gv v s - gv v (insN s i) - gv v (insN s k)) = gv v (insN (insN s i) k) + gv v s - gv v (insN s i) - gv v (insN s k) := IntWalk.i64_in _ (by omega)
  clear hc
  go_enter Try.func81, Try.ntmps81
  go_wp2
  go_quiet (fail)
  clear t1 t2 t3
  go_wp2
  go_ret
  exact ⟨rfl, below_drewN ((Below.refl _ _).alloc (Nat.le_refl _) _) _⟩

/-- A block of one int. -/
def One (w : World) (b : Nat) (m : Int) : Prop := w.heap[b]? = some (.cells #[.int .i64 m] 3 (0, 0))
theorem One.cell {w : World} {b : Nat} {m : Int} (h : One w b m) : w.cell? ⟨b, 0, none⟩ = some (.int .i64 m) := by
  rw [cell_of_row w b 0 _ _ (0, 0) h]; rfl
theorem One.frozen {w : World} {b : Nat} {m : Int} (h : One w b m) : w.frozen? ⟨b, 0, none⟩ = false := frozen_of_row w b 0 _ _ h
theorem One.lt {w : World} {b : Nat} {m : Int} (h : One w b m) : b < w.heap.size := World.block_lt_of_cell? _ _ h.cell
theorem One.set_ {w : World} {b : Nat} {m : Int} (h : One w b m) (u : Int) : One (w.setCell ⟨b, 0, none⟩ (.int .i64 u)) b u := by
  unfold One at *
  simp [World.setCell, Array.getElem?_modify, h]
theorem One.below {w w' : World} {b B : Nat} {m : Int} (h : One w b m) (hb : Below B w w') (hB : b < B) : One w' b m := (hb.block b hB).trans h
theorem grown_of_below {w w' : World} (h : Below w.heap.size w w') (row : Option Nat) : w.grownBy w' row := ⟨h.os, h.tape, h.output, h.size, fun i hi _ => h.block i hi⟩
theorem grown_trans2 {a b c : World} {row : Option Nat} (h : a.grownBy b row) (k : b.grownBy c row) : a.grownBy c row :=
  ⟨k.os.trans h.os, k.tape.trans h.tape, k.output.trans h.output, Nat.le_trans h.size k.size, fun i hi hne => (k.block i (Nat.lt_of_lt_of_le hi h.size) hne).trans (h.block i hi hne)⟩
theorem grown_set2 {w wr : World} {g k : Nat} (h : w.grownBy wr (some g)) (u : Value) : w.grownBy (wr.setCell ⟨g, k, none⟩ u) (some g) :=
  ⟨h.os, h.tape, h.output, by simpa [World.setCell] using h.size, fun i hi hne => (Below.heap_setCell wr ⟨g, k, none⟩ u i (by
    rintro rfl
    exact hne rfl)).trans (h.block i hi hne)⟩
theorem grown_cell {w w' : World} {g b o : Nat} {x : Value} (h : w.grownBy w' (some g)) (hne : b ≠ g) (hb : b < w.heap.size) (hc : w.cell? ⟨b, o, none⟩ = some x) : w'.cell? ⟨b, o, none⟩ = some x := by
  rw [World.cell?_of_block (w := w) (h.block b hb (fun e => hne (by injection e)))]; exact hc
theorem Ints.grown {w w' : World} {g n : Nat} {A : Option Addr} {v : List Int} (hv : Ints w A n v) (h : w.grownBy w' (some g)) (hne : ∀ b off, A = some ⟨b, off, none⟩ → b ≠ g) : Ints w' A n v :=
  ⟨hv.1, hv.2.1, fun hn => by
    obtain ⟨b, off, rfl, hb, hc⟩ := hv.all_ hn
    exact ⟨b, off, rfl, fun j hj => grown_cell h (hne b off rfl) hb (hc j hj)⟩⟩

/-- Inside the visit: only the block bm (one int, m) has changed, and the visitor's own box stands. -/
def VP (w wr : World) (bm : Nat) (m E : Int) (A : Option Addr) (n c : Nat) : Prop :=
  w.grownBy wr (some bm) ∧ w.heap.size < wr.heap.size ∧ wr.cell? ⟨w.heap.size, 0, none⟩ = some (.int .i64 E) ∧ wr.cell? ⟨w.heap.size, 1, none⟩ = some (.slice A n c) ∧ One wr bm m
theorem VP.parts {w wr : World} {bm n c : Nat} {m E : Int} {A : Option Addr} (h : VP w wr bm m E A n c) :
  w.grownBy wr (some bm) ∧ w.heap.size < wr.heap.size ∧ wr.cell? ⟨w.heap.size, 0, none⟩ = some (.int .i64 E) ∧ wr.cell? ⟨w.heap.size, 1, none⟩ = some (.slice A n c) ∧ One wr bm m := h
theorem VP.start {w : World} {bm n c : Nat} {m E : Int} {A : Option Addr} (h : One w bm m) : VP w (w.alloc (.cells #[.int .i64 E, .slice A n c] 27)) bm m E A n c :=
  ⟨World.grownBy_alloc _ _ _, by simp, by rw [World.cell?_alloc_at _ _ _ _ rfl]; rfl, by rw [World.cell?_alloc_at _ _ _ _ rfl]; rfl, h.below ((Below.refl _ _).alloc (Nat.le_refl _) _) h.lt⟩
theorem VP.step {w wr w2 : World} {bm n c : Nat} {m m' E : Int} {A : Option Addr} (h : VP w wr bm m E A n c) (hb : bm < w.heap.size) (hg : wr.grownBy w2 (some bm)) (h1 : One w2 bm m') : VP w w2 bm m' E A n c :=
  ⟨grown_trans2 h.1 hg, Nat.lt_of_lt_of_le h.2.1 hg.size, grown_cell hg (by omega) h.2.1 h.2.2.1, grown_cell hg (by omega) h.2.1 h.2.2.2.1, h1⟩

end Go.Proofs.Ytfmibekefllhjaa
namespace Go.Proofs.Ytfmibekefllhjaa
open Go.RowKit

/-- No triple of the list exceeds. -/
def okL (v : List Int) (l : List T3) : Bool := l.all fun t => decide (excN v t.1 t.2.1 t.2.2 ≤ 0)
theorem okL_snoc (v : List Int) (l : List T3) (s i k : Nat) : okL v (l ++ [(s, i, k)]) = (okL v l && decide (excN v s i k ≤ 0)) := by
  unfold okL; simp
theorem okL_no {v : List Int} {N n s i k : Nat} (hs : s < n) (h1 : i < k) (h2 : k < N) (h3 : offB s i k = true) (he : ¬ excN v s i k ≤ 0) : okL v (allP N n) = false := by
  unfold okL
  rw [List.all_eq_false]
  exact ⟨(s, i, k), mem_allP.2 ⟨hs, h1, h2, h3⟩, by simpa using he⟩
def subB (E : Int) (v : List Int) : Bool := isFn E v && okL v (allP E.toNat v.length)
/-- A block of one row. -/
def OneS (w : World) (b : Nat) (V : Value) : Prop := w.heap[b]? = some (.cells #[V] 22 (0, 0))
theorem OneS.cell {w : World} {b : Nat} {V : Value} (h : OneS w b V) : w.cell? ⟨b, 0, none⟩ = some V := by
  unfold OneS at h; simp [World.cell?, h]
theorem OneS.frozen {w : World} {b : Nat} {V : Value} (h : OneS w b V) : w.frozen? ⟨b, 0, none⟩ = false := frozen_of_row w b 0 _ _ h
theorem OneS.lt {w : World} {b : Nat} {V : Value} (h : OneS w b V) : b < w.heap.size := World.block_lt_of_cell? _ _ h.cell
theorem OneS.set_ {w : World} {b : Nat} {V : Value} (h : OneS w b V) (u : Value) : OneS (w.setCell ⟨b, 0, none⟩ u) b u := by
  unfold OneS at *
  simp [World.setCell, Array.getElem?_modify, h]
theorem OneS.below {w w' : World} {b B : Nat} {V : Value} (h : OneS w b V) (hb : Below B w w') (hB : b < B) : OneS w' b V := (hb.block b hB).trans h

set_option maxHeartbeats 400000 in
theorem violFn_ok (E : Int) (A : Option Addr) (n c : Nat) (v : List Int) (s i k bo bf : Nat) (w : World) (hv : Ints w A n v) (hf : isFn E v = true) (hs : s < n) (hi : (i : Int) < E) (hk : (k : Int) < E)
    (ho : OneS w bo (.slice none 0 0)) (f0 : w.cell? ⟨bf, 0, none⟩ = some (.int .i64 E)) (f1 : w.cell? ⟨bf, 1, none⟩ = some (.slice A n c)) (hx : excN v s i k ≤ 0) :
    Calls Try.prog 80 #[.int .i64 s, .int .i64 i, .int .i64 k, .pointer (some ⟨bf, 0, none⟩), .pointer (some ⟨bo, 0, none⟩)] w fun e w' => e = .returned (.bool true) ∧ Below w.heap.size w w' := by
  go_enter Try.func80, Try.ntmps80
  go_wp2_with fail
  refine (excess_any E A n c v s i k _ hv hf hs hi hk).mono ?_
  rintro e w1 ⟨rfl, hb1⟩
  have m1 := (ho.below hb1 ho.lt).cell
  go_wp2
  go_ret
  exact ⟨rfl, hb1⟩
set_option maxHeartbeats 400000 in
theorem violFn_no (E : Int) (A : Option Addr) (n c : Nat) (v : List Int) (s i k bo bf : Nat) (w : World) (hv : Ints w A n v) (hf : isFn E v = true) (hs : s < n) (hi : (i : Int) < E) (hk : (k : Int) < E)
    (ho : OneS w bo (.slice none 0 0)) (f0 : w.cell? ⟨bf, 0, none⟩ = some (.int .i64 E)) (f1 : w.cell? ⟨bf, 1, none⟩ = some (.slice A n c)) (hx : ¬ excN v s i k ≤ 0) :
    Calls Try.prog 80 #[.int .i64 s, .int .i64 i, .int .i64 k, .pointer (some ⟨bf, 0, none⟩), .pointer (some ⟨bo, 0, none⟩)] w fun e w' => e = .returned (.bool false) ∧ w.grownBy w' (some bo) ∧ ∃ g, w'.cell? ⟨bo, 0, none⟩ = some (.slice (some g) 3 3) := by
  have hx' : 0 < excN v s i k := by omega
  have hlt := ho.lt
  go_enter Try.func80, Try.ntmps80
  go_wp2_with fail
  refine (excess_any E A n c v s i k _ hv hf hs hi hk).mono ?_
  rintro e w1 ⟨rfl, hb1⟩
  have h1 := ho.below hb1 hlt
  have m1 := h1.cell
  have mf := h1.frozen
  have hlt1 := h1.lt
  go_wp2
  go_ret
  have h2 := h1.set_ (.slice (some ⟨w1.heap.size, 0, none⟩) 3 3)
  have hg2 := grown_set2 (k := 0) (grown_of_below hb1 (some bo)) (.slice (some ⟨w1.heap.size, 0, none⟩) 3 3)
  exact ⟨rfl, grown_trans2 hg2 (grown_of_below ((Below.refl _ _).alloc (Nat.le_refl _) _) _), _, (h2.below ((Below.refl _ _).alloc (Nat.le_refl _) _) h2.lt).cell⟩
set_option maxHeartbeats 1000000 in
theorem visitViol_any (E : Int) (A : Option Addr) (n c : Nat) (v : List Int) (bo bf : Nat) (w : World) (hv : Ints w A n v) (hf : isFn E v = true)
    (hm : OneS w bo (.slice none 0 0)) (f0 : w.cell? ⟨bf, 0, none⟩ = some (.int .i64 E)) (f1 : w.cell? ⟨bf, 1, none⟩ = some (.slice A n c)) :
    Calls Try.prog 79 #[.agg #[.int .i64 E, .slice A n c], .func (.func 80) #[] #[.pointer (some ⟨bf, 0, none⟩), .pointer (some ⟨bo, 0, none⟩)]] w fun e w' => e = .returned (.tuple #[]) ∧
      ((okL v (allP E.toNat n) = true ∧ Below w.heap.size w w') ∨ (okL v (allP E.toNat n) = false ∧ w.grownBy w' (some bo) ∧ ∃ g, w'.cell? ⟨bo, 0, none⟩ = some (.slice (some g) 3 3))) := by
  have Hf := hide hf
  obtain ⟨N, rfl, fo⟩ := FnOk.of hf hv
  clear hf
  have hN := fo.hN
  have n32 := fo.n32
  have hbm := hm.lt
  have hbf := World.block_lt_of_cell? _ _ f0
  rw [Int.toNat_natCast]
  go_enter Try.func79, Try.ntmps79
  go_wp2
  go_loopw [10] (fun t wr => ∃ s : Nat, s ≤ n ∧ t = .int .i64 s ∧ okL v (allP N s) = true ∧ FB w wr N A n c) (fun t _ => n - (intOf t).toNat)
  case atStart => exact ⟨0, Nat.zero_le _, rfl, rfl, FB.start w N A n c⟩
  case round =>
    obtain ⟨s, hs, rfl, hall, hFBo⟩ := hrel
    obtain ⟨hg, hz, r0, r1⟩ := hFBo.parts
    have Hall := hide hall; clear hall
    by_cases hlt : s < n
    · have hs10 : s < 1024 := by omega
      go_wp2
      clear r0 r1
      go_loopw [15] (fun t wr => ∃ i : Nat, i ≤ N ∧ t = .int .i64 i ∧ okL v (allP N s ++ colP N s i) = true ∧ FB w wr N A n c) (fun t _ => N - (intOf t).toNat)
      case atStart => exact ⟨0, Nat.zero_le _, rfl, by simpa [colP] using Hall.out, hFBo⟩
      case round =>
        obtain ⟨i, hi, rfl, halli, hFBi⟩ := hrel
        obtain ⟨hgi, hzi, r0, r1⟩ := hFBi.parts
        have Halli := hide halli; clear halli
        by_cases hlti : i < N
        · go_wp2
          clear r0 r1
          go_loopw [6] (fun t wr => ∃ k : Nat, i < k ∧ k ≤ N ∧ t = .int .i64 k ∧ okL v (allP N s ++ colP N s i ++ rowP s i k) = true ∧ FB w wr N A n c) (fun t _ => N - (intOf t).toNat)
          case atStart => exact ⟨i + 1, by omega, by omega, by go_num, by rw [rowP_start, List.append_nil]; exact Halli.out, hFBi⟩
          case round =>
            obtain ⟨k, hk1, hk, rfl, hallk, hFBk⟩ := hrel
            obtain ⟨hgk, hzk, r0, r1⟩ := hFBk.parts
            have Hallk := hide hallk; clear hallk
            by_cases hltk : k < N
            · have hsn := hide (rowP_snoc (s := s) hk1)
              cases h1 : hasB s i
              · cases h2 : hasB s k
                · have e0 := (hgk.cell (p := ⟨bf, 0, none⟩) hbf).trans f0
                  have e1 := (hgk.cell (p := ⟨bf, 1, none⟩) hbf).trans f1
                  by_cases hx : excN v s i k ≤ 0
                  · have HG := hide (violFn_ok N A n c v s i k bo bf wr (hv.below hgk (Nat.le_refl _)) Hf.out hlt (by omega) (by omega) (hm.below hgk hbm) e0 e1 hx)
                    have hnx := hide (show okL v (allP N s ++ colP N s i ++ rowP s i (k + 1)) = true by rw [hsn.out, show offB s i k = true by simp [offB, h1, h2], if_pos rfl, ← List.append_assoc, okL_snoc, Hallk.out]; simpa using hx)
                    clear e0 e1
                    go_wp2_with fail
                    refine HG.out.mono ?_
                    rintro e w2 ⟨rfl, hb2⟩
                    go_wp2
                    go_roundw
                    case rel => exact ⟨k + 1, by omega, by omega, by go_num, hnx.out, hFBk.step hb2⟩
                    case measure => simp [intOf]; omega
                  · have HG := hide (violFn_no N A n c v s i k bo bf wr (hv.below hgk (Nat.le_refl _)) Hf.out hlt (by omega) (by omega) (hm.below hgk hbm) e0 e1 hx)
                    have hno := hide (okL_no (N := N) hlt hk1 hltk (show offB s i k = true by simp [offB, h1, h2]) hx)
                    clear e0 e1
                    go_wp2_with fail
                    refine HG.out.mono ?_
                    rintro e w2 ⟨rfl, hg2, hc2⟩
                    go_wp2
                    refine bodyPost_ret (results_none rfl _ _ _) rfl ?_
                    exact ⟨rfl, .inr ⟨hno.out, grown_trans2 (grown_of_below hgk _) hg2, hc2⟩⟩
                · have hnx := hide (show okL v (allP N s ++ colP N s i ++ rowP s i (k + 1)) = true by rw [hsn.out, show offB s i k = false by simp [offB, h2]]; simpa using Hallk.out)
                  go_wp2
                  go_roundw
                  case rel => exact ⟨k + 1, by omega, by omega, by go_num, hnx.out, hFBk⟩
                  case measure => simp [intOf]; omega
              · have hnx := hide (show okL v (allP N s ++ colP N s i ++ rowP s i (k + 1)) = true by rw [hsn.out, show offB s i k = false by simp [offB, h1]]; simpa using Hallk.out)
                go_wp2
                go_roundw
                case rel => exact ⟨k + 1, by omega, by omega, by go_num, hnx.out, hFBk⟩
                case measure => simp [intOf]; omega
            · obtain rfl : k = N := by omega
              have hnx := hide (show okL v (allP k s ++ colP k s (i + 1)) = true by rw [colP_snoc, ← List.append_assoc]; exact Hallk.out)
              go_wp2
              go_roundw
              case rel => exact ⟨i + 1, by omega, by go_num, hnx.out, hFBk⟩
              case measure => simp [intOf]; omega
        · obtain rfl : i = N := by omega
          have hnx := hide (show okL v (allP i (s + 1)) = true by rw [allP_snoc]; exact Halli.out)
          go_wp2
          go_roundw
          case rel => exact ⟨s + 1, by omega, by go_num, hnx.out, hFBi⟩
          case measure => simp [intOf]; omega
    · obtain rfl : s = n := by omega
      go_wp2
      go_end0
      exact ⟨rfl, .inl ⟨Hall.out, hg⟩⟩
def violB (E : Int) (v : List Int) : Bool := isFn E v && !okL v (allP E.toNat v.length)
theorem violationOf_any (E : Int) (A : Option Addr) (n c : Nat) (v : List Int) (w : World) (hv : Ints w A n v) :
    Calls Try.prog 76 #[.agg #[.int .i64 E, .slice A n c]] w fun e w' => (∃ V : Value, e = .returned (.tuple #[V, .bool (violB E v)])) ∧ Below w.heap.size w w' := by
  cases hf : isFn E v
  · have e0 : violB E v = false := by simp [violB, hf]
    rw [e0]; clear e0
    go_enter Try.func76, Try.ntmps76
    go_wp2_with fail
    refine (isFunction_any _ _ _ _ v _ (hv.alloc _)).mono ?_
    rintro e w1 ⟨rfl, hb1⟩
    rw [hf]
    go_wp2
    go_ret2
    exact ⟨⟨_, rfl⟩, ((FB.start w E A n c).step hb1).1⟩
  · have Hf := hide hf
    have hvl := hv.len
    have e0 : violB E v = !okL v (allP E.toNat n) := by simp [violB, hf, hvl]
    rw [e0]; clear e0 hf hvl
    have hmf : ∀ (fn : Fn) (first cap : Array Value) (w : World), (Instr.makeFunc fn first cap).run Try.prog w = .ok (.func fn first cap) w := fun _ _ _ _ => rfl
    go_enter Try.func76, Try.ntmps76
    go_wp2_with fail
    refine (isFunction_any _ _ _ _ v _ (hv.alloc _)).mono ?_
    rintro e w1 ⟨rfl, hb1⟩
    have hFB := (FB.start w E A n c).step hb1
    obtain ⟨hbel, hz, r0, r1⟩ := hFB.parts
    rw [Hf.out]
    have hB1 := (Below.refl w1.heap.size w1).alloc (Nat.le_refl _) (.cells #[.slice none 0 0] 22)
    have hG := visitViol_any E A n c v w1.heap.size w.heap.size (w1.alloc (.cells #[.slice none 0 0] 22)) ((hv.below hbel (Nat.le_refl _)).alloc _) Hf.out (heap_alloc_new w1 _) ((hB1.cell (p := ⟨w.heap.size, 0, none⟩) hz).trans r0) ((hB1.cell (p := ⟨w.heap.size, 1, none⟩) hz).trans r1)
    have HG := hide hG; clear hG
    go_wp2_with fail
    refine HG.out.mono ?_
    rintro e w2 ⟨rfl, ⟨hok, hb2⟩ | ⟨hok, hg2, g, hc2⟩⟩
    · have Hok := hide hok; clear hok
      have m2 := (hb2.cell (p := ⟨w1.heap.size, 0, none⟩) (by simp)).trans (OneS.cell (heap_alloc_new w1 _))
      go_wp2
      go_quiet (fail)
      go_wp2
      go_ret2
      exact ⟨⟨_, by rw [Hok.out]; rfl⟩, below_drewN (hbel.trans ((hB1.trans (hb2.mono (by simp))).mono hbel.size)) _⟩
    · have Hok := hide hok; clear hok
      go_wp2
      go_quiet (fail)
      go_wp2
      go_ret2
      exact ⟨⟨_, by rw [Hok.out]; rfl⟩, below_drewN ((hbel.alloc hbel.size _).grown hg2 (by simp; have := hbel.size; omega) (fun k hk => by injection hk with hk; have := hbel.size; omega)) _⟩
theorem isSubmodular_any (E : Int) (A : Option Addr) (n c : Nat) (v : List Int) (w : World) (hv : Ints w A n v) :
    Calls Try.prog 69 #[.agg #[.int .i64 E, .slice A n c]] w fun e w' => e = .returned (.bool (subB E v)) ∧ Below w.heap.size w w' := by
  have hF0 := FB.start w E A n c
  obtain ⟨hbel0, hz0, r0, r1⟩ := hF0.parts
  have HV := hide (violationOf_any E A n c v _ (hv.below hbel0 (Nat.le_refl _)))
  have hq : ∀ b, violB E v = b → isFn E v = true → subB E v = !b := by rintro b rfl hf; simp [violB, subB, hf]
  have hn : isFn E v = false → subB E v = false := by intro hf; simp [subB, hf]
  cases hf : isFn E v
  · have e0 := hide (hn hf)
    clear hq hn
    go_enter Try.func69, Try.ntmps69
    go_wp2_with fail
    refine HV.out.mono ?_
    rintro e w1 ⟨⟨V, rfl⟩, hb1⟩
    have hF1 := hF0.step hb1
    clear r0 r1
    obtain ⟨hbel1, hz1, r0, r1⟩ := hF1.parts
    go_wp2_with fail
    refine (isFunction_any _ _ _ _ v _ (hv.below hbel1 (Nat.le_refl _))).mono ?_
    rintro e w2 ⟨rfl, hb2⟩
    rw [hf]
    go_wp2
    go_ret
    exact ⟨by rw [e0.out]; rfl, (hF1.step hb2).1⟩
  cases hv2 : violB E v
  all_goals
    have e0 := hide (hq _ hv2 hf)
    clear hq hn
    rw [hv2] at HV
    go_enter Try.func69, Try.ntmps69
    go_wp2_with fail
    refine HV.out.mono ?_
    rintro e w1 ⟨⟨V, rfl⟩, hb1⟩
    have hF1 := hF0.step hb1
    clear r0 r1
    obtain ⟨hbel1, hz1, r0, r1⟩ := hF1.parts
    go_wp2_with fail
    refine (isFunction_any _ _ _ _ v _ (hv.below hbel1 (Nat.le_refl _))).mono ?_
    rintro e w2 ⟨rfl, hb2⟩
    rw [hf]
    go_wp2
    go_ret
    exact ⟨by rw [e0.out]; rfl, (hF1.step hb2).1⟩
theorem l3Bad_any (N : Nat) (A : Option Addr) (n c : Nat) (v : List Int) (s i k : Nat) (w : World) (hv : Ints w A n v) (fo : FnOk N n v) (hs : s < n) (hi' : i < N) (hk' : k < N) :
    Calls Try.prog 78 #[.slice A n c, .int .i64 s, .int .i64 i, .int .i64 k] w fun e w' => e = .returned (.bool (!decide (excN v s i k ≤ 0))) ∧ ∃ m, w' = w.drewN m := by
  obtain ⟨b, off, rfl, hb, hc⟩ := hv.all_ fo.n0
  have hN := fo.hN
  have n32 := fo.n32
  have h1 := fo.ins hs hi'
  have h2 := fo.ins hs hk'
  have h3 := fo.ins h1 hk'
  have g0 := fo.bd hs
  have g1 := fo.bd h1
  have g2 := fo.bd h2
  have g3 := fo.bd h3
  have hs10 : s < 1024 := by omega
  have hi10 : insN s i < 1024 := by omega
  have hi40 : i ≤ 40 := by omega
  have hk40 : k ≤ 40 := by omega
  have x0 := hc _ hs
  have x1 := hc _ h1
  have x2 := hc _ h2
  have x3 := hc _ h3
  have i1 : (0 : Int) ≤ (s : Int) := by omega
  have i2 : (s : Int) < (n : Int) := by omega
  have i3 : (0 : Int) ≤ (insN s i : Int) := by omega
  have i4 : (insN s i : Int) < (n : Int) := by omega
  have i5 : (0 : Int) ≤ (insN s k : Int) := by omega
  have i6 : (insN s k : Int) < (n : Int) := by omega
  have i7 : (0 : Int) ≤ (insN (insN s i) k : Int) := by omega
  have i8 : (insN (insN s i) k : Int) < (n : Int) := by omega
  have t1 : IntKind.i64.wrap (gv v (insN (insN s i) k) + gv v s) = gv v (insN (insN s i) k) + gv v s := IntWalk.i64_in _ (by omega)
  have t2 : IntKind.i64.wrap (gv v (insN s i) + gv v (insN s k)) = gv v (insN s i) + gv v (insN s k) := IntWalk.i64_in _ (by omega)
  clear hc
  go_enter Try.func78, Try.ntmps78
  go_wp2
  go_quiet (fail)
  clear t1 t2
  go_wp2
  go_ret
  exact ⟨ret_bool (by rw [Bool.eq_iff_iff]; simp only [decide_eq_true_eq, Bool.not_eq_true', decide_eq_false_iff_not]; unfold excN; omega), _, rfl⟩
set_option maxHeartbeats 1000000 in
theorem specViolationOf_any (E : Int) (A : Option Addr) (n c : Nat) (v : List Int) (w : World) (hv : Ints w A n v) :
    Calls Try.prog 75 #[.agg #[.int .i64 E, .slice A n c]] w fun e w' => (∃ V : Value, e = .returned (.tuple #[V, .bool (violB E v)])) ∧ Below w.heap.size w w' := by
  have hF0 := FB.start w E A n c
  cases hf : isFn E v
  · have e0 : violB E v = false := by simp [violB, hf]
    rw [e0]; clear e0
    go_enter Try.func75, Try.ntmps75
    go_wp2
    go_loopw [4] (fun i wr => i = .int .i64 0 ∧ FB w wr E A n c) (fun _ _ => 0)
    case atStart => exact ⟨rfl, hF0⟩
    case round =>
      obtain ⟨rfl, hFBr⟩ := hrel
      obtain ⟨hbelr, hzr, r0, r1⟩ := hFBr.parts
      go_wp2_with fail
      refine (specIsFunction_any _ _ _ _ v _ (hv.below hbelr (Nat.le_refl _))).mono ?_
      rintro e w1 ⟨rfl, hb1⟩
      rw [hf]
      have hFB1 := hFBr.step hb1
      go_wp2
      go_ret2
      exact ⟨⟨_, rfl⟩, (hFB1.step ((Below.refl _ _).alloc (Nat.le_refl _) _)).1⟩
  · have Hf := hide hf
    have hvl := hv.len
    have e0 : violB E v = !okL v (allP E.toNat n) := by simp [violB, hf, hvl]
    rw [e0]; clear e0 hf hvl
    obtain ⟨N, rfl, fo⟩ := FnOk.of Hf.out hv
    have hN := fo.hN
    have n32 := fo.n32
    rw [Int.toNat_natCast]
    go_enter Try.func75, Try.ntmps75
    go_wp2
    go_loopw [4] (fun t wr => ∃ s : Nat, s ≤ n ∧ t = .int .i64 s ∧ okL v (allP N s) = true ∧ FB w wr N A n c) (fun t _ => n - (intOf t).toNat)
    case atStart => exact ⟨0, Nat.zero_le _, rfl, rfl, hF0⟩
    case round =>
      obtain ⟨s, hs, rfl, hall, hFBo⟩ := hrel
      have Hall := hide hall; clear hall
      obtain ⟨hbelo, hzo, r0, r1⟩ := hFBo.parts
      go_wp2_with fail
      refine (specIsFunction_any _ _ _ _ v _ (hv.below hbelo (Nat.le_refl _))).mono ?_
      rintro e w1 ⟨rfl, hb1⟩
      rw [Hf.out]
      have hFB1 := hFBo.step hb1
      clear r0 r1
      obtain ⟨hbel1, hz1, r0, r1⟩ := hFB1.parts
      by_cases hlt : s < n
      · have hs10 : s < 1024 := by omega
        go_wp2
        clear r0 r1
        go_loopw [5] (fun t wr => ∃ i : Nat, i ≤ N ∧ t = .int .i64 i ∧ okL v (allP N s ++ colP N s i) = true ∧ FB w wr N A n c) (fun t _ => N - (intOf t).toNat)
        case atStart => exact ⟨0, Nat.zero_le _, rfl, by simpa [colP] using Hall.out, hFB1⟩
        case round =>
          obtain ⟨i, hi, rfl, halli, hFBi⟩ := hrel
          obtain ⟨hgi, hzi, r0, r1⟩ := hFBi.parts
          have Halli := hide halli; clear halli
          by_cases hlti : i < N
          · go_wp2
            clear r0 r1
            go_loopw [6] (fun t wr => ∃ k : Nat, i < k ∧ k ≤ N ∧ t = .int .i64 k ∧ okL v (allP N s ++ colP N s i ++ rowP s i k) = true ∧ FB w wr N A n c) (fun t _ => N - (intOf t).toNat)
            case atStart => exact ⟨i + 1, by omega, by omega, by go_num, by rw [rowP_start, List.append_nil]; exact Halli.out, hFBi⟩
            case round =>
              obtain ⟨k, hk1, hk, rfl, hallk, hFBk⟩ := hrel
              obtain ⟨hgk, hzk, r0, r1⟩ := hFBk.parts
              have Hallk := hide hallk; clear hallk
              by_cases hltk : k < N
              · have hsn := hide (rowP_snoc (s := s) hk1)
                cases h1 : hasB s i
                · cases h2 : hasB s k
                  · have hG := l3Bad_any N A n c v s i k wr (hv.below hgk (Nat.le_refl _)) fo hlt hlti hltk
                    by_cases hx : excN v s i k ≤ 0
                    · have hnx := hide (show okL v (allP N s ++ colP N s i ++ rowP s i (k + 1)) = true by rw [hsn.out, show offB s i k = true by simp [offB, h1, h2], if_pos rfl, ← List.append_assoc, okL_snoc, Hallk.out]; simpa using hx)
                      rw [show (!decide (excN v s i k ≤ 0)) = false by simp [hx]] at hG
                      have HG := hide hG; clear hG hx
                      go_wp2_with fail
                      refine HG.out.mono ?_
                      rintro e w2 ⟨rfl, m, rfl⟩
                      go_wp2
                      go_roundw
                      case rel => exact ⟨k + 1, by omega, by omega, by go_num, hnx.out, hFBk.drewN _⟩
                      case measure => simp [intOf]; omega
                    · have hno := hide (okL_no (N := N) hlt hk1 hltk (show offB s i k = true by simp [offB, h1, h2]) hx)
                      rw [show (!decide (excN v s i k ≤ 0)) = true by simp; omega] at hG
                      have HG := hide hG; clear hG hx
                      go_wp2_with fail
                      refine HG.out.mono ?_
                      rintro e w2 ⟨rfl, m, rfl⟩
                      go_wp2
                      go_ret2
                      exact ⟨⟨_, by rw [hno.out]; rfl⟩, ((hFBk.drewN m).step ((Below.refl _ _).alloc (Nat.le_refl _) _)).1⟩
                  · have hnx := hide (show okL v (allP N s ++ colP N s i ++ rowP s i (k + 1)) = true by rw [hsn.out, show offB s i k = false by simp [offB, h2]]; simpa using Hallk.out)
                    go_wp2
                    go_roundw
                    case rel => exact ⟨k + 1, by omega, by omega, by go_num, hnx.out, hFBk⟩
                    case measure => simp [intOf]; omega
                · have hnx := hide (show okL v (allP N s ++ colP N s i ++ rowP s i (k + 1)) = true by rw [hsn.out, show offB s i k = false by simp [offB, h1]]; simpa using Hallk.out)
                  go_wp2
                  go_roundw
                  case rel => exact ⟨k + 1, by omega, by omega, by go_num, hnx.out, hFBk⟩
                  case measure => simp [intOf]; omega
              · obtain rfl : k = N := by omega
                have hnx := hide (show okL v (allP k s ++ colP k s (i + 1)) = true by rw [colP_snoc, ← List.append_assoc]; exact Hallk.out)
                go_wp2
                go_roundw
                case rel => exact ⟨i + 1, by omega, by go_num, hnx.out, hFBk⟩
                case measure => simp [intOf]; omega
          · obtain rfl : i = N := by omega
            have hnx := hide (show okL v (allP i (s + 1)) = true by rw [allP_snoc]; exact Halli.out)
            go_wp2
            go_roundw
            case rel => exact ⟨s + 1, by omega, by go_num, hnx.out, hFBi⟩
            case measure => simp [intOf]; omega
      · obtain rfl : s = n := by omega
        go_wp2
        go_ret2
        exact ⟨⟨_, by rw [Hall.out]; rfl⟩, (hFB1.step ((Below.refl _ _).alloc (Nat.le_refl _) _)).1⟩
theorem specIsSubmodular_any (E : Int) (A : Option Addr) (n c : Nat) (v : List Int) (w : World) (hv : Ints w A n v) :
    Calls Try.prog 68 #[.agg #[.int .i64 E, .slice A n c]] w fun e w' => e = .returned (.bool (subB E v)) ∧ Below w.heap.size w w' := by
  have hF0 := FB.start w E A n c
  obtain ⟨hbel0, hz0, r0, r1⟩ := hF0.parts
  have HV := hide (specViolationOf_any E A n c v _ (hv.below hbel0 (Nat.le_refl _)))
  have hq : ∀ b, violB E v = b → isFn E v = true → subB E v = !b := by rintro b rfl hf; simp [violB, subB, hf]
  have hn : isFn E v = false → subB E v = false := by intro hf; simp [subB, hf]
  cases hf : isFn E v
  · have e0 := hide (hn hf)
    clear hq hn
    go_enter Try.func68, Try.ntmps68
    go_wp2_with fail
    refine HV.out.mono ?_
    rintro e w1 ⟨⟨V, rfl⟩, hb1⟩
    have hF1 := hF0.step hb1
    clear r0 r1
    obtain ⟨hbel1, hz1, r0, r1⟩ := hF1.parts
    go_wp2_with fail
    refine (specIsFunction_any _ _ _ _ v _ (hv.below hbel1 (Nat.le_refl _))).mono ?_
    rintro e w2 ⟨rfl, hb2⟩
    rw [hf]
    go_wp2
    go_ret
    exact ⟨by rw [e0.out]; rfl, (hF1.step hb2).1⟩
  cases hv2 : violB E v
  all_goals
    have e0 := hide (hq _ hv2 hf)
    clear hq hn
    rw [hv2] at HV
    go_enter Try.func68, Try.ntmps68
    go_wp2_with fail
    refine HV.out.mono ?_
    rintro e w1 ⟨⟨V, rfl⟩, hb1⟩
    have hF1 := hF0.step hb1
    clear r0 r1
    obtain ⟨hbel1, hz1, r0, r1⟩ := hF1.parts
    go_wp2_with fail
    refine (specIsFunction_any _ _ _ _ v _ (hv.below hbel1 (Nat.le_refl _))).mono ?_
    rintro e w2 ⟨rfl, hb2⟩
    rw [hf]
    go_wp2
    go_ret
    exact ⟨by rw [e0.out]; rfl, (hF1.step hb2).1⟩
end Go.Proofs.Ytfmibekefllhjaa
namespace Go.Proofs.Ytfmibekefllhjaa
open Go.RowKit

/-- No element takes anything off the sets below s. -/
def okI (v : List Int) (N s : Nat) : Bool := decide (∀ t, t < s → ∀ e, e < N → 0 ≤ gainN v t e)
def colI (v : List Int) (s e : Nat) : Bool := decide (∀ j, j < e → 0 ≤ gainN v s j)
def incB (E : Int) (v : List Int) : Bool := isFn E v && okI v E.toNat v.length
theorem okI_zero (v : List Int) (N : Nat) : okI v N 0 = true := by simp [okI]
theorem colI_zero (v : List Int) (s : Nat) : colI v s 0 = true := by simp [colI]
theorem okI_step {v : List Int} {N s : Nat} (h : okI v N s = true) (h2 : colI v s N = true) : okI v N (s + 1) = true := by
  simp only [okI, colI, decide_eq_true_eq] at *
  intro t ht e he
  by_cases h3 : t = s
  · subst h3; exact h2 e he
  · exact h t (by omega) e he
theorem colI_step {v : List Int} {s e : Nat} (h : colI v s e = true) (h2 : ¬ gainN v s e < 0) : colI v s (e + 1) = true := by
  simp only [colI, decide_eq_true_eq] at *
  intro j hj
  by_cases h3 : j = e
  · subst h3; omega
  · exact h j (by omega)
theorem inc_no {v : List Int} {N n s e : Nat} (hs : s < n) (he : e < N) (h : gainN v s e < 0) : okI v N n = false := by
  simp only [okI, decide_eq_false_iff_not]
  intro hall
  have := hall s hs e he
  omega
theorem inc_gain {E : Int} {v : List Int} (h : incB E v = true) : isFn E v = true ∧ ∀ s, s < v.length → ∀ e : Nat, (e : Int) < E → 0 ≤ gainN v s e := by
  simp only [incB, okI, Bool.and_eq_true, decide_eq_true_eq] at h
  exact ⟨h.1, fun s hs e he => h.2 s hs e (by omega)⟩

def polyB (E : Int) (v : List Int) : Bool := grdB E v && (incB E v && subB E v)
end Go.Proofs.Ytfmibekefllhjaa
