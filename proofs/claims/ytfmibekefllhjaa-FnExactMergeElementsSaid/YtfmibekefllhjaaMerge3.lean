/-
  Walks: elements merged, by the program.
-/
import Derived.Test.YtfmibekefllhjaaMerge2
import Derived.OneCell
import Derived.Deep.RegionHeld3
namespace Go.Proofs.Ytfmibekefllhjaa
open Go.RowKit

def BX (w W : World) (N : Int) (A : Option Addr) (n c : Nat) (a b : Int) : Prop := FB w W N A n c ∧ W.cell? ⟨w.heap.size + 1, 0, none⟩ = some (.int .i64 a) ∧ W.cell? ⟨w.heap.size + 1 + 1, 0, none⟩ = some (.int .i64 b) ∧ Two W (w.heap.size + 1 + 1 + 1) (.int .i64 0) (.slice none 0 0)
theorem BX.step {w W W' : World} {N : Int} {A : Option Addr} {n c : Nat} {a b : Int} (h : BX w W N A n c a b) (hb : Below W.heap.size W W') : BX w W' N A n c a b :=
  ⟨h.1.step hb, (hb.cell (p := ⟨w.heap.size + 1, 0, none⟩) (World.block_lt_of_cell? _ _ h.2.1)).trans h.2.1, (hb.cell (p := ⟨w.heap.size + 1 + 1, 0, none⟩) (World.block_lt_of_cell? _ _ h.2.2.1)).trans h.2.2.1, h.2.2.2.below hb h.2.2.2.lt⟩
theorem BX.drew {w W : World} {N : Int} {A : Option Addr} {n c : Nat} {a b : Int} (h : BX w W N A n c a b) : BX w W.drew N A n c a b := ⟨h.1.drew, h.2⟩
theorem BX.set {w W : World} {N : Int} {A : Option Addr} {n c : Nat} {a b : Int} (h : BX w W N A n c a b) {X : Nat} (hX : w.heap.size + 3 < X) (u : Value) : BX w (W.setCell ⟨X, 0, none⟩ u) N A n c a b := by
  have hb := (Below.refl X W).setCell (p := ⟨X, 0, none⟩) (Nat.le_refl _) u
  obtain ⟨⟨h1, h2, h3, h4⟩, h5, h6, h7⟩ := h
  exact ⟨⟨h1.setCell (by simp; omega) u, Nat.lt_of_lt_of_le h2 hb.size, (hb.cell (p := ⟨w.heap.size, 0, none⟩) (by simp; omega)).trans h3, (hb.cell (p := ⟨w.heap.size, 1, none⟩) (by simp; omega)).trans h4⟩, (hb.cell (p := ⟨w.heap.size + 1, 0, none⟩) (by simp; omega)).trans h5, (hb.cell (p := ⟨w.heap.size + 1 + 1, 0, none⟩) (by simp; omega)).trans h6, h7.below hb (by omega)⟩
theorem BX.held {w W : World} {N : Int} {A : Option Addr} {n c : Nat} {a b : Int} (h : BX w W N A n c a b) : W.cell? ⟨w.heap.size, 0, none⟩ = some (.int .i64 N) ∧ W.cell? ⟨w.heap.size, 1, none⟩ = some (.slice A n c) ∧ W.cell? ⟨w.heap.size + 1 + 1, 0, none⟩ = some (.int .i64 b) := ⟨h.1.2.2.1, h.1.2.2.2, h.2.2.1⟩
theorem BX.lt {w W : World} {N : Int} {A : Option Addr} {n c : Nat} {a b : Int} (h : BX w W N A n c a b) : w.heap.size + 3 < W.heap.size := h.2.2.2.lt
theorem bx_start (w : World) (N : Int) (A : Option Addr) (n c : Nat) (a b : Int) : BX w ((((w.alloc (.cells #[.int .i64 N, .slice A n c] 27)).alloc (.cells #[.int .i64 a] 3)).alloc (.cells #[.int .i64 b] 3)).alloc (.cells #[.int .i64 0, .slice none 0 0] 27)) N A n c a b := by
  have z1 : (w.alloc (.cells #[.int .i64 N, .slice A n c] 27)).heap.size = w.heap.size + 1 := by simp
  have z2 : ((w.alloc (.cells #[.int .i64 N, .slice A n c] 27)).alloc (.cells #[.int .i64 a] 3)).heap.size = w.heap.size + 1 + 1 := by simp
  have z3 : (((w.alloc (.cells #[.int .i64 N, .slice A n c] 27)).alloc (.cells #[.int .i64 a] 3)).alloc (.cells #[.int .i64 b] 3)).heap.size = w.heap.size + 1 + 1 + 1 := by simp
  refine ⟨(((FB.start w N A n c).step ((Below.refl _ _).alloc (Nat.le_refl _) _)).step ((Below.refl _ _).alloc (Nat.le_refl _) _)).step ((Below.refl _ _).alloc (Nat.le_refl _) _), ?_, ?_, ?_⟩
  · rw [World.cell?_alloc_lt _ _ _ (by rw [z3]; simp), World.cell?_alloc_lt _ _ _ (by rw [z2]; simp)]
    have h := cell_new (w.alloc (.cells #[.int .i64 N, .slice A n c] 27)) a
    rwa [z1] at h
  · rw [World.cell?_alloc_lt _ _ _ (by rw [z3]; simp)]
    have h := cell_new ((w.alloc (.cells #[.int .i64 N, .slice A n c] 27)).alloc (.cells #[.int .i64 a] 3)) b
    rwa [z2] at h
  · have h : Two _ _ _ _ := heap_alloc_new (((w.alloc (.cells #[.int .i64 N, .slice A n c] 27)).alloc (.cells #[.int .i64 a] 3)).alloc (.cells #[.int .i64 b] 3)) (.cells #[.int .i64 0, .slice none 0 0] 27)
    rwa [z3] at h
def mgOk (E : Int) (v : List Int) (a b : Int) : Bool := isFn E v && (inR a 0 (E - 1) && (inR b 0 (E - 1) && !decide (a = b)))
def mgV (v : List Int) (a b s : Nat) : Int := gv v (mrgI (eltL (v.length - 1 - p2 b)) a b s)
def mgE (E : Int) (v : List Int) (a b : Int) : Int := if mgOk E v a b then E - 1 else 0
def mgL (E : Int) (v : List Int) (a b : Int) : List Int := if mgOk E v a b then valL (mgV v a.toNat b.toNat) (2 ^ (E.toNat - 1)) else []
theorem elt_count : ∀ N : Fin 6, ∀ b : Fin 5, b.val < N.val → (eltL (2 ^ N.val - 1 - 2 ^ b.val)).length = N.val - 1 := by decide +kernel
theorem elt_in : ∀ N : Fin 6, ∀ b : Fin 5, b.val < N.val → 2 ^ N.val - 1 - 2 ^ b.val < 2 ^ N.val := by decide +kernel
theorem mrg_lt {N n b a x : Nat} {v : List Int} (fo : FnOk N n v) (hb : b < N) : mrgI (eltL (n - 1 - p2 b)) a b x < n := by
  have hN := fo.hN
  have h1 : ∀ j, j < (eltL (n - 1 - p2 b)).length → (gv (eltL (n - 1 - p2 b)) j).toNat < N := by
    intro j hj
    obtain ⟨q, h1, h2, h3⟩ := eltT_mem (n - 1 - p2 b) 5 _ (gv_mem hj)
    have h4 : n - 1 - p2 b < 2 ^ N := by rw [fo.hn]; exact elt_in ⟨N, by omega⟩ ⟨b, by omega⟩ hb
    have h5 : q < N := by
      by_cases h6 : q < N
      · exact h6
      · have := Nat.testBit_lt_two_pow (Nat.lt_of_lt_of_le h4 (Nat.pow_le_pow_right (by omega) (by omega : N ≤ q)))
        unfold hasB at h3
        rw [this] at h3; cases h3
    have h7 : gv (eltL (n - 1 - p2 b)) j = (q : Int) := h1
    omega
  have h2 := sprT_lt (L := eltL (n - 1 - p2 b)) (x := x) h1 _ (Nat.le_refl _)
  rw [← fo.hn] at h2
  unfold mrgI
  split
  · exact fo.ins h2 hb
  · exact h2
theorem elt_lt {N n b : Nat} {v : List Int} (fo : FnOk N n v) (hb : b < N) : ∀ j, j < (eltL (n - 1 - p2 b)).length → ∃ q : Nat, gv (eltL (n - 1 - p2 b)) j = (q : Int) ∧ q < N := by
  intro j hj
  obtain ⟨q, h1, h2, h3⟩ := eltT_mem (n - 1 - p2 b) 5 _ (gv_mem hj)
  have hN := fo.hN
  have h4 : n - 1 - p2 b < 2 ^ N := by rw [fo.hn]; exact elt_in ⟨N, by omega⟩ ⟨b, by omega⟩ hb
  refine ⟨q, h1, ?_⟩
  by_cases h6 : q < N
  · exact h6
  · have := Nat.testBit_lt_two_pow (Nat.lt_of_lt_of_le h4 (Nat.pow_le_pow_right (by omega) (by omega : N ≤ q)))
    unfold hasB at h3
    rw [this] at h3; cases h3
theorem mg_fn {N n a b : Nat} {v : List Int} (fo : FnOk N n v) (hb : b < N) : isFn ((N - 1 : Nat) : Int) (valL (mgV v a b) (2 ^ (N - 1))) = true := by
  have hN := fo.hN
  have hl := fo.hl
  simp only [isFn, Bool.and_eq_true, decide_eq_true_eq]
  refine ⟨by simp [inR]; omega, by rw [valL_len, Int.toNat_natCast]; rfl, ?_⟩
  unfold allIn valL
  rw [List.all_eq_true]
  intro x hx
  simp only [List.mem_map, List.mem_range] at hx
  obtain ⟨s, hs, rfl⟩ := hx
  have := allIn_gv (v := v) (k := mrgI (eltL (v.length - 1 - p2 b)) a b s) (by rw [hl]; exact mrg_lt fo hb) fo.ha
  exact decide_eq_true this
set_option maxHeartbeats 4000000 in
theorem mergeElements_any (E : Int) (A : Option Addr) (n c : Nat) (v : List Int) (a b : Int) (w : World) (hv : Ints w A n v) :
    Calls Try.prog 16 #[.agg #[.int .i64 E, .slice A n c], .int .i64 a, .int .i64 b] w fun e w' => ∃ B r cr, e = .returned (.tuple #[.agg #[.int .i64 (mgE E v a b), .slice B r cr], .bool (mgOk E v a b)]) ∧ Own w' w.heap.size B r cr (mgL E v a b) ∧ r ≤ 1048576 ∧ Below w.heap.size w w' := by
  have hX0 := bx_start w E A n c a b
  obtain ⟨hbel0, hz0, r0, r1⟩ := hX0.1.parts
  have hcall := isFunction_any E A n c v _ (hv.below hbel0 (Nat.le_refl _))
  cases hf : isFn E v
  · have e2 : mgOk E v a b = false := by simp [mgOk, hf]
    have e0 : mgL E v a b = [] := by simp [mgL, e2]
    have e1 : mgE E v a b = 0 := by simp [mgE, e2]
    rw [e2, e0, e1]; clear e0 e1 e2
    rw [hf] at hcall
    have HC := hide hcall; clear hcall
    go_enter Try.func16, Try.ntmps16
    go_wp2_with fail
    refine HC.out.mono ?_
    rintro e w1 ⟨rfl, hb1⟩
    have hX1 := hX0.step hb1
    have t1 := hX1.2.2.2
    have a0 := t1.cell0
    have a1 := t1.cell1
    have a2 := t1.frozen0
    have a3 := t1.frozen
    have y := (t1.set0 (.int .i64 0)).set1 (.slice none 0 0)
    have y0 := y.cell0
    have y1 := y.cell1
    go_wp2
    refine bodyPost_ret (v := .tuple #[.agg #[.int .i64 0, .slice none 0 0], .bool false]) (by simp [results, Try.results16, go_sem, y0, y1]) rfl ⟨none, 0, 0, rfl, own_nil _ _, by omega, ?_⟩
    exact (hX1.1.1.setCell (by simp; omega) _).setCell (by simp; omega) _
  rw [hf] at hcall
  have HC := hide hcall; clear hcall
  obtain ⟨N, rfl, fo⟩ := FnOk.of hf hv
  have hN := fo.hN
  have hw1 : IntKind.i64.wrap ((N : Int) - 1) = (N : Int) - 1 := IntWalk.i64_in _ (by omega)
  cases hia : inR a 0 ((N : Int) - 1)
  · have e2 : mgOk N v a b = false := by simp [mgOk, hia]
    have e0 : mgL N v a b = [] := by simp [mgL, e2]
    have e1 : mgE N v a b = 0 := by simp [mgE, e2]
    rw [e2, e0, e1]; clear e0 e1 e2
    clear r0 r1
    go_enter Try.func16, Try.ntmps16
    go_wp2_with fail
    refine HC.out.mono ?_
    rintro e w1 ⟨rfl, hb1⟩
    have hX1 := hX0.step hb1
    obtain ⟨hbel1, hz1, r0, r1⟩ := hX1.1.parts
    have ca := hX1.2.1
    have cb := hX1.2.2.1
    go_wp2_with fail
    refine (isElement_any _ _ _).mono ?_
    rintro e w2 ⟨rfl, rfl⟩
    rw [hia]
    clear ca cb r0 r1
    have t1 := hX1.2.2.2
    have a0 := t1.cell0
    have a1 := t1.cell1
    have a2 := t1.frozen0
    have a3 := t1.frozen
    have y := (t1.set0 (.int .i64 0)).set1 (.slice none 0 0)
    have y0 := y.cell0
    have y1 := y.cell1
    go_wp2
    refine bodyPost_ret (v := .tuple #[.agg #[.int .i64 0, .slice none 0 0], .bool false]) (by simp [results, Try.results16, go_sem, y0, y1]) rfl ⟨none, 0, 0, rfl, own_nil _ _, by omega, ?_⟩
    exact (hX1.1.1.setCell (by simp; omega) _).setCell (by simp; omega) _
  have Hia := hide hia
  cases hib : inR b 0 ((N : Int) - 1)
  · have e2 : mgOk N v a b = false := by simp [mgOk, hib]
    have e0 : mgL N v a b = [] := by simp [mgL, e2]
    have e1 : mgE N v a b = 0 := by simp [mgE, e2]
    rw [e2, e0, e1]; clear e0 e1 e2
    clear r0 r1
    go_enter Try.func16, Try.ntmps16
    go_wp2_with fail
    refine HC.out.mono ?_
    rintro e w1 ⟨rfl, hb1⟩
    have hX1 := hX0.step hb1
    obtain ⟨hbel1, hz1, r0, r1⟩ := hX1.1.parts
    have ca := hX1.2.1
    have cb := hX1.2.2.1
    go_wp2_with fail
    refine (isElement_any _ _ _).mono ?_
    rintro e w2 ⟨rfl, rfl⟩
    rw [hia]
    go_wp2_with fail
    refine (isElement_any _ _ _).mono ?_
    rintro e w2 ⟨rfl, rfl⟩
    rw [hib]
    clear ca cb r0 r1
    have t1 := hX1.2.2.2
    have a0 := t1.cell0
    have a1 := t1.cell1
    have a2 := t1.frozen0
    have a3 := t1.frozen
    have y := (t1.set0 (.int .i64 0)).set1 (.slice none 0 0)
    have y0 := y.cell0
    have y1 := y.cell1
    go_wp2
    refine bodyPost_ret (v := .tuple #[.agg #[.int .i64 0, .slice none 0 0], .bool false]) (by simp [results, Try.results16, go_sem, y0, y1]) rfl ⟨none, 0, 0, rfl, own_nil _ _, by omega, ?_⟩
    exact (hX1.1.1.setCell (by simp; omega) _).setCell (by simp; omega) _
  have Hib := hide hib
  by_cases hab : a = b
  case pos =>
    have e3 : (a == b) = true := by simp [hab]
    have e2 : mgOk N v a b = false := by simp [mgOk, hab]
    have e0 : mgL N v a b = [] := by simp [mgL, e2]
    have e1 : mgE N v a b = 0 := by simp [mgE, e2]
    rw [e2, e0, e1]; clear e0 e1 e2
    clear r0 r1 hia hib hab
    go_enter Try.func16, Try.ntmps16
    go_wp2_with fail
    refine HC.out.mono ?_
    rintro e w1 ⟨rfl, hb1⟩
    have hX1 := hX0.step hb1
    obtain ⟨hbel1, hz1, r0, r1⟩ := hX1.1.parts
    have ca := hX1.2.1
    have cb := hX1.2.2.1
    go_wp2_with fail
    refine (isElement_any _ _ _).mono ?_
    rintro e w2 ⟨rfl, rfl⟩
    rw [Hia.out]
    go_wp2_with fail
    refine (isElement_any _ _ _).mono ?_
    rintro e w2 ⟨rfl, rfl⟩
    rw [Hib.out]
    have t1 := hX1.2.2.2
    have a0 := t1.cell0
    have a1 := t1.cell1
    have a2 := t1.frozen0
    have a3 := t1.frozen
    have y := (t1.set0 (.int .i64 0)).set1 (.slice none 0 0)
    have y0 := y.cell0
    have y1 := y.cell1
    go_wp2
    refine bodyPost_ret (v := .tuple #[.agg #[.int .i64 0, .slice none 0 0], .bool false]) (by simp [results, Try.results16, go_sem, y0, y1]) rfl ⟨none, 0, 0, rfl, own_nil _ _, by omega, ?_⟩
    exact (hX1.1.1.setCell (by simp; omega) _).setCell (by simp; omega) _
  have e3 : (a == b) = false := by simp [hab]
  have hvl := hv.len
  have e2 : mgOk N v a b = true := by simp [mgOk, hf, hia, hib, hab]
  have e0 : mgL N v a b = valL (mgV v a.toNat b.toNat) (2 ^ (N - 1)) := by simp [mgL, e2]
  have e1 : mgE N v a b = (N : Int) - 1 := by simp [mgE, e2]
  rw [e2, e0, e1]; clear e0 e1 e2
  obtain ⟨a, rfl⟩ : ∃ q : Nat, a = (q : Int) := ⟨a.toNat, by have := inR_true hia; omega⟩
  obtain ⟨b, rfl⟩ : ∃ q : Nat, b = (q : Int) := ⟨b.toNat, by have := inR_true hib; omega⟩
  have ha : a < N := by have := inR_true hia; omega
  have hb : b < N := by have := inR_true hib; omega
  rw [Int.toNat_natCast, Int.toNat_natCast]
  have n32 := fo.n32
  have n0 := fo.n0
  have b40 : b ≤ 40 := by omega
  have a40 : a ≤ 40 := by omega
  have hmf := hide (mg_fn (a := a) fo hb)
  have pb := fo.p2 hb
  have d10 : n - 1 < 1024 := by omega
  have p10 : p2 b < 1024 := by omega
  have hcnt := hide (show (eltL (n - 1 - p2 b)).length = N - 1 by rw [fo.hn]; exact elt_count ⟨N, by omega⟩ ⟨b, by omega⟩ hb)
  have hel := hide (elt_lt fo hb)
  have eV := hide (fun s => (show mgV v a b s = gv v (mrgI (eltL (n - 1 - p2 b)) a b s) by unfold mgV; rw [hvl]))
  have hlt5 : n - 1 - p2 b < 32 := by omega
  have HA := hide (fun W => fn_full fo ▸ allOf_any N A n c W (by omega))
  have HEl := hide (fun W => elementsOf_any (n - 1 - p2 b) W hlt5)
  have hdf := (fn_last fo hb).1
  have hmfn : ∀ (fn : Fn) (first cap : Array Value) (w : World), (Instr.makeFunc fn first cap).run Try.prog w = .ok (.func fn first cap) w := fun _ _ _ _ => rfl
  clear r0 r1 hia hib hab hf hvl hw1
  go_enter Try.func16, Try.ntmps16
  go_wp2_with fail
  refine HC.out.mono ?_
  rintro e w1 ⟨rfl, hb1⟩
  have hX1 := hX0.step hb1
  obtain ⟨hbel1, hz1, r0, r1⟩ := hX1.1.parts
  have ca := hX1.2.1
  have cb := hX1.2.2.1
  go_wp2_with fail
  refine (isElement_any _ _ _).mono ?_
  rintro e w2 ⟨rfl, rfl⟩
  rw [Hia.out]
  go_wp2_with fail
  refine (isElement_any _ _ _).mono ?_
  rintro e w2 ⟨rfl, rfl⟩
  rw [Hib.out]
  go_wp2
  have hx1 := hX1.drew
  have hlt1 := hX1.lt
  go_region_held3 (fun w' => w'.cell? ⟨w.heap.size, 0, none⟩ = some (.int .i64 (N : Int)) ∧ w'.cell? ⟨w.heap.size, 1, none⟩ = some (.slice A n c) ∧ w'.cell? ⟨w.heap.size + 1 + 1, 0, none⟩ = some (.int .i64 (b : Int)))
    (first
      | go_keep
      | exact (hx4.step ((Below.refl _ _).alloc (Nat.le_refl _) _)).held
      | exact (hx4.set hx3.lt _).held
      | exact (hx4.set hlt1 _).held
      | exact hx4.held
      | exact hx3.held
      | fail)
    (first
      | (go_at_call 48; refine (HA.out _).mono ?_; rintro e w3 ⟨rfl, hb3⟩
         have hx3 : BX w w3 N A n c a b := by first | exact hx1.step hb3 | exact (hx1.step ((Below.refl _ _).alloc (Nat.le_refl _) _)).step hb3 | fail
         try (have ox3 : OneS w3 w1.heap.size (.slice none 0 0) := (show OneS (w1.drew.alloc (.cells #[.slice none 0 0] 22)) w1.heap.size _ from heap_alloc_new w1.drew _).below hb3 (by simp))
         try (have ox3c := ox3.cell)
         try (have ox3f := ox3.frozen))
      | (go_at_call 47; refine (HEl.out _).mono ?_; rintro e w4 ⟨B, r, cr, rfl, hown, hr, hb4⟩
         have hx4 : BX w w4 N A n c a b := by first | exact hx3.step hb4 | exact (hx3.step ((Below.refl _ _).alloc (Nat.le_refl _) _)).step hb4 | fail
         try (have ox4 := ox3.below hb4 ox3.lt)
         try (have ox4 : OneS w4 w3.heap.size (.slice none 0 0) := (show OneS (w3.alloc (.cells #[.slice none 0 0] 22)) w3.heap.size _ from heap_alloc_new w3 _).below hb4 (by simp))
         try (have ox4c := ox4.cell)
         try (have ox4f := ox4.frozen))
      | fail)
  · have hX5 : BX w (w4.alloc (.cells #[.slice B r cr] 22)) N A n c a b := hx4.step ((Below.refl _ _).alloc (Nat.le_refl _) _)
    have hO5 : OneS (w4.alloc (.cells #[.slice B r cr] 22)) w4.heap.size (.slice B r cr) := heap_alloc_new w4 _
    have hI5 : Ints (w4.alloc (.cells #[.slice B r cr] 22)) B r (eltL (n - 1 - p2 b)) := hown.ints.alloc _
    have hrN : r = N - 1 := by have := hI5.len; have := hcnt.out; omega
    have l5 := hO5.cell
    have hmok := hmf.out
    rw [← hrN] at hmok
    have HM := hide (makeMrg_any r (mgV v a b) (.pointer (some ⟨w4.heap.size, 0, none⟩)) (.pointer (some ⟨w.heap.size + 1, 0, none⟩)) (.pointer (some ⟨w.heap.size + 1 + 1, 0, none⟩)) (.pointer (some ⟨w.heap.size, 0, none⟩)) (w4.alloc (.cells #[.slice B r cr] 22)) (by omega) hmok (fun W2 hW2 s hs2 => by
      rw [eV.out]
      have hXW := hX5.step hW2
      have h32 : (2 : Nat) ^ r ≤ 2 ^ 5 := Nat.pow_le_pow_right (by decide) hr
      exact mrgFn_any N A n c v B r cr (eltL (n - 1 - p2 b)) s a b w4.heap.size (w.heap.size + 1) (w.heap.size + 1 + 1) w.heap.size W2 (hv.below hXW.1.1 (Nat.le_refl _)) fo (hI5.below hW2 (Nat.le_refl _)) (by omega) (fun j hj => hel.out j (by rw [hI5.len]; exact hj)) (by omega) hb ha ((hO5.below hW2 hO5.lt).cell) hXW.2.1 hXW.2.2.1 hXW.1.2.2.2))
    clear hmok
    have hlt5' := hX5.lt
    have HrN := hide hrN
    clear hrN
    go_wp2_with fail
    refine HM.out.mono ?_
    rintro e w6 ⟨B6, r6, cr6, rfl, hown6, hr6, hb6⟩
    have hX6 := hX5.step hb6
    have t1 := hX6.2.2.2
    have a0 := t1.cell0
    have a1 := t1.cell1
    have a2 := t1.frozen0
    have a3 := t1.frozen
    have y := (t1.set0 (.int .i64 (r : Int))).set1 (.slice B6 r6 cr6)
    have y0 := y.cell0
    have y1 := y.cell1
    have hrc := hide (show (r : Int) = (N : Int) - 1 by have := HrN.out; omega)
    go_wp2
    refine bodyPost_ret (v := .tuple #[.agg #[.int .i64 (r : Int), .slice B6 r6 cr6], .bool true]) (by simp [results, Try.results16, go_sem, y0, y1]) rfl ⟨B6, r6, cr6, by rw [hrc.out], ?_, hr6, ?_⟩
    · have hl := fun g (hA : B6 = some ⟨g, 0, none⟩) => row_low hown6 hA
      rw [← HrN.out]
      exact ((hown6.far (fun g hA => by have := hl g hA; simp; omega) _).far (fun g hA => by have := hl g hA; simp; omega) _).less (by omega)
    · exact (hX6.1.1.setCell (by simp; omega) _).setCell (by simp; omega) _
  · have hX5 : BX w (w4.setCell ⟨w3.heap.size, 0, none⟩ (.slice B r cr)) N A n c a b := hx4.set hx3.lt _
    have hO5 : OneS (w4.setCell ⟨w3.heap.size, 0, none⟩ (.slice B r cr)) w3.heap.size (.slice B r cr) := ox4.set_ _
    have hI5 : Ints (w4.setCell ⟨w3.heap.size, 0, none⟩ (.slice B r cr)) B r (eltL (n - 1 - p2 b)) := (hown.far (fun g hA => by have := row_low hown hA; simp at this; simp; omega) _).ints
    have hrN : r = N - 1 := by have := hI5.len; have := hcnt.out; omega
    have l5 := hO5.cell
    have hmok := hmf.out
    rw [← hrN] at hmok
    have HM := hide (makeMrg_any r (mgV v a b) (.pointer (some ⟨w3.heap.size, 0, none⟩)) (.pointer (some ⟨w.heap.size + 1, 0, none⟩)) (.pointer (some ⟨w.heap.size + 1 + 1, 0, none⟩)) (.pointer (some ⟨w.heap.size, 0, none⟩)) (w4.setCell ⟨w3.heap.size, 0, none⟩ (.slice B r cr)) (by omega) hmok (fun W2 hW2 s hs2 => by
      rw [eV.out]
      have hXW := hX5.step hW2
      have h32 : (2 : Nat) ^ r ≤ 2 ^ 5 := Nat.pow_le_pow_right (by decide) hr
      exact mrgFn_any N A n c v B r cr (eltL (n - 1 - p2 b)) s a b w3.heap.size (w.heap.size + 1) (w.heap.size + 1 + 1) w.heap.size W2 (hv.below hXW.1.1 (Nat.le_refl _)) fo (hI5.below hW2 (Nat.le_refl _)) (by omega) (fun j hj => hel.out j (by rw [hI5.len]; exact hj)) (by omega) hb ha ((hO5.below hW2 hO5.lt).cell) hXW.2.1 hXW.2.2.1 hXW.1.2.2.2))
    clear hmok
    have hlt5' := hX5.lt
    have HrN := hide hrN
    clear hrN
    go_wp2_with fail
    refine HM.out.mono ?_
    rintro e w6 ⟨B6, r6, cr6, rfl, hown6, hr6, hb6⟩
    have hX6 := hX5.step hb6
    have t1 := hX6.2.2.2
    have a0 := t1.cell0
    have a1 := t1.cell1
    have a2 := t1.frozen0
    have a3 := t1.frozen
    have y := (t1.set0 (.int .i64 (r : Int))).set1 (.slice B6 r6 cr6)
    have y0 := y.cell0
    have y1 := y.cell1
    have hrc := hide (show (r : Int) = (N : Int) - 1 by have := HrN.out; omega)
    go_wp2
    refine bodyPost_ret (v := .tuple #[.agg #[.int .i64 (r : Int), .slice B6 r6 cr6], .bool true]) (by simp [results, Try.results16, go_sem, y0, y1]) rfl ⟨B6, r6, cr6, by rw [hrc.out], ?_, hr6, ?_⟩
    · have hl := fun g (hA : B6 = some ⟨g, 0, none⟩) => row_low hown6 hA
      rw [← HrN.out]
      exact ((hown6.far (fun g hA => by have := hl g hA; simp; omega) _).far (fun g hA => by have := hl g hA; simp; omega) _).less (by omega)
    · exact (hX6.1.1.setCell (by simp; omega) _).setCell (by simp; omega) _
  · have hX5 : BX w (w4.setCell ⟨w1.heap.size, 0, none⟩ (.slice B r cr)) N A n c a b := hx4.set hlt1 _
    have hO5 : OneS (w4.setCell ⟨w1.heap.size, 0, none⟩ (.slice B r cr)) w1.heap.size (.slice B r cr) := ox4.set_ _
    have hI5 : Ints (w4.setCell ⟨w1.heap.size, 0, none⟩ (.slice B r cr)) B r (eltL (n - 1 - p2 b)) := (hown.far (fun g hA => by have := row_low hown hA; have := ox3.lt; simp; omega) _).ints
    have hrN : r = N - 1 := by have := hI5.len; have := hcnt.out; omega
    have l5 := hO5.cell
    have hmok := hmf.out
    rw [← hrN] at hmok
    have HM := hide (makeMrg_any r (mgV v a b) (.pointer (some ⟨w1.heap.size, 0, none⟩)) (.pointer (some ⟨w.heap.size + 1, 0, none⟩)) (.pointer (some ⟨w.heap.size + 1 + 1, 0, none⟩)) (.pointer (some ⟨w.heap.size, 0, none⟩)) (w4.setCell ⟨w1.heap.size, 0, none⟩ (.slice B r cr)) (by omega) hmok (fun W2 hW2 s hs2 => by
      rw [eV.out]
      have hXW := hX5.step hW2
      have h32 : (2 : Nat) ^ r ≤ 2 ^ 5 := Nat.pow_le_pow_right (by decide) hr
      exact mrgFn_any N A n c v B r cr (eltL (n - 1 - p2 b)) s a b w1.heap.size (w.heap.size + 1) (w.heap.size + 1 + 1) w.heap.size W2 (hv.below hXW.1.1 (Nat.le_refl _)) fo (hI5.below hW2 (Nat.le_refl _)) (by omega) (fun j hj => hel.out j (by rw [hI5.len]; exact hj)) (by omega) hb ha ((hO5.below hW2 hO5.lt).cell) hXW.2.1 hXW.2.2.1 hXW.1.2.2.2))
    clear hmok
    have hlt5' := hX5.lt
    have HrN := hide hrN
    clear hrN
    go_wp2_with fail
    refine HM.out.mono ?_
    rintro e w6 ⟨B6, r6, cr6, rfl, hown6, hr6, hb6⟩
    have hX6 := hX5.step hb6
    have t1 := hX6.2.2.2
    have a0 := t1.cell0
    have a1 := t1.cell1
    have a2 := t1.frozen0
    have a3 := t1.frozen
    have y := (t1.set0 (.int .i64 (r : Int))).set1 (.slice B6 r6 cr6)
    have y0 := y.cell0
    have y1 := y.cell1
    have hrc := hide (show (r : Int) = (N : Int) - 1 by have := HrN.out; omega)
    go_wp2
    refine bodyPost_ret (v := .tuple #[.agg #[.int .i64 (r : Int), .slice B6 r6 cr6], .bool true]) (by simp [results, Try.results16, go_sem, y0, y1]) rfl ⟨B6, r6, cr6, by rw [hrc.out], ?_, hr6, ?_⟩
    · have hl := fun g (hA : B6 = some ⟨g, 0, none⟩) => row_low hown6 hA
      rw [← HrN.out]
      exact ((hown6.far (fun g hA => by have := hl g hA; simp; omega) _).far (fun g hA => by have := hl g hA; simp; omega) _).less (by omega)
    · exact (hX6.1.1.setCell (by simp; omega) _).setCell (by simp; omega) _
end Go.Proofs.Ytfmibekefllhjaa
