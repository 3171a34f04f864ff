/-
  Walks: functions made out of values; 
-/
import Derived.Test.YtokeejachclpeaaWgtM
import Derived.Test.YtokeejachclpeaaClass
import Derived.OneCell
import Derived.Deep.RegionLaw
namespace Go.Proofs.Ytokeejachclpeaa
open Go.RowKit

theorem slicesEqual_any (A A' : Option Addr) (n n' c c' : Nat) (xs ys : List Int) (w : World) (hx : Ints w A n xs) (hy : Ints w A' n' ys) :
    Calls Try.prog 144 #[.slice A n c, .slice A' n' c'] w fun e w' => e = .returned (.bool (decide (xs = ys))) ∧ Below w.heap.size w w' := by
  have hxl := hide hx.len
  have hyl := hide hy.len
  have hn := hx.le
  by_cases hne : n = n'
  · subst hne
    go_enter Try.func144, Try.ntmps144
    go_wp2
    go_loopw [13] (fun i wr => ∃ (k : Nat), k ≤ n ∧ i = .int .i64 k ∧ xs.take k = ys.take k ∧ Below w.heap.size w wr) (fun i _ => n - (intOf i).toNat)
    case atStart => exact ⟨0, Nat.zero_le _, rfl, rfl, Below.refl _ _⟩
    case round =>
      obtain ⟨k, hk, rfl, htake, hbel⟩ := hrel
      have Ht := hide htake; clear htake
      by_cases hlt : k < n
      · obtain ⟨b, off, rfl, hb, hc⟩ := hx.at_ hlt
        obtain ⟨b', off', rfl, hb', hc'⟩ := hy.at_ hlt
        have h1 : wr.cell? ⟨b, off + k, none⟩ = some (.int .i64 (gv xs k)) := (hbel.cell (p := ⟨b, off + k, none⟩) hb).trans hc
        have h2 : wr.cell? ⟨b', off' + k, none⟩ = some (.int .i64 (gv ys k)) := (hbel.cell (p := ⟨b', off' + k, none⟩) hb').trans hc'
        have h3 : (k : Int) < (n : Int) := by omega
        have h4 : (0 : Int) ≤ (k : Int) := by omega
        clear hc hc'
        by_cases he : gv xs k = gv ys k
        · have e1 : (gv xs k != gv ys k) = false := by simp [he]
          have He := hide he; clear he
          go_wp2
          go_quiet (fail)
          go_wp2
          go_roundw
          case rel => exact ⟨k + 1, by omega, by go_num, by rw [take_gv (by rw [hxl.out]; exact hlt), take_gv (by rw [hyl.out]; exact hlt), Ht.out, He.out], below_drewN hbel _⟩
          case measure => simp [intOf]; omega
        · have e1 : (gv xs k != gv ys k) = true := by simp [he]
          go_wp2
          go_quiet (fail)
          go_wp2
          go_ret
          exact ⟨ret_bool (by simp; rintro rfl; exact he rfl), below_drewN hbel _⟩
      · go_wp2
        go_ret
        have e : xs = ys := by
          have := Ht.out
          rwa [List.take_of_length_le (by rw [hxl.out]; omega), List.take_of_length_le (by rw [hyl.out]; omega)] at this
        exact ⟨ret_bool (by simp [e]), hbel⟩
  · have e1 : ((n : Int) != (n' : Int)) = true := by simp; omega
    go_enter Try.func144, Try.ntmps144
    go_wp2
    go_ret
    refine ⟨ret_bool ?_, Below.refl _ _⟩
    simp
    rintro rfl
    exact hne (hxl.out.symm.trans hyl.out)
theorem l2Same_any (A A' : Option Addr) (n n' c c' : Nat) (xs ys : List Int) (w : World) (hx : Ints w A n xs) (hy : Ints w A' n' ys) :
    Calls Try.prog 147 #[.slice A n c, .slice A' n' c'] w fun e w' => e = .returned (.bool (decide (xs = ys))) ∧ Below w.heap.size w w' := by
  have hxl := hide hx.len
  have hyl := hide hy.len
  have hn := hx.le
  by_cases hne : n = n'
  · subst hne
    go_enter Try.func147, Try.ntmps147
    go_wp2
    go_loopw [5] (fun i wr => ∃ (k : Nat), k ≤ n ∧ i = .int .i64 k ∧ xs.take k = ys.take k ∧ Below w.heap.size w wr) (fun i _ => n - (intOf i).toNat)
    case atStart => exact ⟨0, Nat.zero_le _, rfl, rfl, Below.refl _ _⟩
    case round =>
      obtain ⟨k, hk, rfl, htake, hbel⟩ := hrel
      have Ht := hide htake; clear htake
      by_cases hlt : k < n
      · obtain ⟨b, off, rfl, hb, hc⟩ := hx.at_ hlt
        obtain ⟨b', off', rfl, hb', hc'⟩ := hy.at_ hlt
        have h1 : wr.cell? ⟨b, off + k, none⟩ = some (.int .i64 (gv xs k)) := (hbel.cell (p := ⟨b, off + k, none⟩) hb).trans hc
        have h2 : wr.cell? ⟨b', off' + k, none⟩ = some (.int .i64 (gv ys k)) := (hbel.cell (p := ⟨b', off' + k, none⟩) hb').trans hc'
        have h3 : (k : Int) < (n : Int) := by omega
        have h4 : (0 : Int) ≤ (k : Int) := by omega
        clear hc hc'
        by_cases he : gv xs k = gv ys k
        · have e1 : (gv xs k != gv ys k) = false := by simp [he]
          have He := hide he; clear he
          go_wp2
          go_quiet (fail)
          go_wp2
          go_roundw
          case rel => exact ⟨k + 1, by omega, by go_num, by rw [take_gv (by rw [hxl.out]; exact hlt), take_gv (by rw [hyl.out]; exact hlt), Ht.out, He.out], below_drewN hbel _⟩
          case measure => simp [intOf]; omega
        · have e1 : (gv xs k != gv ys k) = true := by simp [he]
          go_wp2
          go_quiet (fail)
          go_wp2
          go_ret
          exact ⟨ret_bool (by simp; rintro rfl; exact he rfl), below_drewN hbel _⟩
      · go_wp2
        go_ret
        have e : xs = ys := by
          have := Ht.out
          rwa [List.take_of_length_le (by rw [hxl.out]; omega), List.take_of_length_le (by rw [hyl.out]; omega)] at this
        exact ⟨ret_bool (by simp [e]), hbel⟩
  · have e1 : ((n : Int) != (n' : Int)) = true := by simp; omega
    go_enter Try.func147, Try.ntmps147
    go_wp2
    go_ret
    refine ⟨ret_bool ?_, Below.refl _ _⟩
    simp
    rintro rfl
    exact hne (hxl.out.symm.trans hyl.out)
/-- The values 0, 1, .. k - 1 have. -/
def valL (val : Nat → Int) (k : Nat) : List Int := (List.range k).map val
theorem valL_len (val : Nat → Int) (k : Nat) : (valL val k).length = k := by simp [valL]
theorem valL_snoc (val : Nat → Int) (k : Nat) : valL val (k + 1) = valL val k ++ [val k] := by simp [valL, List.range_succ]
/-- A block of a function's two cells. -/
def Two (w : World) (b : Nat) (x y : Value) : Prop := w.heap[b]? = some (.cells #[x, y] 26 (0, 0))
theorem Two.cell0 {w : World} {b : Nat} {x y : Value} (h : Two w b x y) : w.cell? ⟨b, 0, none⟩ = some x := by unfold Two at h; simp [World.cell?, h]
theorem Two.cell1 {w : World} {b : Nat} {x y : Value} (h : Two w b x y) : w.cell? ⟨b, 1, none⟩ = some y := by unfold Two at h; simp [World.cell?, h]
theorem Two.frozen {w : World} {b : Nat} {x y : Value} (h : Two w b x y) : w.frozen? ⟨b, 1, none⟩ = false := frozen_of_row w b 1 _ _ h
theorem Two.frozen0 {w : World} {b : Nat} {x y : Value} (h : Two w b x y) : w.frozen? ⟨b, 0, none⟩ = false := frozen_of_row w b 0 _ _ h
theorem Two.lt {w : World} {b : Nat} {x y : Value} (h : Two w b x y) : b < w.heap.size := World.block_lt_of_cell? _ _ h.cell0
theorem Two.same {w w' : World} {b : Nat} {x y : Value} (h : Two w b x y) (he : w'.heap[b]? = w.heap[b]?) : Two w' b x y := he.trans h
theorem Two.below {w w' : World} {b B : Nat} {x y : Value} (h : Two w b x y) (hb : Below B w w') (hB : b < B) : Two w' b x y := h.same (hb.block b hB)
theorem Two.set1 {w : World} {b : Nat} {x y : Value} (h : Two w b x y) (u : Value) : Two (w.setCell ⟨b, 1, none⟩ u) b x u := by
  unfold Two at *
  simp [World.setCell, Array.getElem?_modify, h]
theorem Two.set0 {w : World} {b : Nat} {x y : Value} (h : Two w b x y) (u : Value) : Two (w.setCell ⟨b, 0, none⟩ u) b u y := by
  unfold Two at *
  simp [World.setCell, Array.getElem?_modify, h]
theorem Two.far {w : World} {b : Nat} {x y : Value} (h : Two w b x y) {p : Addr} (hp : b ≠ p.block) (u : Value) : Two (w.setCell p u) b x y := h.same (Below.heap_setCell _ _ _ _ hp)
theorem two_start2 (w : World) (a b x y : Value) : Two ((w.alloc (.cells #[a, b] 26)).alloc (.cells #[x, y] 26)) (w.heap.size + 1) x y := by
  have := heap_alloc_new (w.alloc (.cells #[a, b] 26)) (.cells #[x, y] 26)
  simpa [Two] using this
theorem two_start (w : World) (a b x y : Value) : Two ((w.alloc (.cells #[a, b] 26)).alloc (.cells #[x, y] 26)) w.heap.size a b := by
  have h : Two (w.alloc (.cells #[a, b] 26)) w.heap.size a b := heap_alloc_new w (.cells #[a, b] 26)
  exact h.below ((Below.refl _ _).alloc (Nat.le_refl _) _) (by simp)
theorem app_block {wr W w1 : World} {o : Obj} {B n c : Nat} {A : Option Addr} {xs : List Int} {b : Nat} (hown : Own wr B A n c xs) (hg : W.grownBy w1 (A.map (·.block))) (hW : W.heap = (wr.alloc o).heap)
    (hp : b < B) (hpw : b < wr.heap.size) : w1.heap[b]? = wr.heap[b]? := by
  rw [hg.block b (by rw [hW]; simp; omega) (fun he => by
    rcases hown.where_ with e | ⟨g, e, h1, _⟩
    · subst e; cases he
    · subst e; simp at he; omega), hW]
  exact Below.heap_alloc wr o b hpw
theorem row_low {w : World} {B n c g : Nat} {A : Option Addr} {xs : List Int} (h : Own w B A n c xs) (hA : A = some ⟨g, 0, none⟩) : B ≤ g := by
  rcases h.where_ with e | ⟨g', e, h1, _⟩
  · rw [e] at hA; cases hA
  · rw [e] at hA; injection hA with hA; injection hA with hA _; omega
theorem app_ne {w W : World} {B n c g b : Nat} {A : Option Addr} {xs : List Int} (h : Own w B A n c xs) (hat : A = some ⟨g, 0, none⟩ ∨ g = W.heap.size) (hW : b < W.heap.size) (hb : b < B) :
    ∀ g', (some ⟨g, 0, none⟩ : Option Addr) = some ⟨g', 0, none⟩ → g' ≠ b := by
  intro g' hg
  injection hg with hg
  injection hg with hg _
  rcases hat with h1 | h1
  · have := row_low h h1; omega
  · omega
theorem below_app {B B0 : Nat} {wr W w1 : World} {o : Obj} {n c : Nat} {A : Option Addr} {xs : List Int} (hown : Own wr B A n c xs) (hg : W.grownBy w1 (A.map (·.block))) (hW : W = wr.alloc o) (hB : B0 ≤ B) (hB2 : B0 ≤ wr.heap.size) : Below B0 wr w1 := by
  subst hW
  exact ((Below.refl B0 wr).alloc hB2 o).grown hg (by simp; omega) (fun k hk => by
    rcases hown.where_ with e | ⟨g, e, h1, _⟩
    · subst e; cases hk
    · subst e; simp at hk; omega)
end Go.Proofs.Ytokeejachclpeaa
