/-
  Walks: functions made out of values; 
-/
import Derived.Test.YtfmibekefllhjaaWgtM
import Derived.Test.YtfmibekefllhjaaClass
import Derived.OneCell
import Derived.Deep.RegionLaw
namespace Go.Proofs.Ytfmibekefllhjaa
open Go.RowKit

theorem slicesEqual_any (A A' : Option Addr) (n n' c c' : Nat) (xs ys : List Int) (w : World) (hx : Ints w A n xs) (hy : Ints w A' n' ys) :
    Calls Try.prog 63 #[.slice A n c, .slice A' n' c'] w fun e w' => e = .returned (.bool (decide (xs = ys))) ∧ Below w.heap.size w w' := by
  have hxl := hide hx.len
  have hyl := hide hy.len
  have hn := hx.le
  by_cases hne : n = n'
  · subst hne
    go_enter Try.func63, Try.ntmps63
    go_wp2
    go_loopw [13] (fun i wr => ∃ (k : Nat), k ≤ n ∧ i = .int .i64 k ∧ xs.take k = ys.take k ∧ Below w.heap.size w wr) (fun i _ => n - (intOf i).toNat)
    case atStart => exact ⟨0, Nat.zero_le _, rfl, rfl, Below.refl _ _⟩
    case round =>
      obtain ⟨k, hk, rfl, htake, hbel⟩ := hrel
      have Ht := hide htake; clear htake
      by_cases hlt : k < n
      · obtain ⟨b, off, rfl, hb, hc⟩ := hx.at_ hlt
        obtain ⟨b', off', rfl, hb', hc'⟩ := hy.at_ hlt
        have h1 : wr.cell? ⟨b, off + k, none⟩ = some (.int .i64 (gv xs k)) := (hbel.cell (p := ⟨b, off + k, none⟩) hb).trans hc
        have h2 : wr.cell? ⟨b', off' + k, none⟩ = some (.int .i64 (gv ys k)) := (hbel.cell (p := ⟨b', off' + k, none⟩) hb').trans hc'
        have h3 : (k : Int) < (n : Int) := by omega
        have h4 : (0 : Int) ≤ (k : Int) := by omega
        clear hc hc'
        by_cases he : gv xs k = gv ys k
        · have e1 : (gv xs k != gv ys k) = false := by simp [he]
          have He := hide he; clear he
          go_wp2
          go_quiet (fail)
          go_wp2
          go_roundw
          case rel => exact ⟨k + 1, by omega, by go_num, by rw [take_gv (by rw [hxl.out]; exact hlt), take_gv (by rw [hyl.out]; exact hlt), Ht.out, He.out], below_drewN hbel _⟩
          case measure => simp [intOf]; omega
        · have e1 : (gv xs k != gv ys k) = true := by simp [he]
          go_wp2
          go_quiet (fail)
          go_wp2
          go_ret
          exact ⟨ret_bool (by simp; rintro rfl; exact he rfl), below_drewN hbel _⟩
      · go_wp2
        go_ret
        have e : xs = ys := by
          have := Ht.out
          rwa [List.take_of_length_le (by rw [hxl.out]; omega), List.take_of_length_le (by rw [hyl.out]; omega)] at this
        exact ⟨ret_bool (by simp [e]), hbel⟩
  · have e1 : ((n : Int) != (n' : Int)) = true := by simp; omega
    go_enter Try.func63, Try.ntmps63
    go_wp2
    go_ret
    refine ⟨ret_bool ?_, Below.refl _ _⟩
    simp
    rintro rfl
    exact hne (hxl.out.symm.trans hyl.out)
theorem l2Same_any (A A' : Option Addr) (n n' c c' : Nat) (xs ys : List Int) (w : World) (hx : Ints w A n xs) (hy : Ints w A' n' ys) :
    Calls Try.prog 37 #[.slice A n c, .slice A' n' c'] w fun e w' => e = .returned (.bool (decide (xs = ys))) ∧ Below w.heap.size w w' := by
  have hxl := hide hx.len
  have hyl := hide hy.len
  have hn := hx.le
  by_cases hne : n = n'
  · subst hne
    go_enter Try.func37, Try.ntmps37
    go_wp2
    go_loopw [5] (fun i wr => ∃ (k : Nat), k ≤ n ∧ i = .int .i64 k ∧ xs.take k = ys.take k ∧ Below w.heap.size w wr) (fun i _ => n - (intOf i).toNat)
    case atStart => exact ⟨0, Nat.zero_le _, rfl, rfl, Below.refl _ _⟩
    case round =>
      obtain ⟨k, hk, rfl, htake, hbel⟩ := hrel
      have Ht := hide htake; clear htake
      by_cases hlt : k < n
      · obtain ⟨b, off, rfl, hb, hc⟩ := hx.at_ hlt
        obtain ⟨b', off', rfl, hb', hc'⟩ := hy.at_ hlt
        have h1 : wr.cell? ⟨b, off + k, none⟩ = some (.int .i64 (gv xs k)) := (hbel.cell (p := ⟨b, off + k, none⟩) hb).trans hc
        have h2 : wr.cell? ⟨b', off' + k, none⟩ = some (.int .i64 (gv ys k)) := (hbel.cell (p := ⟨b', off' + k, none⟩) hb').trans hc'
        have h3 : (k : Int) < (n : Int) := by omega
        have h4 : (0 : Int) ≤ (k : Int) := by omega
        clear hc hc'
        by_cases he : gv xs k = gv ys k
        · have e1 : (gv xs k != gv ys k) = false := by simp [he]
          have He := hide he; clear he
          go_wp2
          go_quiet (fail)
          go_wp2
          go_roundw
          case rel => exact ⟨k + 1, by omega, by go_num, by rw [take_gv (by rw [hxl.out]; exact hlt), take_gv (by rw [hyl.out]; exact hlt), Ht.out, He.out], below_drewN hbel _⟩
          case measure => simp [intOf]; omega
        · have e1 : (gv xs k != gv ys k) = true := by simp [he]
          go_wp2
          go_quiet (fail)
          go_wp2
          go_ret
          exact ⟨ret_bool (by simp; rintro rfl; exact he rfl), below_drewN hbel _⟩
      · go_wp2
        go_ret
        have e : xs = ys := by
          have := Ht.out
          rwa [List.take_of_length_le (by rw [hxl.out]; omega), List.take_of_length_le (by rw [hyl.out]; omega)] at this
        exact ⟨ret_bool (by simp [e]), hbel⟩
  · have e1 : ((n : Int) != (n' : Int)) = true := by simp; omega
    go_enter Try.func37, Try.ntmps37
    go_wp2
    go_ret
    refine ⟨ret_bool ?_, Below.refl _ _⟩
    simp
    rintro rfl
    exact hne (hxl.out.symm.trans hyl.out)
/-- The values 0, 1, .. k - 1 have. -/
def valL (val : Nat → Int) (k : Nat) : List Int := (List.range k).map val
theorem valL_len (val : Nat → Int) (k : Nat) : (valL val k).length = k := by simp [valL]
theorem valL_snoc (val : Nat → Int) (k : Nat) : valL val (k + 1) = valL val k ++ [val k] := by simp [valL, List.range_succ]
/-- A block of a function's two cells. -/
def Two (w : World) (b : Nat) (x y : Value) : Prop := w.heap[b]? = some (.cells #[x, y] 27 (0, 0))
theorem Two.cell0 {w : World} {b : Nat} {x y : Value} (h : Two w b x y) : w.cell? ⟨b, 0, none⟩ = some x := by unfold Two at h; simp [World.cell?, h]
theorem Two.cell1 {w : World} {b : Nat} {x y : Value} (h : Two w b x y) : w.cell? ⟨b, 1, none⟩ = some y := by unfold Two at h; simp [World.cell?, h]
theorem Two.frozen {w : World} {b : Nat} {x y : Value} (h : Two w b x y) : w.frozen? ⟨b, 1, none⟩ = false := frozen_of_row w b 1 _ _ h
theorem Two.frozen0 {w : World} {b : Nat} {x y : Value} (h : Two w b x y) : w.frozen? ⟨b, 0, none⟩ = false := frozen_of_row w b 0 _ _ h
theorem Two.lt {w : World} {b : Nat} {x y : Value} (h : Two w b x y) : b < w.heap.size := World.block_lt_of_cell? _ _ h.cell0
theorem Two.same {w w' : World} {b : Nat} {x y : Value} (h : Two w b x y) (he : w'.heap[b]? = w.heap[b]?) : Two w' b x y := he.trans h
theorem Two.below {w w' : World} {b B : Nat} {x y : Value} (h : Two w b x y) (hb : Below B w w') (hB : b < B) : Two w' b x y := h.same (hb.block b hB)
theorem Two.set1 {w : World} {b : Nat} {x y : Value} (h : Two w b x y) (u : Value) : Two (w.setCell ⟨b, 1, none⟩ u) b x u := by
  unfold Two at *
  simp [World.setCell, Array.getElem?_modify, h]
theorem Two.set0 {w : World} {b : Nat} {x y : Value} (h : Two w b x y) (u : Value) : Two (w.setCell ⟨b, 0, none⟩ u) b u y := by
  unfold Two at *
  simp [World.setCell, Array.getElem?_modify, h]
theorem Two.far {w : World} {b : Nat} {x y : Value} (h : Two w b x y) {p : Addr} (hp : b ≠ p.block) (u : Value) : Two (w.setCell p u) b x y := h.same (Below.heap_setCell _ _ _ _ hp)
theorem two_start2 (w : World) (a b x y : Value) : Two ((w.alloc (.cells #[a, b] 27)).alloc (.cells #[x, y] 27)) (w.heap.size + 1) x y := by
  have := heap_alloc_new (w.alloc (.cells #[a, b] 27)) (.cells #[x, y] 27)
  simpa [Two] using this
theorem two_start (w : World) (a b x y : Value) : Two ((w.alloc (.cells #[a, b] 27)).alloc (.cells #[x, y] 27)) w.heap.size a b := by
  have h : Two (w.alloc (.cells #[a, b] 27)) w.heap.size a b := heap_alloc_new w (.cells #[a, b] 27)
  exact h.below ((Below.refl _ _).alloc (Nat.le_refl _) _) (by simp)
theorem app_block {wr W w1 : World} {o : Obj} {B n c : Nat} {A : Option Addr} {xs : List Int} {b : Nat} (hown : Own wr B A n c xs) (hg : W.grownBy w1 (A.map (·.block))) (hW : W.heap = (wr.alloc o).heap)
    (hp : b < B) (hpw : b < wr.heap.size) : w1.heap[b]? = wr.heap[b]? := by
  rw [hg.block b (by rw [hW]; simp; omega) (fun he => by
    rcases hown.where_ with e | ⟨g, e, h1, _⟩
    · subst e; cases he
    · subst e; simp at he; omega), hW]
  exact Below.heap_alloc wr o b hpw
theorem row_low {w : World} {B n c g : Nat} {A : Option Addr} {xs : List Int} (h : Own w B A n c xs) (hA : A = some ⟨g, 0, none⟩) : B ≤ g := by
  rcases h.where_ with e | ⟨g', e, h1, _⟩
  · rw [e] at hA; cases hA
  · rw [e] at hA; injection hA with hA; injection hA with hA _; omega
theorem app_ne {w W : World} {B n c g b : Nat} {A : Option Addr} {xs : List Int} (h : Own w B A n c xs) (hat : A = some ⟨g, 0, none⟩ ∨ g = W.heap.size) (hW : b < W.heap.size) (hb : b < B) :
    ∀ g', (some ⟨g, 0, none⟩ : Option Addr) = some ⟨g', 0, none⟩ → g' ≠ b := by
  intro g' hg
  injection hg with hg
  injection hg with hg _
  rcases hat with h1 | h1
  · have := row_low h h1; omega
  · omega
theorem below_app {B B0 : Nat} {wr W w1 : World} {o : Obj} {n c : Nat} {A : Option Addr} {xs : List Int} (hown : Own wr B A n c xs) (hg : W.grownBy w1 (A.map (·.block))) (hW : W = wr.alloc o) (hB : B0 ≤ B) (hB2 : B0 ≤ wr.heap.size) : Below B0 wr w1 := by
  subst hW
  exact ((Below.refl B0 wr).alloc hB2 o).grown hg (by simp; omega) (fun k hk => by
    rcases hown.where_ with e | ⟨g, e, h1, _⟩
    · subst e; cases hk
    · subst e; simp at hk; omega)
set_option maxHeartbeats 2000000 in
theorem makeOpp_any (N : Nat) (val : Nat → Int) (p0 : Value) (w : World) (hN : N ≤ 5) (hok : isFn N (valL val (2 ^ N)) = true)
    (hcl : ∀ W, Below w.heap.size w W → ∀ s : Nat, s < 2 ^ N → Calls Try.prog 64 #[.int .i64 (s : Int), p0] W fun e w' => e = .returned (.int .i64 (val s)) ∧ Below W.heap.size W w') :
    Calls Try.prog 49 #[.int .i64 (N : Int), .func (.func 64) #[] #[p0]] w fun e w' => ∃ B r cr, e = .returned (.tuple #[.agg #[.int .i64 (N : Int), .slice B r cr], .bool true]) ∧ Own w' w.heap.size B r cr (valL val (2 ^ N)) ∧ r ≤ 1048576 ∧ Below w.heap.size w w' := by
  have HCL := hide hcl
  have HOK := hide hok
  clear hcl hok
  have h32 : p2 N ≤ 32 := Nat.pow_le_pow_right (n := 2) (by omega) hN
  have hN40 : N ≤ 40 := by omega
  have hB0 : Below w.heap.size w (w.alloc (.cells #[.int .i64 0, .slice none 0 0] 27)) := (Below.refl _ _).alloc (Nat.le_refl _) _
  go_enter Try.func49, Try.ntmps49
  go_wp2
  rw [shl_a N hN40]
  go_loopw [13] (fun i wr => ∃ (k : Nat) (B : Option Addr) (cr : Nat), k ≤ p2 N ∧ i = .int .i64 k ∧ Own wr (w.heap.size + 2) B k cr (valL val k) ∧ Two wr w.heap.size (.int .i64 0) (.slice none 0 0) ∧ Two wr (w.heap.size + 1) (.int .i64 (N : Int)) (.slice B k cr) ∧ Below w.heap.size w wr) (fun i _ => p2 N - (intOf i).toNat)
  case atStart => exact ⟨0, none, 0, Nat.zero_le _, rfl, own_nil _ _, two_start w _ _ _ _, two_start2 w _ _ _ _, hB0.alloc (by simp) _⟩
  clear hB0
  case round =>
    obtain ⟨k, B, cr, hk, rfl, hown, ht0, ht1, hbel⟩ := hrel
    have m0 := ht1.cell1
    have hsz1 := ht1.lt
    by_cases hlt : k < p2 N
    · have HV := hide (valL_snoc val k)
      go_wp2
      go_region_law (first
        | (go_simp; go_at_call 64; refine (HCL.out _ hbel.drew k hlt).mono ?_; rintro e w2 ⟨rfl, hb2⟩; have hown2 : Own w2 _ _ _ _ _ := (show Own wr.drew _ _ _ _ _ from hown).below hb2 (Nat.le_refl _); have ht1b := (show Two wr.drew _ _ _ from ht1).below hb2 hsz1; have ht0b := (show Two wr.drew _ _ _ from ht0).below hb2 (by simp; omega); have m2 := ht1b.cell1; have hsz2 := hb2.size; have hsz3 := ht1b.lt)
        | (refine step_app (by rfl) _ _ (by rfl) (w.heap.size + 2) B k cr w2.heap.size (valL val k) (val k) (by rfl) (by rfl) (hown2.alloc _) (cell_new w2 _) (by omega) (by simp; omega) ?_; intro g cap w3 hown3 hgrow hat hlt3; have hbl3 := app_block hown2 hgrow rfl (show w.heap.size + 1 < w.heap.size + 2 by omega) (by omega); have hbl4 := app_block hown2 hgrow rfl (show w.heap.size < w.heap.size + 2 by omega) (by omega); have u1 := ht1b.same hbl3; have u0 := ht0b.same hbl4; have m3 := u1.cell1; have f3 := u1.frozen))
      all_goals
        go_wp2
        go_roundw
        case rel => exact ⟨k + 1, _, cap, by omega, by go_num, by rw [HV.out]; exact hown3.far (app_ne (b := w.heap.size + 1) hown2 hat (by simp; omega) (by omega)) _, u0.far (by simp) _, u1.set1 _, ((hbel.drew.trans (hb2.mono hbel.size)).trans (below_app hown2 hgrow rfl (by omega) (by omega))).setCell (by simp) _⟩
        case measure => simp [intOf]; omega
    · obtain rfl : k = p2 N := by omega
      have z0 := ht0.frozen
      have z1 := ht0.frozen0
      have z2 := ht1.cell0
      go_wp2_with fail
      refine (isFunction_any (N : Int) B _ cr _ _ hown.ints).mono ?_
      rintro e w2 ⟨rfl, hb2⟩
      rw [show isFn (N : Int) (valL val (p2 N)) = true from HOK.out]
      have v0 := (ht0.below hb2 (by omega)).cell0
      have v1 := (ht0.below hb2 (by omega)).cell1
      have v2 := (ht0.below hb2 (by omega)).frozen0
      have v3 := (ht0.below hb2 (by omega)).frozen
      have x0 := (ht1.below hb2 hsz1).cell0
      have x1 := (ht1.below hb2 hsz1).cell1
      have y := ((ht0.below hb2 (by omega)).set0 (.int .i64 (N : Int))).set1 (.slice B (p2 N) cr)
      have y0 := y.cell0
      have y1 := y.cell1
      go_wp2
      refine bodyPost_ret (v := .tuple #[.agg #[.int .i64 (N : Int), .slice B (p2 N) cr], .bool true]) (by simp [results, Try.results49, go_sem, y0, y1]) rfl ⟨B, p2 N, cr, rfl, ?_, by omega, ?_⟩
      · have o2 := hown.below hb2 (Nat.le_refl _)
        have hl := fun g (hA : B = some ⟨g, 0, none⟩) => row_low hown hA
        exact ((o2.far (fun g hA => by have := hl g hA; simp; omega) _).far (fun g hA => by have := hl g hA; simp; omega) _).less (by omega)
      · exact ((hbel.trans (hb2.mono hbel.size)).setCell (Nat.le_refl _) _).setCell (Nat.le_refl _) _
end Go.Proofs.Ytfmibekefllhjaa
