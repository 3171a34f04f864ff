/-
  Walks: the small functions of package laws: copies, comparisons, sizes, marks.
-/
import Derived.Test.YtfmibekefllhjaaProg
import Derived.Test.YtfmibekefllhjaaCore
namespace Go.Proofs.Ytfmibekefllhjaa
open Go.RowKit

theorem take_set_gv {zs xs : List Int} {k : Nat} (hk : k < zs.length) (hx : k < xs.length) (h : zs.take k = xs.take k) : (zs.set k (gv xs k)).take (k + 1) = xs.take (k + 1) := by
  have h2 : k < (zs.set k (gv xs k)).length := by simpa using hk
  rw [take_gv hx, ← h, take_gv h2, gv_get h2, List.take_set, List.set_eq_of_length_le (by simp; omega)]
  simp

theorem toIntS_any (A : Option Addr) (n c : Nat) (xs : List Int) (w : World) (hv : Ints w A n xs) (hn : n ≤ 1048576) :
    Calls Try.prog 38 #[.slice A n c] w fun e w' => e = .returned (.slice (some ⟨w.heap.size, 0, none⟩) n n) ∧ Own w' w.heap.size (some ⟨w.heap.size, 0, none⟩) n n xs ∧ Below w.heap.size w w' := by
  have hmk := fun W => make_ints n hn W
  have hlen := hide hv.len
  go_enter Try.func38, Try.ntmps38
  go_wp2
  go_loopw [4] (fun i wr => ∃ (k : Nat) (zs : List Int), k ≤ n ∧ i = .int .i64 k ∧ Own wr w.heap.size (some ⟨w.heap.size, 0, none⟩) n n zs ∧ zs.take k = xs.take k ∧ Below w.heap.size w wr) (fun i _ => n - (intOf i).toNat)
  case atStart => exact ⟨0, _, Nat.zero_le _, rfl, own_made n hn w (Nat.le_refl _), rfl, (Below.refl _ _).alloc (Nat.le_refl _) _⟩
  case round =>
    obtain ⟨k, zs, hk, rfl, hown, htake, hbel⟩ := hrel
    have Ht := hide htake; clear htake
    have hzl := hide hown.len
    by_cases hlt : k < n
    · obtain ⟨b, off, rfl, hb, hc⟩ := hv.at_ hlt
      have h1 : wr.cell? ⟨b, off + k, none⟩ = some (.int .i64 (gv xs k)) := (hbel.cell (p := ⟨b, off + k, none⟩) hb).trans hc
      have h2 := hown.cell hlt
      have h3 := hown.frozen k
      go_wp2
      go_roundw
      case rel => exact ⟨k + 1, zs.set k (gv xs k), by omega, by go_num, hown.set_ k _, take_set_gv (by rw [hzl.out]; exact hlt) (by rw [hlen.out]; exact hlt) Ht.out, hbel.setCell (by simp) _⟩
      case measure => simp [intOf]; omega
    · go_wp2
      go_ret
      have ez : zs = xs := by
        have := Ht.out
        rwa [List.take_of_length_le (by rw [hzl.out]; omega), List.take_of_length_le (by rw [hlen.out]; omega)] at this
      exact ⟨rfl, ez ▸ hown, hbel⟩

/-- Two lists of numbers: equal? -/
theorem eqIntS_any (A A' : Option Addr) (n n' c c' : Nat) (xs ys : List Int) (w : World) (hx : Ints w A n xs) (hy : Ints w A' n' ys) :
    Calls Try.prog 27 #[.slice A n c, .slice A' n' c'] w fun e w' => e = .returned (.bool (decide (xs = ys))) ∧ Below w.heap.size w w' := by
  have hxl := hide hx.len
  have hyl := hide hy.len
  have hn := hx.le
  by_cases hne : n = n'
  · subst hne
    go_enter Try.func27, Try.ntmps27
    go_wp2
    go_loopw [5] (fun i wr => ∃ (k : Nat), k ≤ n ∧ i = .int .i64 k ∧ xs.take k = ys.take k ∧ Below w.heap.size w wr) (fun i _ => n - (intOf i).toNat)
    case atStart => exact ⟨0, Nat.zero_le _, rfl, rfl, Below.refl _ _⟩
    case round =>
      obtain ⟨k, hk, rfl, htake, hbel⟩ := hrel
      have Ht := hide htake; clear htake
      by_cases hlt : k < n
      · obtain ⟨b, off, rfl, hb, hc⟩ := hx.at_ hlt
        obtain ⟨b', off', rfl, hb', hc'⟩ := hy.at_ hlt
        have h1 : wr.cell? ⟨b, off + k, none⟩ = some (.int .i64 (gv xs k)) := (hbel.cell (p := ⟨b, off + k, none⟩) hb).trans hc
        have h2 : wr.cell? ⟨b', off' + k, none⟩ = some (.int .i64 (gv ys k)) := (hbel.cell (p := ⟨b', off' + k, none⟩) hb').trans hc'
        have h3 : (k : Int) < (n : Int) := by omega
        have h4 : (0 : Int) ≤ (k : Int) := by omega
        clear hc hc'
        by_cases he : gv xs k = gv ys k
        · have e1 : (gv xs k != gv ys k) = false := by simp [he]
          have He := hide he; clear he
          go_wp2
          go_quiet (fail)
          go_wp2
          go_roundw
          case rel => exact ⟨k + 1, by omega, by go_num, by rw [take_gv (by rw [hxl.out]; exact hlt), take_gv (by rw [hyl.out]; exact hlt), Ht.out, He.out], below_drewN hbel _⟩
          case measure => simp [intOf]; omega
        · have e1 : (gv xs k != gv ys k) = true := by simp [he]
          go_wp2
          go_quiet (fail)
          go_wp2
          go_ret
          exact ⟨ret_bool (by simp; rintro rfl; exact he rfl), below_drewN hbel _⟩
      · go_wp2
        go_ret
        have e : xs = ys := by
          have := Ht.out
          rwa [List.take_of_length_le (by rw [hxl.out]; omega), List.take_of_length_le (by rw [hyl.out]; omega)] at this
        exact ⟨ret_bool (by simp [e]), hbel⟩
  · have e1 : ((n : Int) != (n' : Int)) = true := by simp; omega
    go_enter Try.func27, Try.ntmps27
    go_wp2
    go_ret
    refine ⟨ret_bool ?_, Below.refl _ _⟩
    simp
    rintro rfl
    exact hne (hxl.out.symm.trans hyl.out)

/-- The numbers k0, k0 + 1, .. -/
def marks (k0 : Int) (n : Nat) : List Int := (List.range n).map fun i : Nat => k0 + (i : Int)
theorem marks_len (k0 : Int) (n : Nat) : (marks k0 n).length = n := by simp [marks]
theorem marks_gv {k0 : Int} {n k : Nat} (h : k < n) : gv (marks k0 n) k = k0 + (k : Int) := by
  rw [gv_get (by rw [marks_len]; exact h)]; simp [marks]
theorem marks_snoc (k0 : Int) (k : Nat) : marks k0 (k + 1) = marks k0 k ++ [k0 + (k : Int)] := by simp [marks, List.range_succ]
theorem take_set_marks {zs : List Int} {k : Nat} {k0 : Int} (hk : k < zs.length) (h : zs.take k = marks k0 k) : (zs.set k (k0 + (k : Int))).take (k + 1) = marks k0 (k + 1) := by
  have h2 : k < (zs.set k (k0 + (k : Int))).length := by simpa using hk
  rw [take_gv h2, gv_get h2, List.take_set, List.set_eq_of_length_le (by simp; omega), h, marks_snoc]
  simp

theorem grown_set {w wr : World} {g k : Nat} (h : w.grownBy wr (some g)) (u : Value) : w.grownBy (wr.setCell ⟨g, k, none⟩ u) (some g) :=
  ⟨h.os, h.tape, h.output, by simpa [World.setCell] using h.size, fun i hi hne => (Below.heap_setCell wr ⟨g, k, none⟩ u i (by
    rintro rfl
    exact hne rfl)).trans (h.block i hi hne)⟩

theorem grown_trans {a b c : World} {row : Option Nat} (h : a.grownBy b row) (k : b.grownBy c row) : a.grownBy c row :=
  ⟨k.os.trans h.os, k.tape.trans h.tape, k.output.trans h.output, Nat.le_trans h.size k.size, fun i hi hne => (k.block i (Nat.lt_of_lt_of_le hi h.size) hne).trans (h.block i hi hne)⟩

theorem Own.grown {w w' : World} {B n c : Nat} {A : Option Addr} {xs : List Int} {row : Option Nat} (h : Own w B A n c xs) (hg : w.grownBy w' row) (hne : ∀ g, A = some ⟨g, 0, none⟩ → some g = row → False) : Own w' B A n c xs :=
  h.keep fun g hlt ha => hg.block g hlt (hne g ha)
/-- Between which bounds the row's block lies. -/
theorem Own.range {w : World} {B n c : Nat} {A : Option Addr} {xs : List Int} (h : Own w B A n c xs) : ∀ g, A = some ⟨g, 0, none⟩ → B ≤ g ∧ g < w.heap.size := by
  intro g hA
  rcases h.where_ with h0 | ⟨g', h1, h2, h3⟩
  · rw [h0] at hA; cases hA
  · rw [h1] at hA
    simp at hA
    subst hA
    exact ⟨h2, h3⟩
theorem row_of {w : World} {B n c k : Nat} {A : Option Addr} {xs : List Int} (h : Own w B A n c xs) (hk : A.map (·.block) = some k) : ∃ g, A = some ⟨g, 0, none⟩ ∧ g = k := by
  rcases h.where_ with h0 | ⟨g', h1, h2, h3⟩
  · rw [h0] at hk; cases hk
  · rw [h1] at hk ⊢
    simp at hk
    exact ⟨g', rfl, hk⟩

set_option maxHeartbeats 400000 in
theorem markIntS_any (B : Nat) (A : Option Addr) (n c : Nat) (xs : List Int) (k0 : Int) (w : World) (hv : Own w B A n c xs) (hn : n ≤ 1048576) (hk0 : 0 ≤ k0) (hk1 : k0 ≤ 1099511627776) :
    Calls Try.prog 28 #[.slice A n c, .int .i64 k0] w fun e w' => e = .returned (.int .i64 (k0 + (n : Int))) ∧ Own w' B A n c (marks k0 n) ∧ w.grownBy w' (A.map (·.block)) := by
  go_enter Try.func28, Try.ntmps28
  go_wp2
  go_loopw [1, 5] (fun kk i wr => ∃ (k : Nat) (zs : List Int), k ≤ n ∧ i = .int .i64 k ∧ kk = .int .i64 (k0 + (k : Int)) ∧ Own wr B A n c zs ∧ zs.take k = marks k0 k ∧ w.grownBy wr (A.map (·.block))) (fun _ i _ => n - (intOf i).toNat)
  case atStart => exact ⟨0, xs, Nat.zero_le _, rfl, by simp, hv, rfl, World.grownBy.refl _ _⟩
  case round =>
    obtain ⟨k, zs, hk, rfl, rfl, hown, htake, hgr⟩ := hrel
    have Ht := hide htake; clear htake
    have hzl := hide hown.len
    by_cases hlt : k < n
    · obtain ⟨g, rfl, hB, hg⟩ := hown.form (by omega)
      have h2 := hown.cell hlt
      have h3 := hown.frozen k
      go_wp2
      go_roundw
      case rel => exact ⟨k + 1, zs.set k (k0 + (k : Int)), by omega, by go_num, by congr 1; omega, hown.set_ k _, take_set_marks (by rw [hzl.out]; exact hlt) Ht.out, grown_set hgr _⟩
      case measure => simp [intOf]; omega
    · obtain rfl : k = n := by omega
      go_wp2
      go_ret
      have ez : zs = marks k0 k := by rw [← Ht.out, List.take_of_length_le (by rw [hzl.out]; omega)]
      exact ⟨rfl, ez ▸ hown, hgr⟩
theorem heldIntS_any (A : Option Addr) (n c : Nat) (k0 : Int) (w : World) (hv : Ints w A n (marks k0 n)) (hn : n ≤ 1048576) (hk0 : 0 ≤ k0) (hk1 : k0 ≤ 1099511627776) :
    Calls Try.prog 29 #[.slice A n c, .int .i64 k0] w fun e w' => e = .returned (.int .i64 (k0 + (n : Int))) ∧ w = w' := by
  go_enter Try.func29, Try.ntmps29
  go_wp2
  go_loop [1, 5] (fun kk i => ∃ (k : Nat), k ≤ n ∧ i = .int .i64 k ∧ kk = .int .i64 (k0 + (k : Int))) (fun _ i => n - (intOf i).toNat)
  case atStart => exact ⟨0, Nat.zero_le _, rfl, by simp⟩
  case round =>
    obtain ⟨k, hk, rfl, rfl⟩ := hrel
    by_cases hlt : k < n
    · obtain ⟨b, off, rfl, hb, hc⟩ := hv.at_ hlt
      rw [marks_gv hlt] at hc
      go_wp2
      go_round
      case rel => exact ⟨k + 1, by omega, by go_num, by congr 1; omega⟩
      case measure => simp [intOf]; omega
    · obtain rfl : k = n := by omega
      go_wp2
      go_ret
      exact ⟨rfl, rfl⟩
theorem szFunction_ok (E : Int) (A : Option Addr) (n c : Nat) (w : World) (hn : n ≤ 1048576) :
    Calls Try.prog 10 #[.agg #[.int .i64 E, .slice A n c], .int .i64 1048576] w fun e w' => e = .returned (.int .i64 (1048576 - (n : Int))) ∧ Below w.heap.size w w' := by
  go_enter Try.func10, Try.ntmps10
  go_wp2
  go_ret
  exact ⟨rfl, (Below.refl _ _).alloc (Nat.le_refl _) _⟩
theorem szFunction_big (E : Int) (A : Option Addr) (n c : Nat) (w : World) (hn : 1048576 < n) (hm : n ≤ 9223372036854775807) :
    Calls Try.prog 10 #[.agg #[.int .i64 E, .slice A n c], .int .i64 1048576] w fun e w' => e = .returned (.int .i64 (-1)) ∧ Below w.heap.size w w' := by
  go_enter Try.func10, Try.ntmps10
  go_wp2
  go_ret
  exact ⟨rfl, (Below.refl _ _).alloc (Nat.le_refl _) _⟩
theorem toFunction_any (E : Int) (A : Option Addr) (n c : Nat) (xs : List Int) (w : World) (hv : Ints w A n xs) (hn : n ≤ 1048576) :
    Calls Try.prog 12 #[.agg #[.int .i64 E, .slice A n c]] w fun e w' => ∃ g, e = .returned (.agg #[.int .i64 E, .slice (some ⟨g, 0, none⟩) n n]) ∧ Own w' w.heap.size (some ⟨g, 0, none⟩) n n xs ∧ Below w.heap.size w w' := by
  go_enter Try.func12, Try.ntmps12
  go_wp2_with fail
  refine (toIntS_any A n c xs _ ?_ hn).mono ?_
  · exact ((hv.alloc _).alloc _).alloc _
  rintro e w1 ⟨rfl, hown, hbel⟩
  obtain ⟨hc, hf⟩ := bcell hbel
  go_wp2
  refine bodyPost_ret (v := .agg #[.int .i64 E, .slice (some ⟨w.heap.size + 1 + 1 + 1, 0, none⟩) n n]) (by simp [results, Try.results12, go_sem, hc]) rfl ⟨w.heap.size + 1 + 1 + 1, rfl, ?_, ?_⟩
  · have ho : Own w1 w.heap.size (some ⟨w.heap.size + 1 + 1 + 1, 0, none⟩) n n xs := by
      have h := hown.less (B' := w.heap.size) (by simp; omega)
      simpa using h
    refine Own.far (Own.far (Own.far ho ?_ _) ?_ _) ?_ _ <;> (rintro g he; simp at he; subst he; simp; try omega)
  · exact ((((((Below.refl w.heap.size w).alloc (Nat.le_refl _) _).alloc (by simp) _).alloc (by simp; omega) _).trans (hbel.mono (by simp; omega))).setCell (by simp; omega) _ |>.setCell (by simp) _ |>.setCell (by simp) _)
theorem eqFunction_any (E E' : Int) (A A' : Option Addr) (n n' c c' : Nat) (xs ys : List Int) (w : World) (hx : Ints w A n xs) (hy : Ints w A' n' ys) :
    Calls Try.prog 14 #[.agg #[.int .i64 E, .slice A n c], .agg #[.int .i64 E', .slice A' n' c']] w fun e w' => e = .returned (.bool (decide (E = E') && decide (xs = ys))) ∧ Below w.heap.size w w' := by
  by_cases hE : E = E'
  · subst hE
    go_enter Try.func14, Try.ntmps14
    go_wp2_with fail
    refine (eqIntS_any A A' n n' c c' xs ys _ ((hx.alloc _).alloc _) ((hy.alloc _).alloc _)).mono ?_
    rintro e w1 ⟨rfl, hbel⟩
    have hb : Below w.heap.size w w1 := (((Below.refl w.heap.size w).alloc (Nat.le_refl _) _).alloc (by simp) _).trans (hbel.mono (by simp; omega))
    go_wp2
    all_goals go_ret
    all_goals exact ⟨ret_bool (by simp_all), hb⟩
  · have e1 : (E != E') = true := by simp [hE]
    go_enter Try.func14, Try.ntmps14
    go_wp2
    go_ret
    exact ⟨ret_bool (by simp [hE]), ((Below.refl w.heap.size w).alloc (Nat.le_refl _) _).alloc (by simp) _⟩
theorem markFunction_any (B : Nat) (E : Int) (A : Option Addr) (n c : Nat) (xs : List Int) (k0 : Int) (w : World) (hv : Own w B A n c xs) (hn : n ≤ 1048576) (hk0 : 0 ≤ k0) (hk1 : k0 ≤ 1099511627776) :
    Calls Try.prog 17 #[.agg #[.int .i64 E, .slice A n c], .int .i64 k0] w fun e w' => e = .returned (.int .i64 (k0 + (n : Int))) ∧ Own w' B A n c (marks k0 n) ∧ w.grownBy w' (A.map (·.block)) := by
  go_enter Try.func17, Try.ntmps17
  go_wp2_with fail
  refine (markIntS_any B A n c xs k0 _ (hv.alloc _) hn hk0 hk1).mono ?_
  rintro e w1 ⟨rfl, hown, hg⟩
  go_wp2
  go_ret
  exact ⟨rfl, hown, grown_trans (World.grownBy_alloc w _ _) hg⟩
theorem heldFunction_any (E : Int) (A : Option Addr) (n c : Nat) (k0 : Int) (w : World) (hv : Ints w A n (marks k0 n)) (hn : n ≤ 1048576) (hk0 : 0 ≤ k0) (hk1 : k0 ≤ 1099511627776) :
    Calls Try.prog 18 #[.agg #[.int .i64 E, .slice A n c], .int .i64 k0] w fun e w' => e = .returned (.int .i64 (k0 + (n : Int))) ∧ Below w.heap.size w w' := by
  go_enter Try.func18, Try.ntmps18
  go_wp2_with fail
  refine (heldIntS_any A n c k0 _ (hv.alloc _) hn hk0 hk1).mono ?_
  rintro e w1 ⟨rfl, rfl⟩
  go_wp2
  go_ret
  exact ⟨rfl, (Below.refl w.heap.size w).alloc (Nat.le_refl _) _⟩
end Go.Proofs.Ytfmibekefllhjaa
