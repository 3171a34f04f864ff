/-
  Walks: the elements by descending numbers, by the program.
-/
import Derived.Test.YtokeejachclpeaaDesc
namespace Go.Proofs.Ytokeejachclpeaa
open Go.RowKit

set_option maxHeartbeats 1000000 in
theorem stableCmp_any (A : Option Addr) (n c : Nat) (x : List Int) (B0 g cr bx : Nat) (w : World) (hx : Ints w A n x) (hok : vecOk 1000 x = true) (f0 : w.cell? ⟨bx, 0, none⟩ = some (.slice A n c))
    (hown : Own w B0 (some ⟨g, 0, none⟩) n cr (marks 0 n)) (hg1 : bx ≠ g) (hg2 : 0 < n → ∀ b off, A = some ⟨b, off, none⟩ → b ≠ g) :
    Calls Try.prog 222 #[.slice (some ⟨g, 0, none⟩) n cr, .int .i64 (n : Int), .func (.func 215) #[] #[.pointer (some ⟨bx, 0, none⟩)]] w fun e w' => e = .returned (.tuple #[]) ∧ Own w' B0 (some ⟨g, 0, none⟩) n cr (ordD x n) ∧ w.grownBy w' (some g) := by
  have hn5 : n ≤ 5 := by rw [← hx.len]; exact (vecOk_true hok).1
  have HS := hide (insSort_any A n c x B0 g cr bx w hx hok f0 hown hg1 hg2)
  clear hx hok f0 hown hg1 hg2
  have h20 : ¬ (20 : Int) ≤ (n : Int) := by omega
  have h21 : ¬ (20 : Int) < (n : Int) := by omega
  go_enter Try.func222, Try.ntmps222
  go_wp2
  go_loopw [7, 8] (fun s t wr => s = .int .i64 0 ∧ t = .int .i64 20 ∧ wr = w) (fun _ _ _ => 0)
  case atStart => exact ⟨rfl, rfl, rfl⟩
  case round =>
    obtain ⟨rfl, rfl, rfl⟩ := hrel
    go_wp2_with fail
    refine HS.out.mono ?_
    rintro e w1 ⟨rfl, hown, hgr⟩
    go_wp2
    go_loopw [6] (fun t wq => t = .int .i64 20 ∧ wq = w1) (fun _ _ => 0)
    case atStart => exact ⟨rfl, rfl⟩
    case round =>
      obtain ⟨rfl, rfl⟩ := hrel
      go_wp2
      go_end0
      exact ⟨rfl, hown, hgr⟩
theorem sortStable_any (A : Option Addr) (n c : Nat) (x : List Int) (B0 g cr bx : Nat) (w : World) (hx : Ints w A n x) (hok : vecOk 1000 x = true) (f0 : w.cell? ⟨bx, 0, none⟩ = some (.slice A n c))
    (hown : Own w B0 (some ⟨g, 0, none⟩) n cr (marks 0 n)) (hg1 : bx ≠ g) (hg2 : 0 < n → ∀ b off, A = some ⟨b, off, none⟩ → b ≠ g) :
    Calls Try.prog 214 #[.slice (some ⟨g, 0, none⟩) n cr, .func (.func 215) #[] #[.pointer (some ⟨bx, 0, none⟩)]] w fun e w' => e = .returned (.tuple #[]) ∧ Own w' B0 (some ⟨g, 0, none⟩) n cr (ordD x n) ∧ w.grownBy w' (some g) := by
  have hle := hx.le
  have HS := hide (stableCmp_any A n c x B0 g cr bx w hx hok f0 hown hg1 hg2)
  clear hx hok f0 hown hg1 hg2
  go_enter Try.func214, Try.ntmps214
  go_wp2_with fail
  refine HS.out.mono ?_
  rintro e w1 ⟨rfl, hown, hgr⟩
  go_wp2
  go_end0
  exact ⟨rfl, hown, hgr⟩
set_option maxHeartbeats 1000000 in
theorem descending_any (A : Option Addr) (n c : Nat) (x : List Int) (w : World) (hx : Ints w A n x) (hok : vecOk 1000 x = true) :
    Calls Try.prog 180 #[.slice A n c] w fun e w' => ∃ B cr, e = .returned (.slice B n cr) ∧ Own w' w.heap.size B n cr (ordD x n) ∧ Below w.heap.size w w' := by
  have hn5 : n ≤ 5 := by rw [← hx.len]; exact (vecOk_true hok).1
  have Hok := hide hok; clear hok
  have hmk := fun W => make_ints n (by omega) W
  have hmf : ∀ (fn : Fn) (first cap : Array Value) (w : World), (Instr.makeFunc fn first cap).run Try.prog w = .ok (.func fn first cap) w := fun _ _ _ _ => rfl
  have z0 : (w.alloc (.cells #[.slice A n c] 24)).heap.size = w.heap.size + 1 := by simp
  have hO := own_made n (by omega) (w.alloc (.cells #[.slice A n c] 24)) (B := w.heap.size + 1) (by simp)
  rw [z0] at hO
  have hB0 : Below w.heap.size w (w.alloc (.cells #[.slice A n c] 24)) := (Below.refl _ _).alloc (Nat.le_refl _) _
  have hc0 : (w.alloc (.cells #[.slice A n c] 24)).cell? ⟨w.heap.size, 0, none⟩ = some (.slice A n c) := by rw [World.cell?_alloc_at _ _ _ _ rfl]; rfl
  have hB1 : Below w.heap.size w ((w.alloc (.cells #[.slice A n c] 24)).alloc (.cells (madeCells #[.int .i64 0] n) 3)) := hB0.alloc (by simp) _
  have hc1 : ((w.alloc (.cells #[.slice A n c] 24)).alloc (.cells (madeCells #[.int .i64 0] n) 3)).cell? ⟨w.heap.size, 0, none⟩ = some (.slice A n c) := by
    rw [World.cell?_alloc_lt _ _ _ (by simp)]; exact hc0
  clear z0 hB0 hc0
  go_enter Try.func180, Try.ntmps180
  go_wp2
  go_loopw [10] (fun t wr => ∃ (k : Nat) (zs : List Int), k ≤ n ∧ t = .int .i64 k ∧ Own wr (w.heap.size + 1) (some ⟨w.heap.size + 1, 0, none⟩) n n zs ∧ zs.take k = marks 0 k ∧ wr.cell? ⟨w.heap.size, 0, none⟩ = some (.slice A n c) ∧ Below w.heap.size w wr) (fun t _ => n - (intOf t).toNat)
  case atStart => exact ⟨0, _, Nat.zero_le _, rfl, hO, rfl, hc1, hB1⟩
  clear hO hB1 hc1
  case round =>
    obtain ⟨k, zs, hk, rfl, hown, htake, hcx, hbel⟩ := hrel
    have Ht := hide htake; clear htake
    have hzl := hide hown.len
    by_cases hlt : k < n
    · have h2 := hown.cell hlt
      have h3 := hown.frozen k
      have ht2 := hide (take_set_marks (k0 := 0) (zs := zs) (k := k) (by rw [hzl.out]; exact hlt) Ht.out)
      rw [Int.zero_add] at ht2
      have hbx := World.block_lt_of_cell? _ _ hcx
      go_wp2
      go_roundw
      case rel => exact ⟨k + 1, zs.set k (k : Int), by omega, by go_num, hown.set_ k _, ht2.out, (World.cell?_of_block (a := ⟨w.heap.size, 0, none⟩) (Below.heap_setCell wr ⟨w.heap.size + 1, k, none⟩ (.int .i64 (k : Int)) w.heap.size (by simp))).trans hcx, hbel.setCell (by simp) _⟩
      case measure => simp [intOf]; omega
    · obtain rfl : k = n := by omega
      have ez : zs = marks 0 k := by rw [← Ht.out, List.take_of_length_le (by rw [hzl.out]; exact Nat.le_refl _)]
      rw [ez] at hown
      clear ez hmk
      have HS := hide (sortStable_any A k c x (w.heap.size + 1) (w.heap.size + 1) k w.heap.size wr (hx.below hbel (Nat.le_refl _)) Hok.out hcx hown (by omega) (fun h0 b off hA => by
        obtain ⟨b', off', e, hb', _⟩ := hx.all_ h0
        rw [hA] at e; injection e with e; injection e with e _ _; omega))
      go_wp2_with fail
      refine HS.out.mono ?_
      rintro e w1 ⟨rfl, hown2, hgr⟩
      go_wp2
      go_ret
      exact ⟨_, k, rfl, hown2.less (Nat.le_succ _), hbel.grown hgr (by have := hbel.size; omega) (fun k hk => by injection hk with hk; omega)⟩
end Go.Proofs.Ytokeejachclpeaa
