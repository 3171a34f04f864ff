/-
  Rows of rows of the call's own ([][]int): what they hold, what keeps them, append.
  Walks: all orders of the elements, by the program and by the reference.
  Walks: all corners, each once.
-/
import Derived.Test.YtfmibekefllhjaaCore
import Derived.Test.YtfmibekefllhjaaLatt
import Derived.Test.YtfmibekefllhjaaCapM
import Derived.Test.YtfmibekefllhjaaCorner
import Derived.Test.YtfmibekefllhjaaSymA
import Derived.Deep.RegionHeld3
namespace Go.Proofs.Ytfmibekefllhjaa
open Go.RowKit

theorem row_info : (Try.prog.info? 22).map (fun i => (i.zero, i.size, i.bytes)) = some (some (.slice none 0 0), 1, 24) := by kernel_rfl
/-- A row of slices of the call's own. -/
def OwnV (w : World) (B : Nat) (A : Option Addr) (n c : Nat) (vs : List Value) : Prop := w.ownsRow B 22 1 (.slice A n c) n vs
section
variable {w w' : World} {B n c : Nat} {A : Option Addr} {vs : List Value}
theorem OwnV.len (h : OwnV w B A n c vs) : vs.length = n := by simpa using h.1
theorem OwnV.where_ (h : OwnV w B A n c vs) : A = none ∨ ∃ g, A = some ⟨g, 0, none⟩ ∧ B ≤ g ∧ g < w.heap.size ∧ ∃ cur, w.heap[g]? = some (.cells cur 22 (0, 0)) := by
  rcases h.2 with ⟨hv, _⟩ | ⟨g, cap, cur, hv, hb, hg, _⟩
  · injection hv with h1 _ _; exact .inl h1
  · injection hv with h1 h2 h3
    exact .inr ⟨g, h1, hb, (Array.getElem?_eq_some_iff.1 hg).1, cur, hg⟩
theorem OwnV.form (h : OwnV w B A n c vs) (hn : 0 < n) : ∃ g, A = some ⟨g, 0, none⟩ ∧ B ≤ g ∧ g < w.heap.size := by
  rcases h.2 with ⟨_, h0⟩ | ⟨g, cap, cur, hv, hb, hg, _⟩
  · omega
  · injection hv with h1 h2 h3
    exact ⟨g, h1, hb, (Array.getElem?_eq_some_iff.1 hg).1⟩
theorem OwnV.cell {g : Nat} (h : OwnV w B (some ⟨g, 0, none⟩) n c vs) {k : Nat} {u : Value} (hk : vs[k]? = some u) : w.cell? ⟨g, k, none⟩ = some u := by
  have hlt : k < n := by rw [← h.len]; exact (List.getElem?_eq_some_iff.1 hk).1
  rw [World.ownsRow.cellAt h k (by omega)]
  exact hk
theorem OwnV.le (h : OwnV w B A n c vs) : n ≤ 9223372036854775807 := by
  rcases h.2 with ⟨_, h0⟩ | ⟨g, cap, cur, hv, _, _, hnc, hcm, _⟩
  · omega
  · simp only [maxLen] at hcm; omega
theorem OwnV.cap (h : OwnV w B A n c vs) : n ≤ c := by
  rcases h.2 with ⟨hv, h0⟩ | ⟨g, cap, cur, hv, _, _, hnc, _⟩
  · injection hv with _ h2 h3; omega
  · injection hv with _ h2 h3; omega
theorem OwnV.alloc (h : OwnV w B A n c vs) (o : Obj) : OwnV (w.alloc o) B A n c vs := World.ownsRow.alloc h o
theorem OwnV.less {B' : Nat} (h : OwnV w B A n c vs) (hB : B' ≤ B) : OwnV w B' A n c vs := by
  refine ⟨h.1, ?_⟩
  rcases h.2 with h2 | ⟨g, cap, cur, hv, hg, r⟩
  · exact Or.inl h2
  · exact Or.inr ⟨g, cap, cur, hv, Nat.le_trans hB hg, r⟩
theorem OwnV.keep (h : OwnV w B A n c vs) (hk : ∀ g, g < w.heap.size → A = some ⟨g, 0, none⟩ → w'.heap[g]? = w.heap[g]?) : OwnV w' B A n c vs := by
  refine ⟨h.1, ?_⟩
  rcases h.2 with h2 | ⟨g, cap, cur, hv, hg, hh, r⟩
  · exact Or.inl h2
  · refine Or.inr ⟨g, cap, cur, hv, hg, ?_, r⟩
    rw [hk g (Array.getElem?_eq_some_iff.1 hh).1 (by injection hv)]
    exact hh
theorem OwnV.below (h : OwnV w B A n c vs) {B' : Nat} (hb : Below B' w w') (hB : w.heap.size ≤ B') : OwnV w' B A n c vs :=
  h.keep fun g hg _ => hb.block g (Nat.lt_of_lt_of_le hg hB)
theorem ownV_none (w : World) {B : Nat} (hB : B ≤ w.heap.size) : OwnV (w.alloc (.cells #[] 22)) B (some ⟨w.heap.size, 0, none⟩) 0 0 [] :=
  World.ownsRow_made (base := B) (e := 22) (size := 1) w #[] 0 hB (by simp [maxLen]) rfl
theorem ownV_nil (w : World) (B : Nat) : OwnV w B none 0 0 [] := World.ownsRow_nil w B _ _
theorem ownV_one (w : World) {B : Nat} (hB : B ≤ w.heap.size) (u : Value) : OwnV (w.alloc (.cells #[u] 22)) B (some ⟨w.heap.size, 0, none⟩) 1 1 [u] :=
  World.ownsRow_lit (e := 22) (size := 1) w #[u] 1 hB (by simp [maxLen]) (by simp)
end

/-- A slice value that reads as a row of ints of the call's own. -/
def RowAt (w : World) (B : Nat) (u : Value) (L : List Int) : Prop := ∃ A n c, u = .slice A n c ∧ Own w B A n c L
/-- What is kept from w to w': the blocks that hold ints. -/
def KeptI (w w' : World) : Prop := w.heap.size ≤ w'.heap.size ∧ ∀ (g : Nat) (cur : Array Value), w.heap[g]? = some (Obj.cells cur 3 (0, 0)) → w'.heap[g]? = w.heap[g]?
theorem KeptI.refl (w : World) : KeptI w w := ⟨Nat.le_refl _, fun _ _ _ => rfl⟩
theorem KeptI.trans {a b c : World} (h : KeptI a b) (k : KeptI b c) : KeptI a c := ⟨Nat.le_trans h.1 k.1, fun g cur hg => by
  have h1 := h.2 g cur hg
  rw [← h1]
  exact k.2 g cur (by rw [h1]; exact hg)⟩
theorem KeptI.below {w w' : World} (h : Below w.heap.size w w') : KeptI w w' := ⟨h.size, fun g _ hg => h.block g (Array.getElem?_eq_some_iff.1 hg).1⟩
theorem KeptI.alloc {w w' : World} (h : KeptI w w') (o : Obj) : KeptI w (w'.alloc o) := h.trans (.below ((Below.refl _ _).alloc (Nat.le_refl _) o))
theorem KeptI.grown {w w' : World} {B n c : Nat} {A : Option Addr} {vs : List Value} (h : OwnV w B A n c vs) (hg : w.grownBy w' (A.map (·.block))) : KeptI w w' := ⟨hg.size, fun g cur hc => hg.block g (Array.getElem?_eq_some_iff.1 hc).1 (fun hk => by
  rcases h.where_ with h0 | ⟨g', h1, _, _, cur', h3⟩
  · rw [h0] at hk; cases hk
  · rw [h1] at hk
    simp at hk
    subst hk
    rw [h3] at hc
    simp at hc)⟩
theorem Own.keptI {w w' : World} {B n c : Nat} {A : Option Addr} {L : List Int} (h : Own w B A n c L) (hk : KeptI w w') : Own w' B A n c L := by
  refine ⟨h.1, ?_⟩
  rcases h.2 with h2 | ⟨g, cap, cur, hv, hg, hh, r⟩
  · exact Or.inl h2
  · refine Or.inr ⟨g, cap, cur, hv, hg, ?_, r⟩
    rw [hk.2 g cur hh]
    exact hh
theorem RowAt.kept {w w' : World} {B : Nat} {u : Value} {L : List Int} (h : RowAt w B u L) (hk : KeptI w w') : RowAt w' B u L := by
  obtain ⟨A, n, c, rfl, ho⟩ := h
  exact ⟨A, n, c, rfl, ho.keptI hk⟩
theorem RowAt.less {w : World} {B B' : Nat} {u : Value} {L : List Int} (h : RowAt w B u L) (hB : B' ≤ B) : RowAt w B' u L := by
  obtain ⟨A, n, c, rfl, ho⟩ := h
  exact ⟨A, n, c, rfl, ho.less hB⟩
/-- All slices read as rows of the call's own. -/
def RowsAt (w : World) (B : Nat) : List Value → List (List Int) → Prop
  | [], [] => True
  | u :: vs, L :: Ls => RowAt w B u L ∧ RowsAt w B vs Ls
  | _, _ => False
theorem RowsAt.len {w : World} {B : Nat} : ∀ {vs : List Value} {Ls : List (List Int)}, RowsAt w B vs Ls → vs.length = Ls.length
  | [], [], _ => rfl
  | _ :: _, _ :: _, h => by simp [RowsAt.len h.2]
  | [], _ :: _, h => by cases h
  | _ :: _, [], h => by cases h
theorem RowsAt.kept {w w' : World} {B : Nat} (hk : KeptI w w') : ∀ {vs : List Value} {Ls : List (List Int)}, RowsAt w B vs Ls → RowsAt w' B vs Ls
  | [], [], _ => trivial
  | _ :: _, _ :: _, h => ⟨h.1.kept hk, RowsAt.kept hk h.2⟩
  | [], _ :: _, h => by cases h
  | _ :: _, [], h => by cases h
theorem RowsAt.less {w : World} {B B' : Nat} (hB : B' ≤ B) : ∀ {vs : List Value} {Ls : List (List Int)}, RowsAt w B vs Ls → RowsAt w B' vs Ls
  | [], [], _ => trivial
  | _ :: _, _ :: _, h => ⟨h.1.less hB, RowsAt.less hB h.2⟩
  | [], _ :: _, h => by cases h
  | _ :: _, [], h => by cases h
theorem RowsAt.append {w : World} {B : Nat} {ws : List Value} {Ms : List (List Int)} (k : RowsAt w B ws Ms) : ∀ {vs : List Value} {Ls : List (List Int)}, RowsAt w B vs Ls → RowsAt w B (vs ++ ws) (Ls ++ Ms)
  | [], [], _ => k
  | _ :: _, _ :: _, h => ⟨h.1, RowsAt.append k h.2⟩
  | [], _ :: _, h => by cases h
  | _ :: _, [], h => by cases h
theorem RowsAt.one {w : World} {B : Nat} {u : Value} {L : List Int} (h : RowAt w B u L) : RowsAt w B [u] [L] := ⟨h, trivial⟩
theorem RowsAt.get {w : World} {B : Nat} : ∀ {vs : List Value} {Ls : List (List Int)}, RowsAt w B vs Ls → ∀ {k : Nat}, k < Ls.length → ∃ A n c, vs[k]? = some (.slice A n c) ∧ Own w B A n c (Ls.getD k [])
  | [], [], _, k, hk => by simp at hk
  | u :: vs, L :: Ls, h, 0, _ => by
    obtain ⟨A, n, c, rfl, ho⟩ := h.1
    exact ⟨A, n, c, rfl, by simpa using ho⟩
  | u :: vs, L :: Ls, h, k + 1, hk => by
    obtain ⟨A, n, c, h1, h2⟩ := RowsAt.get h.2 (k := k) (by simpa using hk)
    exact ⟨A, n, c, by simpa using h1, by simpa using h2⟩
  | [], _ :: _, h, _, _ => by cases h
  | _ :: _, [], h, _, _ => by cases h

/-! append to a row of rows -/
theorem run_appvs (ty : TypeId) (B : Nat) (A : Option Addr) (n c : Nat) (vs : List Value) (X : Option Addr) (m cx B2 : Nat) (ws : List Value) (w : World) (hown : OwnV w B A n c vs) (hy : OwnV w B2 X m cx ws) (hone : ∀ u ∈ ws, ∃ a k l, u = .slice a k l)
    (hn : n ≤ 1048576) (hm : m ≤ 1048576) (hB : B ≤ w.heap.size) :
    ∃ A' c' w', (Builtin.append_ #[43, 43] ty #[.slice A n c, .slice X m cx]).run Try.prog w = .ok (.slice A' (n + m) c') w' ∧ OwnV w' B A' (n + m) c' (vs ++ ws) ∧ w.grownBy w' (A.map (·.block)) ∧ (A' = A ∨ A' = some ⟨w.heap.size, 0, none⟩) := by
  obtain ⟨i0, hi0, hz0, hz1, hz2⟩ := info_parts row_info
  have hyl := hy.len
  by_cases h0 : m = 0
  · subst h0
    have e : ws = [] := List.length_eq_zero_iff.1 hyl
    subst e
    refine ⟨A, c, w, ?_, by simpa using hown, World.grownBy.refl _ _, .inl rfl⟩
    have hle := hown.cap
    have hu := Try.underlying43
    cases A <;> cases X <;> simp [Builtin.append_, run_underlying hu, sizeOf, typeInfo, hi0, Builtin.lenOf, hle, Builtin.firstCells, loadCells, loadCellsFrom, storeCells]
  · obtain ⟨b, rfl, _, _⟩ := hy.form (by omega)
    obtain ⟨v', w', hr, h2, h3, _, h5⟩ := run_append_own_at (P := Try.prog) w B 43 ty 22 i0 _ 1 24 Try.underlying43 hi0 hz0 hz1 hz2 rfl (by omega) (.slice A n c) n vs hown ⟨b, 0, none⟩ m cx ws
      (by simp [hyl]) (fun j u hu => by
        have hadd : (⟨b, 0, none⟩ : Addr).add j = ⟨b, j, none⟩ := by unfold Addr.add; split <;> simp_all
        rw [hadd]
        exact hy.cell hu) (fun u hu => by
          obtain ⟨a, k, l, rfl⟩ := hone u hu
          simp [Value.oneCell']) (by simp only [maxLen]; omega) (by omega) hB
    have hsh : ∃ g cap, v' = .slice (some ⟨g, 0, none⟩) (n + m) cap := by
      rcases h2.2 with ⟨_, hz⟩ | ⟨g, cap, cur, hv, _⟩
      · omega
      · exact ⟨g, cap, hv⟩
    obtain ⟨g, cap, rfl⟩ := hsh
    refine ⟨_, cap, w', hr, h2, by rw [← own_block A n c]; exact h3, ?_⟩
    rcases h5 with h5 | h5
    · left
      rcases hown.where_ with e | ⟨g', e, _, _⟩
      · subst e; simp [Value.ownBlock] at h5
      · subst e; simp [Value.ownBlock] at h5; subst h5; rfl
    · right
      simp [Value.ownBlock] at h5
      rw [h5]
theorem RowsAt.slices {w : World} {B : Nat} : ∀ {vs : List Value} {Ls : List (List Int)}, RowsAt w B vs Ls → ∀ u ∈ vs, ∃ a k l, u = .slice a k l
  | [], [], _, u, hu => by cases hu
  | x :: vs, L :: Ls, h, u, hu => by
    rcases List.mem_cons.1 hu with rfl | hu
    · obtain ⟨A, n, c, e, _⟩ := h.1
      exact ⟨A, n, c, e⟩
    · exact RowsAt.slices h.2 u hu
  | [], _ :: _, h, _, _ => by cases h
  | _ :: _, [], h, _, _ => by cases h
section
variable {w : World}
theorem wp_appvs {o : Oper} {a : Act} {K : Act → World → Prop} {Q : Exit → Act → World → Prop} (s x : Operand)
    (ho : o.op = .call { callee := .builtin .append, args := #[s, x], argTypes := #[43, 43] })
    (B : Nat) (A : Option Addr) (n c : Nat) (vs : List Value) (X : Option Addr) (m cx B2 : Nat) (ws : List Value) (hs : a.eval s = .slice A n c) (hx : a.eval x = .slice X m cx)
    (hown : OwnV w B A n c vs) (hy : OwnV w B2 X m cx ws) (hone : ∀ u ∈ ws, ∃ a k l, u = .slice a k l) (hn : n ≤ 1048576) (hm : m ≤ 1048576) (hB : B ≤ w.heap.size)
    (h : ∀ A' c' w', OwnV w' B A' (n + m) c' (vs ++ ws) → w.grownBy w' (A.map (·.block)) → (A' = A ∨ A' = some ⟨w.heap.size, 0, none⟩) → K (a.put o.dst (.slice A' (n + m) c')) w') : o.wp Try.prog a w K Q := by
  obtain ⟨A', c', w', hr, h2, h3, h4⟩ := run_appvs o.type B A n c vs X m cx B2 ws w hown hy hone hn hm hB
  unfold Oper.wp execOp
  simp only [ho, resolve, invoke, builtin, Sem.run_bind, Sem.run_pure, Result.andThen_ok, List.map_toArray, List.map_cons, List.map_nil, hs, hx, hr]
  exact h A' c' w' h2 h3 h4
theorem wpl_appvs {ops : Array Oper} {rest : List Oper} {o : Oper} {a : Act} {Q : Exit → Act → World → Prop} (hgd : o.guard = none) (s x : Operand)
    (ho : o.op = .call { callee := .builtin .append, args := #[s, x], argTypes := #[43, 43] })
    (B : Nat) (A : Option Addr) (n c : Nat) (vs : List Value) (X : Option Addr) (m cx B2 : Nat) (ws : List Value) (hs : a.eval s = .slice A n c) (hx : a.eval x = .slice X m cx)
    (hown : OwnV w B A n c vs) (hy : OwnV w B2 X m cx ws) (hone : ∀ u ∈ ws, ∃ a k l, u = .slice a k l) (hn : n ≤ 1048576) (hm : m ≤ 1048576) (hB : B ≤ w.heap.size)
    (h : ∀ A' c' w', OwnV w' B A' (n + m) c' (vs ++ ws) → w.grownBy w' (A.map (·.block)) → (A' = A ∨ A' = some ⟨w.heap.size, 0, none⟩) → wpList Try.prog ops Q rest (a.put o.dst (.slice A' (n + m) c')) w') : wpList Try.prog ops Q (o :: rest) a w :=
  wpList_plain hgd fun _ hK => wp_appvs s x ho B A n c vs X m cx B2 ws hs hx hown hy hone hn hm hB fun A' c' w' h2 h3 h4 => hK _ _ (h A' c' w' h2 h3 h4)
end
end Go.Proofs.Ytfmibekefllhjaa
namespace Go.Proofs.Ytfmibekefllhjaa
open Go.RowKit

/-- All orders of N elements that begin with p, of which f are to come. -/
def ordsR (N : Nat) : Nat → List Int → List (List Int)
  | 0, p => [p]
  | f + 1, p => (List.range N).flatMap fun x : Nat => if hasI p (x : Int) then [] else ordsR N f (p ++ [(x : Int)])
def ordsP (N f : Nat) (p : List Int) (k : Nat) : List (List Int) := (List.range k).flatMap fun x : Nat => if hasI p (x : Int) then [] else ordsR N f (p ++ [(x : Int)])
theorem ordsR_succ (N f : Nat) (p : List Int) : ordsR N (f + 1) p = ordsP N f p N := rfl
theorem ordsP_in {N f : Nat} {p : List Int} {k : Nat} (h : hasI p (k : Int) = true) : ordsP N f p (k + 1) = ordsP N f p k := by
  simp [ordsP, List.range_succ, h]
theorem ordsP_out {N f : Nat} {p : List Int} {k : Nat} (h : hasI p (k : Int) = false) : ordsP N f p (k + 1) = ordsP N f p k ++ ordsR N f (p ++ [(k : Int)]) := by
  simp [ordsP, List.range_succ, h]
theorem ordsR_len (N : Nat) : ∀ f p, (ordsR N f p).length ≤ N ^ f
  | 0, p => by simp [ordsR]
  | f + 1, p => by
    have key : ∀ k, (ordsP N f p k).length ≤ k * N ^ f := by
      intro k
      induction k with
      | zero => simp [ordsP]
      | succ k ih =>
        have h1 := ordsR_len N f (p ++ [(k : Int)])
        cases h : hasI p (k : Int)
        · rw [ordsP_out h, List.length_append, Nat.succ_mul]; omega
        · rw [ordsP_in h, Nat.succ_mul]; omega
    rw [ordsR_succ, Nat.pow_succ, Nat.mul_comm]
    exact key N
theorem ordsP_len (N f : Nat) (p : List Int) : ∀ k, (ordsP N f p k).length ≤ k * N ^ f
  | 0 => by simp [ordsP]
  | k + 1 => by
    have ih := ordsP_len N f p k
    have h1 := ordsR_len N f (p ++ [(k : Int)])
    cases h : hasI p (k : Int)
    · rw [ordsP_out h, List.length_append, Nat.succ_mul]; omega
    · rw [ordsP_in h, Nat.succ_mul]; omega
theorem pow4 {N f : Nat} (hN : N ≤ 4) (hf : f ≤ 4) : N ^ f ≤ 256 := by
  have h1 : N ^ f ≤ 4 ^ f := Nat.pow_le_pow_left hN f
  have h2 : 4 ^ f ≤ 4 ^ 4 := Nat.pow_le_pow_right (by omega) hf
  omega
theorem hasI_take {l : List Int} {k : Nat} {x : Int} (hk : k < l.length) : hasI (l.take (k + 1)) x = (hasI (l.take k) x || decide (gv l k = x)) := by
  rw [take_gv hk]
  unfold hasI
  rw [Bool.eq_iff_iff]
  simp only [List.mem_append, List.mem_singleton, Bool.or_eq_true, decide_eq_true_eq]
  constructor
  · rintro (h | h)
    · exact .inl h
    · exact .inr h.symm
  · rintro (h | h)
    · exact .inl h
    · exact .inr h.symm

set_option maxHeartbeats 4000000 in
theorem l8Orders_any (N : Nat) (hN : N ≤ 4) : ∀ (f n : Nat) (A : Option Addr) (c : Nat) (p : List Int) (B0 : Nat) (w : World), n + f = N → Own w B0 A n c p → B0 ≤ w.heap.size →
    Calls Try.prog 56 #[.int .i64 (N : Int), .slice A n c] w fun e w' => ∃ B r cr vs, e = .returned (.slice B r cr) ∧ OwnV w' w.heap.size B r cr vs ∧ RowsAt w' B0 vs (ordsR N f p) ∧ Below w.heap.size w w' := by
  intro f
  induction f with
  | zero =>
    intro n A c p B0 w hnf hp hB
    obtain rfl : n = N := by omega
    clear hnf
    go_enter Try.func56, Try.ntmps56
    go_wp2
    go_ret
    exact ⟨_, 1, 1, [.slice A n c], rfl, ownV_one w (Nat.le_refl _) _, .one ⟨A, n, c, rfl, hp.alloc _⟩, (Below.refl _ _).alloc (Nat.le_refl _) _⟩
  | succ f ih =>
    intro n A c p B0 w hnf hp hB
    have hne : ((n : Int) == (N : Int)) = false := by simp; omega
    have hplen := hide hp.len
    have hn4 : n ≤ 4 := by omega
    have hO := ownV_none w (Nat.le_refl w.heap.size)
    have hB1 := (Below.refl w.heap.size w).alloc (Nat.le_refl _) (.cells #[] 22)
    have IH := hide ih
    have HNF := hide hnf
    clear ih hnf
    go_enter Try.func56, Try.ntmps56
    go_wp2
    clear hne
    go_loopw [5, 6] (fun l t wr => ∃ (k : Nat) (B : Option Addr) (r cr : Nat) (vs : List Value), k ≤ N ∧ t = .int .i64 k ∧ l = .slice B r cr ∧ OwnV wr w.heap.size B r cr vs ∧ RowsAt wr B0 vs (ordsP N f p k) ∧ Below w.heap.size w wr) (fun _ t _ => N - (intOf t).toNat)
    case atStart => exact ⟨0, _, 0, 0, [], Nat.zero_le _, rfl, rfl, hO, trivial, hB1⟩
    clear hO hB1
    case round =>
      obtain ⟨k, B, r, cr, vs, hk, rfl, rfl, hoV, hrows, hbel⟩ := hrel
      have hszw := hbel.size
      by_cases hlt : k < N
      · have hpr := hp.below hbel (Nat.le_refl _)
        have hpi := hpr.ints
        go_wp2
        go_loop [7, 8] (fun u t => ∃ (i : Nat), i ≤ n ∧ t = .int .i64 i ∧ u = .bool (hasI (p.take i) (k : Int))) (fun _ t => n - (intOf t).toNat)
        case atStart => exact ⟨0, Nat.zero_le _, rfl, rfl⟩
        case round =>
          obtain ⟨i, hi, rfl, rfl⟩ := hrel
          by_cases hin : i < n
          · obtain ⟨b, off, rfl, hb, hc⟩ := hpi.at_ hin
            have hst := hide (hasI_take (l := p) (k := i) (x := (k : Int)) (by rw [hplen.out]; exact hin))
            cases hq : hasI (p.take i) (k : Int)
            · rw [hq] at hst
              go_wp2
              go_round
              case rel => exact ⟨i + 1, by omega, by go_num, by rw [hst.out, Bool.false_or]; rfl⟩
              case measure => simp [intOf]; omega
            · rw [hq] at hst
              go_wp2
              go_round
              case rel => exact ⟨i + 1, by omega, by go_num, by rw [hst.out, Bool.true_or]⟩
              case measure => simp [intOf]; omega
          · obtain rfl : i = n := by omega
            have hfull : p.take i = p := List.take_of_length_le (by rw [hplen.out]; omega)
            rw [hfull]
            cases hq : hasI p (k : Int)
            · have hst := hide (ordsP_out (N := N) (f := f) hq)
              have hO0 := own_zero wr (Nat.le_refl wr.heap.size)
              have hI0 := hpi.alloc (.cells #[] 3)
              go_wp2_with (first | (refine wpl_apps (by rfl) (.tmp 40) (.tmp 41) (by rfl) wr.heap.size _ 0 0 [] A i c p (by rfl) (by rfl) hO0 hI0 (by omega) (by omega) (by simp) ?_; intro A1 c1 w2 hown2 hgrow2 hat2; have hp2 : Own w2 wr.heap.size A1 i c1 p := (by simpa using hown2); have hb2 : Below wr.heap.size wr w2 := ((Below.refl wr.heap.size wr).alloc (Nat.le_refl _) (.cells #[] 3)).grown hgrow2 (by simp) (fun k hk => by simp at hk; omega); have hsz2 := hb2.size) | (refine wpl_app (by rfl) (.tmp 42) (.tmp 44) (by rfl) wr.heap.size A1 i c1 w2.heap.size p (k : Int) (by rfl) (by rfl) (hp2.alloc _) (cell_new w2 _) (by omega) (by simp; omega) ?_; intro g3 c3 w3 hown3 hgrow3 hat3 hlt3) | fail)
              have hb3 : Below wr.heap.size wr w3 := app_below hb2 hsz2 hp2 hgrow3 (Below.refl _ _)
              have hsz3 := hb3.size
              have hlen1 : r ≤ 4 * 256 := by
                have h1 := hoV.len
                have h2 := hrows.len
                have h3 := ordsP_len N f p k
                have h4 := pow4 (N := N) (f := f) hN (by have := HNF.out; omega)
                have h5 : k * N ^ f ≤ 4 * 256 := Nat.mul_le_mul (by omega) h4
                omega
              clear hO0 hI0
              refine (IH.out (i + 1) (some ⟨g3, 0, none⟩) c3 (p ++ [(k : Int)]) wr.heap.size w3 (by have := HNF.out; omega) hown3 hsz3).mono ?_
              rintro e w4 ⟨B4, r4, cr4, vs4, rfl, hoV4, hrows4, hb4⟩
              have hb34 : Below wr.heap.size wr w4 := hb3.trans (hb4.mono hsz3)
              have hsz4 := hb4.size
              have hoV' := hoV.below hb34 (Nat.le_refl _)
              have hlen4 : r4 ≤ 256 := by
                have h1 := hoV4.len
                have h2 := hrows4.len
                have h3 := ordsR_len N f (p ++ [(k : Int)])
                have h4 := pow4 (N := N) (f := f) hN (by have := HNF.out; omega)
                omega
              go_wp2_with (refine wpl_appvs (by rfl) (.tmp 38) (.tmp 46) (by rfl) w.heap.size B r cr vs B4 r4 cr4 w3.heap.size vs4 (by rfl) (by rfl) hoV' hoV4 hrows4.slices (by omega) (by omega) (by omega) ?_; intro A5 c5 w5 hoV5 hgrow5 hat5)
              have hk4 : KeptI wr w5 := (KeptI.below hb34).trans (.grown hoV' hgrow5)
              have hk45 : KeptI w4 w5 := .grown hoV' hgrow5
              have hb5 : Below w.heap.size w w5 := (hbel.trans (hb34.mono hszw)).grown hgrow5 (by omega) (fun q hq => by
                rcases hoV'.where_ with h0 | ⟨g', h1, h2, _⟩
                · rw [h0] at hq; cases hq
                · rw [h1] at hq; simp at hq; omega)
              go_roundw
              case rel => exact ⟨k + 1, A5, r + r4, c5, vs ++ vs4, by omega, by go_num, rfl, hoV5, by rw [hst.out]; exact RowsAt.append ((hrows4.less (by omega)).kept hk45) (hrows.kept hk4), hb5⟩
              case measure => simp [intOf]; omega
            · have hst := hide (ordsP_in (N := N) (f := f) hq)
              go_wp2
              go_roundw
              case rel => exact ⟨k + 1, B, r, cr, vs, by omega, by go_num, rfl, hoV, by rw [hst.out]; exact hrows, hbel⟩
              case measure => simp [intOf]; omega
      · obtain rfl : k = N := by omega
        go_wp2
        go_ret
        exact ⟨B, r, cr, vs, rfl, hoV, hrows, hbel⟩

/-! by the program: list by list -/
def extI (L : List Int) (k : Nat) : List (List Int) := ((List.range k).filter fun e : Nat => !hasI L (e : Int)).map fun e : Nat => L ++ [(e : Int)]
def nextI (N : Nat) (Ls : List (List Int)) : List (List Int) := Ls.flatMap fun L => extI L N
def ordsI (N : Nat) : Nat → List (List Int)
  | 0 => [[]]
  | j + 1 => nextI N (ordsI N j)
theorem ords_same : ∀ N : Fin 5, ordsI N.val N.val = ordsR N.val N.val [] := by decide +kernel
theorem extI_in {L : List Int} {k : Nat} (h : hasI L (k : Int) = true) : extI L (k + 1) = extI L k := by
  simp [extI, List.range_succ, List.filter_append, h]
theorem extI_out {L : List Int} {k : Nat} (h : hasI L (k : Int) = false) : extI L (k + 1) = extI L k ++ [L ++ [(k : Int)]] := by
  simp [extI, List.range_succ, List.filter_append, h]
theorem extI_len (L : List Int) (k : Nat) : (extI L k).length ≤ k := by
  unfold extI
  rw [List.length_map]
  exact Nat.le_trans (List.length_filter_le _ _) (by simp)
theorem nextI_take {N : Nat} {Ls : List (List Int)} {k : Nat} (hk : k < Ls.length) : nextI N (Ls.take (k + 1)) = nextI N (Ls.take k) ++ extI (Ls.getD k []) N := by
  unfold nextI
  have e : Ls.getD k [] = Ls[k] := by simp [List.getD, List.getElem?_eq_getElem hk]
  rw [List.take_add_one, List.getElem?_eq_getElem hk, e, List.flatMap_append]
  simp only [Option.toList_some, List.flatMap_cons, List.flatMap_nil, List.append_nil]
theorem nextI_len (N : Nat) : ∀ (Ls : List (List Int)), (nextI N Ls).length ≤ Ls.length * N
  | [] => by simp [nextI]
  | L :: Ls => by
    have h1 := nextI_len N Ls
    have h2 := extI_len L N
    simp only [nextI, List.flatMap_cons, List.length_append, List.length_cons, Nat.succ_mul] at *
    omega
theorem ordsI_len (N : Nat) : ∀ j, (ordsI N j).length ≤ N ^ j
  | 0 => by simp [ordsI]
  | j + 1 => by
    have h1 := ordsI_len N j
    have h2 := nextI_len N (ordsI N j)
    have h3 := Nat.mul_le_mul_right N h1
    rw [Nat.pow_succ]
    unfold ordsI
    omega
theorem ordsI_elem (N : Nat) : ∀ j, ∀ L ∈ ordsI N j, L.length = j
  | 0, L, h => by simp [ordsI] at h; rw [h]; rfl
  | j + 1, L, h => by
    simp only [ordsI, nextI, List.mem_flatMap, extI, List.mem_map] at h
    obtain ⟨K, hK, e, _, rfl⟩ := h
    simp [ordsI_elem N j K hK]
theorem getD_mem {Ls : List (List Int)} {k : Nat} (hk : k < Ls.length) : Ls.getD k [] ∈ Ls := by
  simp [List.getD, List.getElem?_eq_getElem hk]
set_option maxHeartbeats 4000000 in
theorem ordersOf_any (N : Nat) (w : World) (hN : N ≤ 4) :
    Calls Try.prog 59 #[.int .i64 (N : Int)] w fun e w' => ∃ B r cr vs, e = .returned (.slice B r cr) ∧ OwnV w' w.heap.size B r cr vs ∧ RowsAt w' w.heap.size vs (ordsI N N) ∧ Below w.heap.size w w' := by
  have hO := ownV_one w (Nat.le_refl w.heap.size) (.slice none 0 0)
  have hB1 := (Below.refl w.heap.size w).alloc (Nat.le_refl _) (.cells #[.slice none 0 0] 22)
  have hR1 : RowsAt (w.alloc (.cells #[.slice none 0 0] 22)) w.heap.size [.slice none 0 0] (ordsI N 0) := ⟨⟨none, 0, 0, rfl, own_nil _ _⟩, trivial⟩
  go_enter Try.func59, Try.ntmps59
  go_wp2
  go_loopw [3, 10] (fun l t wr => ∃ (j : Nat) (B : Option Addr) (r cr : Nat) (vs : List Value), j ≤ N ∧ t = .int .i64 j ∧ l = .slice B r cr ∧ OwnV wr w.heap.size B r cr vs ∧ RowsAt wr w.heap.size vs (ordsI N j) ∧ Below w.heap.size w wr) (fun _ t _ => N - (intOf t).toNat)
  case atStart => exact ⟨0, _, 1, 1, _, Nat.zero_le _, rfl, rfl, hO, hR1, hB1⟩
  clear hO hB1 hR1
  case round =>
    obtain ⟨j, B, r, cr, vs, hj, rfl, rfl, hoV, hrows, hbel⟩ := hrel
    have hszw := hbel.size
    have hrl : r = (ordsI N j).length := by have := hoV.len; have := hrows.len; omega
    have hr256 : (ordsI N j).length ≤ 256 := Nat.le_trans (ordsI_len N j) (pow4 hN (by omega))
    have HRL := hide hrl
    have HEL := hide (ordsI_elem N j)
    clear hrl
    have hr2 : r ≤ 256 := by rw [HRL.out]; exact hr256
    clear hr256
    by_cases hlt : j < N
    · obtain ⟨wq, rfl⟩ : ∃ wq : World, wq = wr := ⟨_, rfl⟩
      have hN0 : OwnV wq wq.heap.size none 0 0 [] := ownV_nil _ _
      go_wp2
      go_loopw [4, 14] (fun l t w2 => ∃ (q : Nat) (B2 : Option Addr) (r2 c2 : Nat) (ws : List Value), q ≤ r ∧ t = .int .i64 q ∧ l = .slice B2 r2 c2 ∧ OwnV w2 wq.heap.size B2 r2 c2 ws ∧ RowsAt w2 wq.heap.size ws (nextI N ((ordsI N j).take q)) ∧ Below wq.heap.size wq w2) (fun _ t _ => r - (intOf t).toNat)
      case atStart => exact ⟨0, none, 0, 0, [], Nat.zero_le _, rfl, rfl, hN0, trivial, Below.refl _ _⟩
      clear hN0
      case round =>
        obtain ⟨q, B2, r2, c2, ws, hq, rfl, rfl, hoW, hrowW, hb2⟩ := hrel
        by_cases hqr : q < r
        · have hoV2 := hoV.below hb2 (Nat.le_refl _)
          obtain ⟨g, rfl, hg1, hg2⟩ := hoV2.form (by omega)
          obtain ⟨AL, nL, cL, hL1, hL2⟩ := hrows.get (k := q) (by rw [← HRL.out]; exact hqr)
          have hcell := hoV2.cell hL1
          have hsz2 := hb2.size
          have hnL : nL = j := by rw [← hL2.len]; exact HEL.out _ (getD_mem (by rw [← HRL.out]; exact hqr))
          have hnL4 : nL ≤ 4 := by omega
          have HNT := hide (nextI_take (N := N) (Ls := ordsI N j) (k := q) (by rw [← HRL.out]; exact hqr))
          have hnlen : (nextI N ((ordsI N j).take q)).length ≤ 256 * 4 := by
            have h1 := nextI_len N ((ordsI N j).take q)
            have h2 : ((ordsI N j).take q).length ≤ 256 := by rw [List.length_take]; omega
            exact Nat.le_trans h1 (Nat.mul_le_mul h2 hN)
          have HNL := hide hnlen
          obtain ⟨L, hLe⟩ : ∃ L, L = (ordsI N j).getD q [] := ⟨_, rfl⟩
          rw [← hLe] at HNT hL2
          clear hnlen hL1 hnL hLe
          go_wp2
          go_loopw [4, 19] (fun l t w3 => ∃ (e : Nat) (B3 : Option Addr) (r3 c3 : Nat) (us : List Value), e ≤ N ∧ t = .int .i64 e ∧ l = .slice B3 r3 c3 ∧ OwnV w3 wq.heap.size B3 r3 c3 us ∧ RowsAt w3 wq.heap.size us (nextI N ((ordsI N j).take q) ++ extI L e) ∧ Below wq.heap.size wq w3) (fun _ t _ => N - (intOf t).toNat)
          case atStart => exact ⟨0, B2, r2, c2, ws, Nat.zero_le _, rfl, rfl, hoW, by simpa [extI] using hrowW, hb2⟩
          case round =>
            obtain ⟨e, B3, r3, c3, us, he, rfl, rfl, hoU, hrowU, hb3⟩ := hrel
            by_cases heN : e < N
            · have hL3 := hL2.below hb3 (Nat.le_refl _)
              have hsz3 := hb3.size
              cases hh : hasI L (e : Int)
              · have HX := hide (extI_out hh)
                have HH := hide hh
                have hr3 : r3 ≤ 256 * 4 + 4 := by
                  have h1 := hoU.len
                  have h2 := hrowU.len
                  have h3 := extI_len L e
                  have h4 := HNL.out
                  rw [List.length_append] at h2
                  omega
                clear hh
                go_wp2_with fail
                refine (slicesContains_any _ _ _ _ _ _ hL3.ints).mono ?_
                rintro e1 w4 ⟨rfl, rfl⟩
                rw [HH.out]
                go_wp2_with fail
                refine (clone_any _ _ _ _ _ hL3.ints (by omega)).mono ?_
                rintro e1 w4 ⟨A4, c4, rfl, ho4, hb4⟩
                have hsz4 := hb4.size
                have hb34 : Below wq.heap.size wq w4 := hb3.trans (hb4.mono hsz3)
                go_wp2_with (first | (refine wpl_app (by rfl) (.tmp 28) (.tmp 30) (by rfl) wr.heap.size A4 nL c4 w4.heap.size L (e : Int) (by rfl) (by rfl) (ho4.alloc _) (cell_new w4 _) (by omega) (by simp; omega) ?_; intro g5 c5 w5 ho5 hgrow5 hat5 hlt5; have hb5 := (app_below hb4 hsz4 ho4 hgrow5 (Below.refl _ _)); have hsz5 := hb5.size; have hoU5 := (hoU.below hb5 (Nat.le_refl _)); have hoU5a := (hoU5.alloc (.cells #[.slice (some ⟨g5, 0, none⟩) (nL + 1) c5] 22)); have hone := ownV_one w5 (Nat.le_refl w5.heap.size) (.slice (some ⟨g5, 0, none⟩) (nL + 1) c5)) | (refine wpl_appvs (by rfl) (.tmp 26) (.tmp 32) (by rfl) wq.heap.size B3 r3 c3 us _ 1 1 w5.heap.size _ (by rfl) (by rfl) hoU5a hone (by simp) (by omega) (by omega) (by simp; omega) ?_; intro A6 c6 w6 ho6 hgrow6 hat6) | fail)
                have hk56 : KeptI w5 w6 := ((KeptI.refl w5).alloc _).trans (.grown hoU5a hgrow6)
                have hk36 : KeptI wr w6 := (KeptI.below hb5).trans hk56
                have hb6 : Below wq.heap.size wq w6 := ((hb3.trans (hb5.mono hsz3)).alloc (by omega) _).grown hgrow6 (by simp; omega) (fun q hq => by
                  rcases hoU5a.where_ with h0 | ⟨g', h1, h2, _⟩
                  · rw [h0] at hq; cases hq
                  · rw [h1] at hq; simp at hq; omega)
                have hrowN : RowsAt w6 wq.heap.size (us ++ [.slice (some ⟨g5, 0, none⟩) (nL + 1) c5]) (nextI N ((ordsI N j).take q) ++ extI L (e + 1)) := by
                  rw [HX.out, ← List.append_assoc]
                  exact RowsAt.append (.one ⟨_, _, _, rfl, (ho5.keptI hk56).less (by omega)⟩) (hrowU.kept hk36)
                go_roundw
                case rel => exact ⟨e + 1, A6, r3 + 1, c6, _, by omega, by go_num, rfl, ho6, hrowN, hb6⟩
                case measure => simp [intOf]; omega
              · have HX := hide (extI_in hh)
                have HH := hide hh
                clear hh
                go_wp2_with fail
                refine (slicesContains_any _ _ _ _ _ _ hL3.ints).mono ?_
                rintro e1 w4 ⟨rfl, rfl⟩
                rw [HH.out]
                go_wp2
                go_roundw
                case rel => exact ⟨e + 1, B3, r3, c3, us, by omega, by go_num, rfl, hoU, by rw [HX.out]; exact hrowU, hb3⟩
                case measure => simp [intOf]; omega
            · obtain rfl : e = N := by omega
              go_wp2
              go_roundw
              case rel => exact ⟨q + 1, B3, r3, c3, us, by omega, by go_num, rfl, hoU, by rw [HNT.out]; exact hrowU, hb3⟩
              case measure => simp [intOf]; omega
        · obtain rfl : q = r := by omega
          have ht : (ordsI N j).take q = ordsI N j := List.take_of_length_le (by rw [← HRL.out]; exact Nat.le_refl _)
          rw [ht] at hrowW
          have hsz2 := hb2.size
          go_wp2
          go_roundw
          case rel => exact ⟨j + 1, B2, r2, c2, ws, by omega, by go_num, rfl, hoW.less hszw, hrowW.less hszw, hbel.trans (hb2.mono hszw)⟩
          case measure => simp [intOf]; omega
    · obtain rfl : j = N := by omega
      go_wp2
      go_ret
      exact ⟨B, r, cr, vs, rfl, hoV, hrows, hbel⟩
end Go.Proofs.Ytfmibekefllhjaa
namespace Go.Proofs.Ytfmibekefllhjaa
open Go.RowKit

def addNew (out : List (List Int)) (x : List Int) : List (List Int) := if out.any fun y => decide (y = x) then out else out ++ [x]
/-- The corners of the first k orders of a list, each once. -/
def cornsP (N : Nat) (v : List Int) (Ls : List (List Int)) : Nat → List (List Int)
  | 0 => []
  | k + 1 => addNew (cornsP N v Ls k) (cornT N v (Ls.getD k []) N)
def cornersOk (E : Int) (v : List Int) : Bool := grdB E v && decide (E ≤ 4)
def cornersL (E : Int) (v : List Int) : List (List Int) := if cornersOk E v then cornsP E.toNat v (ordsR E.toNat E.toNat []) (ordsR E.toNat E.toNat []).length else []
theorem ords_ok : ∀ N : Fin 5, ∀ L ∈ ordsR N.val N.val [], ordB N.val L = true := by decide +kernel
theorem ords_len : ∀ N : Fin 5, (ordsR N.val N.val []).length ≤ 24 := by decide +kernel
theorem cornsP_len (N : Nat) (v : List Int) (Ls : List (List Int)) : ∀ k, (cornsP N v Ls k).length ≤ k
  | 0 => Nat.le_refl _
  | k + 1 => by
    have := cornsP_len N v Ls k
    unfold cornsP addNew
    split
    · omega
    · rw [List.length_append]; simp; omega
/-- The slices' blocks are apart. -/
def Sep (vs : List Value) : Prop := vs.Pairwise fun u u' => ∀ g, u.ownBlock = some g → u'.ownBlock = some g → False
theorem RowsAt.lt {w : World} {B : Nat} : ∀ {vs : List Value} {Ls : List (List Int)}, RowsAt w B vs Ls → ∀ u ∈ vs, ∀ g, u.ownBlock = some g → g < w.heap.size
  | [], [], _, u, hu, _, _ => by cases hu
  | x :: vs, L :: Ls, h, u, hu, g, hg => by
    rcases List.mem_cons.1 hu with rfl | hu
    · obtain ⟨A, n, c, rfl, ho⟩ := h.1
      rcases ho.where_ with rfl | ⟨g', rfl, _, h3⟩
      · simp [Value.ownBlock] at hg
      · simp [Value.ownBlock] at hg
        omega
    · exact RowsAt.lt h.2 u hu g hg
  | [], _ :: _, h, _, _, _, _ => by cases h
  | _ :: _, [], h, _, _, _, _ => by cases h
theorem Sep.snoc {vs : List Value} {u : Value} (h : Sep vs) (hu : ∀ x ∈ vs, ∀ g, x.ownBlock = some g → u.ownBlock = some g → False) : Sep (vs ++ [u]) := by
  unfold Sep
  rw [List.pairwise_append]
  refine ⟨h, by simp, fun x hx y hy => ?_⟩
  simp at hy
  subst hy
  exact hu x hx
theorem corners_no {E : Int} {v : List Int} (h : grdB E v = false) : cornersOk E v = false ∧ cornersL E v = [] := by simp [cornersL, cornersOk, h]
theorem corners_big {E : Int} {v : List Int} (h : ¬ E ≤ 4) : cornersOk E v = false ∧ cornersL E v = [] := by simp [cornersL, cornersOk, h]
theorem any_take {out : List (List Int)} {k : Nat} {x : List Int} (hk : k < out.length) : (out.take (k + 1)).any (fun y => decide (y = x)) = ((out.take k).any (fun y => decide (y = x)) || decide (out.getD k [] = x)) := by
  have e : out.getD k [] = out[k] := by simp [List.getD, List.getElem?_eq_getElem hk]
  rw [List.take_add_one, List.getElem?_eq_getElem hk, e, List.any_append]
  simp

theorem FB.grownV {w W w1 : World} {E : Int} {A B : Option Addr} {n c r cr : Nat} {vs : List Value} (h : FB w W E A n c) (hown : OwnV W (w.heap.size + 1) B r cr vs) (hg : W.grownBy w1 (B.map (·.block))) : FB w w1 E A n c := by
  have hne : ∀ k, B.map (·.block) = some k → w.heap.size + 1 ≤ k := by
    intro k hk
    rcases hown.where_ with h0 | ⟨g, h1, h2, _⟩
    · rw [h0] at hk; cases hk
    · rw [h1] at hk; simp at hk; omega
  have hb : w1.heap[w.heap.size]? = W.heap[w.heap.size]? := hg.block _ h.2.1 (fun hk => by have := hne _ hk.symm; omega)
  exact ⟨h.1.grown hg h.1.size (fun k hk => by have := hne k hk; omega), Nat.lt_of_lt_of_le h.2.1 hg.size, (World.cell?_of_block (w := W) hb).trans h.2.2.1, (World.cell?_of_block (w := W) hb).trans h.2.2.2⟩
theorem OwnV.grown {w w' : World} {B n c : Nat} {A A2 : Option Addr} {vs : List Value} (h : OwnV w B A n c vs) (hg : w.grownBy w' (A2.map (·.block))) (hne : ∀ x y, A = some x → A2 = some y → x.block ≠ y.block) : OwnV w' B A n c vs :=
  h.keep fun g hlt hA => hg.block g hlt (fun hk => by
    cases A2 with
    | none => cases hk
    | some y => simp at hk; exact hne _ y hA rfl hk)
theorem ordB_len {N : Nat} {o : List Int} (h : ordB N o = true) : o.length = N := by simp only [ordB, Bool.and_eq_true, decide_eq_true_eq] at h; omega
theorem cornsP_elem (N : Nat) (v : List Int) (Ls : List (List Int)) : ∀ k, ∀ L ∈ cornsP N v Ls k, ∃ o, L = cornT N v o N
  | 0, L, h => by simp [cornsP] at h
  | k + 1, L, h => by
    unfold cornsP addNew at h
    split at h
    · exact cornsP_elem N v Ls k L h
    · rcases List.mem_append.1 h with h | h
      · exact cornsP_elem N v Ls k L h
      · exact ⟨_, by simpa using h⟩
theorem cornersL_le (E : Int) (v : List Int) : (cornersL E v).length ≤ 24 := by
  unfold cornersL
  split
  · rename_i h
    simp only [cornersOk, grdB, isFn, Bool.and_eq_true, decide_eq_true_eq] at h
    have h1 := inR_true h.1.1.1
    have h2 := ords_len ⟨E.toNat, by omega⟩
    exact Nat.le_trans (cornsP_len _ _ _ _) h2
  · simp
theorem cornT_length (N : Nat) (v x : List Int) : ∀ k, (cornT N v x k).length = N
  | 0 => by simp [cornT]
  | k + 1 => by unfold cornT; rw [List.length_set]; exact cornT_length N v x k
theorem cornersL_len (E : Int) (v : List Int) : ∀ L ∈ cornersL E v, L.length ≤ 1048576 := by
  intro L hL
  unfold cornersL at hL
  split at hL
  · rename_i h
    simp only [cornersOk, grdB, isFn, Bool.and_eq_true, decide_eq_true_eq] at h
    have h1 := inR_true h.1.1.1
    obtain ⟨o, rfl⟩ := cornsP_elem _ _ _ _ L hL
    rw [cornT_length]; omega
  · simp at hL
set_option maxHeartbeats 8000000 in
theorem specCornersOf_any (E : Int) (A : Option Addr) (n c : Nat) (v : List Int) (w : World) (hv : Ints w A n v) :
    Calls Try.prog 30 #[.agg #[.int .i64 E, .slice A n c]] w fun e w' => ∃ B r cr vs, e = .returned (.tuple #[.slice B r cr, .bool (cornersOk E v)]) ∧ OwnV w' w.heap.size B r cr vs ∧ RowsAt w' w.heap.size vs (cornersL E v) ∧ Sep vs ∧ r ≤ 1048576 ∧ Below w.heap.size w w' := by
  have hF0 := FB.start w E A n c
  have hF1 := hF0.step ((Below.refl _ _).alloc (Nat.le_refl _) (.cells #[] 22))
  have hO := ownV_none (w.alloc (.cells #[.int .i64 E, .slice A n c] 27)) (B := w.heap.size + 1) (by simp)
  have z1 : (w.alloc (.cells #[.int .i64 E, .slice A n c] 27)).heap.size = w.heap.size + 1 := by simp
  rw [z1] at hO
  obtain ⟨hbel1, hz1, r0, r1⟩ := hF1.parts
  clear z1 hF0
  go_enter Try.func30, Try.ntmps30
  go_wp2_with fail
  refine (specIsGrounded_any E A n c v _ (hv.below hbel1 (Nat.le_refl _))).mono ?_
  rintro e w1 ⟨rfl, hb1⟩
  have hF2 := hF1.step hb1
  have hO1 := hO.below hb1 (Nat.le_refl _)
  clear hF1 hO r0 r1 hbel1 hz1 hb1
  obtain ⟨hbel2, hz2, r0, r1⟩ := hF2.parts
  cases hg : grdB E v
  · have hno := hide (corners_no hg)
    clear hg
    go_wp2
    go_ret2
    exact ⟨_, 0, 0, [], by rw [hno.out.1]; rfl, hO1.less (by omega), by rw [hno.out.2]; trivial, List.Pairwise.nil, by omega, hbel2⟩
  have HG := hide hg
  have hfn : isFn E v = true := by simp only [grdB, Bool.and_eq_true] at hg; exact hg.1
  clear hg
  obtain ⟨N, rfl, fo⟩ := FnOk.of hfn hv
  have HF := hide hfn
  clear hfn
  by_cases h4 : (N : Int) ≤ 4
  case neg =>
    have hno := hide (corners_big (v := v) h4)
    go_wp2
    go_ret2
    exact ⟨_, 0, 0, [], by rw [hno.out.1]; rfl, hO1.less (by omega), by rw [hno.out.2]; trivial, List.Pairwise.nil, by omega, hbel2⟩
  have hN4 : N ≤ 4 := by omega
  have e1 : cornersOk N v = true := by simp [cornersOk, HG.out, h4]
  have HL := hide (show cornersL N v = cornsP N v (ordsR N N []) (ordsR N N []).length by unfold cornersL; rw [e1]; simp)
  have HE1 := hide e1
  clear e1
  have hp0 := own_zero w1 (Nat.le_refl w1.heap.size)
  go_wp2_with fail
  refine (l8Orders_any N hN4 N 0 _ 0 [] w1.heap.size _ (by omega) hp0 (by simp)).mono ?_
  rintro e w2 ⟨B, r, cr, vs, rfl, hoV, hrows, hb2⟩
  have hb12 : Below w1.heap.size w1 w2 := ((Below.refl _ _).alloc (Nat.le_refl _) _).trans (hb2.mono (by simp))
  have hF3 := hF2.step hb12
  have hO2 := hO1.below hb12 (Nat.le_refl _)
  have hO1w := hO1.where_
  have hsz12 := hb12.size
  clear hF2 hO1 r0 r1 hbel2 hz2 hp0
  have hOK := hide (ords_ok ⟨N, by omega⟩)
  have hlen24 := ords_len ⟨N, by omega⟩
  simp only at hlen24
  obtain ⟨Ls, hLs⟩ : ∃ Ls, Ls = ordsR N N [] := ⟨_, rfl⟩
  rw [← hLs] at hrows HL hlen24
  simp only [← hLs] at hOK
  have hrl : r = Ls.length := by have := hoV.len; have := hrows.len; omega
  have HRL := hide hrl
  have hr24 : r ≤ 24 := by omega
  have hoV2 := hoV.less (B' := w1.heap.size) (by simp)
  clear hrl hlen24 hLs hb2 hoV
  have hszw1 : w.heap.size + 1 < w1.heap.size := by
    rcases hO1w with h0 | ⟨g, h1, _, h2, _⟩
    · cases h0
    · injection h1 with h1; injection h1 with h1 _; omega
  have hdis : ∀ x y, B = some x → (some ⟨w.heap.size + 1, 0, none⟩ : Option Addr) = some y → x.block ≠ y.block := by
    intro x y hx hy
    injection hy with hy
    rcases hoV2.where_ with h0 | ⟨g, h1, h2, _⟩
    · rw [h0] at hx; cases hx
    · rw [h1] at hx
      injection hx with hx
      rw [← hx, ← hy]
      simp only; omega
  have HV := hide (fun W (h : Below w.heap.size w W) => hv.below h (Nat.le_refl _))
  go_wp2
  go_loopw [4, 6] (fun l t wr => ∃ (k : Nat) (B2 : Option Addr) (r2 c2 : Nat) (us : List Value), k ≤ r ∧ t = .int .i64 k ∧ l = .slice B2 r2 c2 ∧ OwnV wr (w.heap.size + 1) B2 r2 c2 us ∧ RowsAt wr w.heap.size us (cornsP N v Ls k) ∧ Sep us ∧ (∀ x y, B = some x → B2 = some y → x.block ≠ y.block) ∧ OwnV wr w1.heap.size B r cr vs ∧ RowsAt wr w1.heap.size vs Ls ∧ FB w wr N A n c) (fun _ t _ => r - (intOf t).toNat)
  case atStart => exact ⟨0, _, 0, 0, [], Nat.zero_le _, rfl, rfl, hO2, trivial, List.Pairwise.nil, hdis, hoV2, hrows, hF3⟩
  clear hO2 hoV2 hrows hF3
  case round =>
    obtain ⟨k, B2, r2, c2, us, hk, rfl, rfl, hoU, hrowU, hsep, hdis, hoV, hrows, hF⟩ := hrel
    obtain ⟨wo, rfl⟩ : ∃ wo : World, wo = wr := ⟨_, rfl⟩
    have HD := hide hdis; clear hdis
    obtain ⟨hbel, hz, r0, r1⟩ := hF.parts
    have hszw := hbel.size
    have hul : r2 = (cornsP N v Ls k).length := by have := hoU.len; have := hrowU.len; omega
    have HUL := hide hul
    have hr2 : r2 ≤ 24 := by have := cornsP_len N v Ls k; omega
    clear hul
    by_cases hkr : k < r
    · obtain ⟨g, rfl, hg1, hg2⟩ := hoV.form (by omega)
      obtain ⟨AL, nL, cL, hL1, hL2⟩ := hrows.get (k := k) (by rw [← HRL.out]; exact hkr)
      have hcell := hoV.cell hL1
      have HOB := hide (hOK.out _ (getD_mem (by rw [← HRL.out]; exact hkr)))
      have hnL : nL = N := by rw [← hL2.len]; exact ordB_len HOB.out
      have HST := hide (show cornsP N v Ls (k + 1) = addNew (cornsP N v Ls k) (cornT N v (Ls.getD k []) N) from rfl)
      obtain ⟨L, hLe⟩ : ∃ L, L = Ls.getD k [] := ⟨_, rfl⟩
      rw [← hLe] at HOB hL2 HST
      clear hL1 hLe
      subst hnL
      have hvr := HV.out _ hbel
      have i0 : (0 : Int) ≤ (k : Int) := by omega
      have i1 : (k : Int) < (r : Int) := by omega
      go_wp2
      go_region_held3 (fun w' => w'.cell? ⟨w.heap.size, 0, none⟩ = some (.int .i64 (nL : Int)) ∧ w'.cell? ⟨w.heap.size, 1, none⟩ = some (.slice A n c) ∧ w'.cell? ⟨g, k, none⟩ = some (.slice AL nL cL))
        (first
          | go_keep
          | exact ⟨(hb4.cell (p := ⟨w.heap.size, 0, none⟩) hz).trans r0, (hb4.cell (p := ⟨w.heap.size, 1, none⟩) hz).trans r1, (hb4.cell (p := ⟨g, k, none⟩) hg2).trans hcell⟩)
        (first
          | (go_at_call 57; refine (l8Corner_any nL A n c v AL nL cL L _ hvr.drew hL2.ints.drew HF.out HOB.out).mono ?_; rintro e w4 ⟨B4, r4, c4, rfl, ho4, hr4, hb4⟩))
      have hb4' : Below wo.heap.size wo w4 := ((Below.refl wo.heap.size wo).drew).trans hb4
      have hsz4 := hb4'.size
      obtain ⟨X, hX⟩ : ∃ X, X = cornT nL v L nL := ⟨_, rfl⟩
      rw [← hX] at ho4 HST
      clear hX r0 r1 hcell hb4
      have hrowU4 := hrowU.kept (.below hb4')
      have hoU4 := hoU.below hb4' (Nat.le_refl _)
      go_wp2
      go_loopw [8, 9] (fun u t w5 => ∃ (i : Nat), i ≤ r2 ∧ t = .int .i64 i ∧ u = .bool (!((cornsP nL v Ls k).take i).any (fun y => decide (y = X))) ∧ Below w4.heap.size w4 w5) (fun _ t _ => r2 - (intOf t).toNat)
      case atStart => exact ⟨0, Nat.zero_le _, rfl, rfl, Below.refl _ _⟩
      case round =>
        obtain ⟨i, hi, rfl, rfl, hb5⟩ := hrel
        by_cases hir : i < r2
        · have hst := hide (any_take (out := cornsP nL v Ls k) (k := i) (x := X) (by rw [← HUL.out]; exact hir))
          cases hq : ((cornsP nL v Ls k).take i).any (fun y => decide (y = X))
          · rw [hq] at hst
            have hoU5 := hoU4.below hb5 (Nat.le_refl _)
            have hrowU5 := hrowU4.kept (.below hb5)
            obtain ⟨gU, rfl, hgU1, hgU2⟩ := hoU5.form (by omega)
            obtain ⟨AK, nK, cK, hK1, hK2⟩ := hrowU5.get (k := i) (by rw [← HUL.out]; exact hir)
            have hcellK := hoU5.cell hK1
            have hX5 := (ho4.below hb5 (Nat.le_refl _)).ints
            have hszb := hb5.size
            go_wp2_with fail
            refine (l2Same_any _ _ _ _ _ _ _ _ _ hK2.ints hX5).mono ?_
            rintro e w6 ⟨rfl, hb6⟩
            have hqe : (!(((cornsP nL v Ls k).take (i + 1)).any fun y => decide (y = X))) = decide (¬ (cornsP nL v Ls k).getD i [] = X) := by rw [hst.out]; simp
            go_wp2
            go_roundw
            case rel => exact ⟨i + 1, by omega, by go_num, by rw [hqe]; simp, hb5.trans (hb6.mono hszb)⟩
            case measure => simp [intOf]; omega
          · rw [hq] at hst
            go_wp2
            go_roundw
            case rel => exact ⟨i + 1, by omega, by go_num, by rw [hst.out]; rfl, hb5⟩
            case measure => simp [intOf]; omega
        · obtain rfl : i = r2 := by omega
          have htk : (cornsP nL v Ls k).take i = cornsP nL v Ls k := List.take_of_length_le (by rw [← HUL.out]; exact Nat.le_refl _)
          rw [htk]
          have hszb := hb5.size
          cases hq : (cornsP nL v Ls k).any (fun y => decide (y = X))
          · have hst := hide (show cornsP nL v Ls (k + 1) = cornsP nL v Ls k ++ [X] by rw [HST.out, addNew, hq]; rfl)
            have hoU5 := hoU4.below hb5 (Nat.le_refl _)
            have hrowU5 := hrowU4.kept (.below hb5)
            have hoU5a := hoU5.alloc (.cells #[.slice B4 r4 c4] 22)
            have hone := ownV_one wr (Nat.le_refl wr.heap.size) (.slice B4 r4 c4)
            go_wp2_with (refine wpl_appvs (by rfl) (.tmp 53) (.tmp 55) (by rfl) (w.heap.size + 1) B2 i c2 us _ 1 1 wr.heap.size _ (by rfl) (by rfl) hoU5a hone (by simp) (by omega) (by omega) (by simp; omega) ?_; intro A6 c6 w6 ho6 hgrow6 hat6)
            have hb45 : Below wo.heap.size wo wr := hb4'.trans (hb5.mono hsz4)
            have hF5 := (hF.step hb45).step ((Below.refl _ _).alloc (Nat.le_refl _) (.cells #[.slice B4 r4 c4] 22))
            have hF6 := hF5.grownV hoU5a hgrow6
            have hk56 : KeptI wr w6 := ((KeptI.refl wr).alloc _).trans (.grown hoU5a hgrow6)
            have hk46 : KeptI w4 w6 := (KeptI.below hb5).trans hk56
            have hoV6 := ((hoV.below hb45 (Nat.le_refl _)).alloc (.cells #[.slice B4 r4 c4] 22)).grown hgrow6 HD.out
            have hsz45 := hb45.size
            have hdis6 : ∀ x y, (some ⟨g, 0, none⟩ : Option Addr) = some x → A6 = some y → x.block ≠ y.block := by
              intro x y hx hy
              rcases hat6 with h0 | h0
              · exact HD.out x y hx (by rw [← h0]; exact hy)
              · rw [h0] at hy
                injection hx with hx; injection hy with hy
                rw [← hx, ← hy]
                simp; omega
            have hsep6 : Sep (us ++ [.slice B4 r4 c4]) := hsep.snoc (fun x hx q hq hq2 => by
              have h1 := hrowU.lt x hx q hq
              rcases ho4.where_ with h2 | ⟨g2, h2, h3, _⟩
              · rw [h2] at hq2; simp [Value.ownBlock] at hq2
              · rw [h2] at hq2
                simp [Value.ownBlock] at hq2
                have h3' : wo.heap.size ≤ g2 := h3
                omega)
            go_roundw
            case rel => exact ⟨k + 1, A6, i + 1, c6, _, by omega, by go_num, rfl, ho6, by rw [hst.out]; exact RowsAt.append (.one ⟨_, _, _, rfl, (ho4.keptI hk46).less (Nat.le_trans hF.1.size (Nat.le_refl _))⟩) (hrowU4.kept hk46), hsep6, hdis6, hoV6, hrows.kept ((KeptI.below hb4').trans hk46), hF6⟩
            case measure => simp [intOf]; omega
          · have hst := hide (show cornsP nL v Ls (k + 1) = cornsP nL v Ls k by rw [HST.out, addNew, hq]; rfl)
            have hb45 : Below wo.heap.size wo wr := hb4'.trans (hb5.mono hsz4)
            go_wp2
            go_roundw
            case rel => exact ⟨k + 1, B2, i, c2, us, by omega, by go_num, rfl, hoU.below hb45 (Nat.le_refl _), by rw [hst.out]; exact hrowU.kept (.below hb45), hsep, HD.out, hoV.below hb45 (Nat.le_refl _), hrows.kept (.below hb45), hF.step hb45⟩
            case measure => simp [intOf]; omega
    · obtain rfl : k = r := by omega
      have hl2 := hide (show cornsP N v Ls k = cornersL N v by rw [HL.out, HRL.out])
      go_wp2
      go_ret2
      exact ⟨B2, r2, c2, us, by rw [HE1.out]; rfl, hoU.less (by omega), by rw [← hl2.out]; exact hrowU, hsep, by omega, hbel⟩
theorem cornFn_any (A : Option Addr) (n c : Nat) (L : List Int) (AX : Option Addr) (nX cX : Nat) (X : List Int) (bx : Nat) (w : World) (hL : Ints w A n L) (hX : Ints w AX nX X) (hb : w.cell? ⟨bx, 0, none⟩ = some (.slice AX nX cX)) :
    Calls Try.prog 62 #[.slice A n c, .pointer (some ⟨bx, 0, none⟩)] w fun r w' => r = .returned (.bool (decide (L = X))) ∧ Below w.heap.size w w' := by
  go_enter Try.func62, Try.ntmps62
  go_wp2_with fail
  refine (slicesEqual_any _ _ _ _ _ _ _ _ _ hL hX).mono ?_
  rintro r w1 ⟨rfl, hb1⟩
  go_wp2
  go_ret
  exact ⟨rfl, hb1⟩
theorem indexCorn_any (A : Option Addr) (n c B B2 : Nat) (vs : List Value) (Ls : List (List Int)) (AX : Option Addr) (nX cX : Nat) (X : List Int) (bx : Nat) (w : World) (hV : OwnV w B A n c vs) (hrows : RowsAt w B2 vs Ls) (hX : Ints w AX nX X) (hb : w.cell? ⟨bx, 0, none⟩ = some (.slice AX nX cX)) :
    Calls Try.prog 74 #[.slice A n c, .func (.func 62) #[] #[.pointer (some ⟨bx, 0, none⟩)]] w fun r w' => ∃ t : Int, r = .returned (.int .i64 t) ∧ decide (0 ≤ t) = Ls.any (fun y => decide (y = X)) ∧ Below w.heap.size w w' := by
  have hle := hV.le
  have hnl : n = Ls.length := by have := hV.len; have := hrows.len; omega
  have HNL := hide hnl
  have hbs := World.block_lt_of_cell? _ _ hb
  clear hnl
  go_enter Try.func74, Try.ntmps74
  go_wp2
  go_loopw [8] (fun i wr => ∃ k : Nat, k ≤ n ∧ i = .int .i64 k ∧ (Ls.take k).any (fun y => decide (y = X)) = false ∧ Below w.heap.size w wr) (fun i _ => n - (intOf i).toNat)
  case atStart => exact ⟨0, Nat.zero_le _, rfl, rfl, Below.refl _ _⟩
  case round =>
    obtain ⟨k, hk, rfl, hno, hbel⟩ := hrel
    have HNO := hide hno; clear hno
    by_cases hlt : k < n
    · have hst := hide (any_take (out := Ls) (k := k) (x := X) (by rw [← HNL.out]; exact hlt))
      have hV1 := hV.below hbel (Nat.le_refl _)
      have hR1 := hrows.kept (.below hbel)
      have hX1 := hX.below hbel (Nat.le_refl _)
      have hb1 := (hbel.cell (p := ⟨bx, 0, none⟩) hbs).trans hb
      obtain ⟨g, rfl, hg1, hg2⟩ := hV1.form (by omega)
      obtain ⟨AK, nK, cK, hK1, hK2⟩ := hR1.get (k := k) (by rw [← HNL.out]; exact hlt)
      have hcellK := hV1.cell hK1
      have hszb := hbel.size
      have hF := hide (cornFn_any AK nK cK (Ls.getD k []) AX nX cX X bx wr hK2.ints hX1 hb1)
      clear hb1 hK1
      cases hq : decide (Ls.getD k [] = X)
      · rw [hq, HNO.out] at hst
        have HQ := hide hq; clear hq
        go_wp2_with fail
        refine hF.out.mono ?_
        rintro r w2 ⟨rfl, hb2⟩
        rw [HQ.out]
        go_wp2
        go_roundw
        case rel => exact ⟨k + 1, by omega, by go_num, by rw [hst.out]; rfl, hbel.trans (hb2.mono hszb)⟩
        case measure => simp [intOf]; omega
      · rw [hq] at hst
        have HQ := hide hq; clear hq
        have hyes := hide (show Ls.any (fun y => decide (y = X)) = true by
          rw [List.any_eq_true]
          exact ⟨_, getD_mem (by rw [← HNL.out]; exact hlt), HQ.out⟩)
        go_wp2_with fail
        refine hF.out.mono ?_
        rintro r w2 ⟨rfl, hb2⟩
        rw [HQ.out]
        go_wp2
        go_ret
        exact ⟨(k : Int), rfl, by rw [hyes.out]; simp, hbel.trans (hb2.mono hszb)⟩
    · obtain rfl : k = n := by omega
      have ht := hide (show Ls.any (fun y => decide (y = X)) = false by rw [← HNO.out, HNL.out, List.take_length])
      go_wp2
      go_ret
      exact ⟨-1, rfl, by rw [ht.out]; rfl, hbel⟩
theorem containsCorn_any (A : Option Addr) (n c B B2 : Nat) (vs : List Value) (Ls : List (List Int)) (AX : Option Addr) (nX cX : Nat) (X : List Int) (bx : Nat) (w : World) (hV : OwnV w B A n c vs) (hrows : RowsAt w B2 vs Ls) (hX : Ints w AX nX X) (hb : w.cell? ⟨bx, 0, none⟩ = some (.slice AX nX cX)) :
    Calls Try.prog 61 #[.slice A n c, .func (.func 62) #[] #[.pointer (some ⟨bx, 0, none⟩)]] w fun r w' => r = .returned (.bool (Ls.any (fun y => decide (y = X)))) ∧ Below w.heap.size w w' := by
  go_enter Try.func61, Try.ntmps61
  go_wp2_with fail
  refine (indexCorn_any A n c B B2 vs Ls AX nX cX X bx w hV hrows hX hb).mono ?_
  rintro r w1 ⟨t, rfl, ht, hb1⟩
  have HT := hide ht; clear ht
  go_wp2
  go_ret
  exact ⟨ret_bool (by rw [← HT.out]), hb1⟩
set_option maxHeartbeats 8000000 in
theorem cornersOf_any (E : Int) (A : Option Addr) (n c : Nat) (v : List Int) (w : World) (hv : Ints w A n v) :
    Calls Try.prog 31 #[.agg #[.int .i64 E, .slice A n c]] w fun e w' => ∃ B r cr vs, e = .returned (.tuple #[.slice B r cr, .bool (cornersOk E v)]) ∧ OwnV w' w.heap.size B r cr vs ∧ RowsAt w' w.heap.size vs (cornersL E v) ∧ Sep vs ∧ r ≤ 1048576 ∧ Below w.heap.size w w' := by
  have hF1 := FB.start w E A n c
  obtain ⟨hbel1, hz1, r0, r1⟩ := hF1.parts
  go_enter Try.func31, Try.ntmps31
  go_wp2_with fail
  refine (isGrounded_any E A n c v _ (hv.below hbel1 (Nat.le_refl _))).mono ?_
  rintro e w1 ⟨rfl, hb1⟩
  have hF2 := hF1.step hb1
  clear hF1 r0 r1 hbel1 hz1 hb1
  obtain ⟨hbel2, hz2, r0, r1⟩ := hF2.parts
  cases hg : grdB E v
  · have hno := hide (corners_no hg)
    clear hg
    go_wp2
    go_ret2
    exact ⟨none, 0, 0, [], by rw [hno.out.1]; rfl, ownV_nil _ _, by rw [hno.out.2]; trivial, List.Pairwise.nil, by omega, hbel2⟩
  have HG := hide hg
  have hfn : isFn E v = true := by simp only [grdB, Bool.and_eq_true] at hg; exact hg.1
  clear hg
  obtain ⟨N, rfl, fo⟩ := FnOk.of hfn hv
  have HF := hide hfn
  clear hfn
  by_cases h4 : (N : Int) ≤ 4
  case neg =>
    have hno := hide (corners_big (v := v) h4)
    go_wp2
    go_ret2
    exact ⟨none, 0, 0, [], by rw [hno.out.1]; rfl, ownV_nil _ _, by rw [hno.out.2]; trivial, List.Pairwise.nil, by omega, hbel2⟩
  have hN4 : N ≤ 4 := by omega
  have e1 : cornersOk N v = true := by simp [cornersOk, HG.out, h4]
  have HL := hide (show cornersL N v = cornsP N v (ordsR N N []) (ordsR N N []).length by unfold cornersL; rw [e1]; simp)
  have HE1 := hide e1
  clear e1
  go_wp2_with fail
  refine (ordersOf_any N _ hN4).mono ?_
  rintro e w2 ⟨B, r, cr, vs, rfl, hoV, hrows, hb12⟩
  have hF3 := hF2.step hb12
  have hsz12 := hb12.size
  clear hF2 r0 r1 hbel2
  have hsm := ords_same ⟨N, by omega⟩
  have hOK := hide (ords_ok ⟨N, by omega⟩)
  have hlen24 := ords_len ⟨N, by omega⟩
  simp only at hlen24 hsm
  rw [hsm] at hrows
  obtain ⟨Ls, hLs⟩ : ∃ Ls, Ls = ordsR N N [] := ⟨_, rfl⟩
  rw [← hLs] at hrows HL hlen24
  simp only [← hLs] at hOK
  have hrl : r = Ls.length := by have := hoV.len; have := hrows.len; omega
  have HRL := hide hrl
  have hr24 : r ≤ 24 := by omega
  clear hrl hlen24 hLs hb12 hsm
  have hO2 : OwnV w2 (w.heap.size + 1) none 0 0 [] := ownV_nil _ _
  have hdis : ∀ x y, B = some x → (none : Option Addr) = some y → x.block ≠ y.block := by
    intro x y _ hy
    cases hy
  have HV := hide (fun W (h : Below w.heap.size w W) => hv.below h (Nat.le_refl _))
  go_wp2
  go_loopw [4, 21] (fun l t wr => ∃ (k : Nat) (B2 : Option Addr) (r2 c2 : Nat) (us : List Value), k ≤ r ∧ t = .int .i64 k ∧ l = .slice B2 r2 c2 ∧ OwnV wr (w.heap.size + 1) B2 r2 c2 us ∧ RowsAt wr w.heap.size us (cornsP N v Ls k) ∧ Sep us ∧ (∀ x y, B = some x → B2 = some y → x.block ≠ y.block) ∧ OwnV wr w1.heap.size B r cr vs ∧ RowsAt wr w1.heap.size vs Ls ∧ FB w wr N A n c) (fun _ t _ => r - (intOf t).toNat)
  case atStart => exact ⟨0, none, 0, 0, [], Nat.zero_le _, rfl, rfl, hO2, trivial, List.Pairwise.nil, hdis, hoV, hrows, hF3⟩
  clear hO2 hoV hrows hF3
  case round =>
    obtain ⟨k, B2, r2, c2, us, hk, rfl, rfl, hoU, hrowU, hsep, hdis, hoV, hrows, hF⟩ := hrel
    obtain ⟨wo, rfl⟩ : ∃ wo : World, wo = wr := ⟨_, rfl⟩
    have HD := hide hdis; clear hdis
    obtain ⟨hbel, hz, r0, r1⟩ := hF.parts
    have hszw := hbel.size
    have hul : r2 = (cornsP N v Ls k).length := by have := hoU.len; have := hrowU.len; omega
    have HUL := hide hul
    have hr2 : r2 ≤ 24 := by have := cornsP_len N v Ls k; omega
    clear hul
    by_cases hkr : k < r
    · obtain ⟨g, rfl, hg1, hg2⟩ := hoV.form (by omega)
      obtain ⟨AL, nL, cL, hL1, hL2⟩ := hrows.get (k := k) (by rw [← HRL.out]; exact hkr)
      have hcell := hoV.cell hL1
      have HOB := hide (hOK.out _ (getD_mem (by rw [← HRL.out]; exact hkr)))
      have hnL : nL = N := by rw [← hL2.len]; exact ordB_len HOB.out
      have HST := hide (show cornsP N v Ls (k + 1) = addNew (cornsP N v Ls k) (cornT N v (Ls.getD k []) N) from rfl)
      obtain ⟨L, hLe⟩ : ∃ L, L = Ls.getD k [] := ⟨_, rfl⟩
      rw [← hLe] at HOB hL2 HST
      clear hL1 hLe
      subst hnL
      have hvr := HV.out _ hbel
      go_wp2_with fail
      refine (corner_any nL A n c v AL nL cL L _ hvr hL2.ints HF.out HOB.out).mono ?_
      rintro e w4 ⟨B4, r4, c4, rfl, ho4, hr4, hb4⟩
      have hsz4 := hb4.size
      obtain ⟨X, hX⟩ : ∃ X, X = cornT nL v L nL := ⟨_, rfl⟩
      rw [← hX] at ho4 HST
      clear hX r0 r1 hcell
      have hrowU4 := hrowU.kept (.below hb4)
      have hoU4 := hoU.below hb4 (Nat.le_refl _)
      have hb4a : Below wo.heap.size wo (w4.alloc (.cells #[.slice B4 r4 c4] 22)) := hb4.alloc hsz4 _
      have hbox : (w4.alloc (.cells #[.slice B4 r4 c4] 22)).cell? ⟨w4.heap.size, 0, none⟩ = some (.slice B4 r4 c4) := by rw [World.cell?_alloc_at _ _ _ _ rfl]; rfl
      have hC := hide (containsCorn_any B2 r2 c2 _ _ us _ B4 r4 c4 X w4.heap.size _ (hoU4.alloc (.cells #[.slice B4 r4 c4] 22)) (hrowU4.kept ((KeptI.refl w4).alloc (.cells #[.slice B4 r4 c4] 22))) (ho4.alloc (.cells #[.slice B4 r4 c4] 22)).ints hbox)
      go_wp2_with fail
      refine hC.out.mono ?_
      rintro e w5 ⟨rfl, hb5⟩
      have hbox5 := (hb5.cell (p := ⟨w4.heap.size, 0, none⟩) (by simp)).trans hbox
      have hb45 : Below wo.heap.size wo w5 := hb4a.trans (hb5.mono hb4a.size)
      have hk45 : KeptI w4 w5 := ((KeptI.refl w4).alloc _).trans (.below hb5)
      have hsz45 := hb45.size
      clear hbox hC hb5
      cases hq : (cornsP nL v Ls k).any (fun y => decide (y = X))
      · have hst := hide (show cornsP nL v Ls (k + 1) = cornsP nL v Ls k ++ [X] by rw [HST.out, addNew, hq]; rfl)
        clear hq
        have hoU5 := hoU.below hb45 (Nat.le_refl _)
        have hoU5a := hoU5.alloc (.cells #[.slice B4 r4 c4] 22)
        have hone := ownV_one w5 (Nat.le_refl w5.heap.size) (.slice B4 r4 c4)
        go_wp2_with (refine wpl_appvs (by rfl) (.tmp 33) (.tmp 35) (by rfl) (w.heap.size + 1) B2 r2 c2 us _ 1 1 w5.heap.size _ (by rfl) (by rfl) hoU5a hone (by simp) (by omega) (by omega) (by have := hF.2.1; simp; omega) ?_; intro A6 c6 w6 ho6 hgrow6 hat6)
        have hF5 := (hF.step hb45).step ((Below.refl _ _).alloc (Nat.le_refl _) (.cells #[.slice B4 r4 c4] 22))
        have hF6 := hF5.grownV hoU5a hgrow6
        have hk56 : KeptI w5 w6 := ((KeptI.refl w5).alloc _).trans (.grown hoU5a hgrow6)
        have hk46 : KeptI w4 w6 := hk45.trans hk56
        have hoV6 := ((hoV.below hb45 (Nat.le_refl _)).alloc (.cells #[.slice B4 r4 c4] 22)).grown hgrow6 HD.out
        have hdis6 : ∀ x y, (some ⟨g, 0, none⟩ : Option Addr) = some x → A6 = some y → x.block ≠ y.block := by
          intro x y hx hy
          rcases hat6 with h0 | h0
          · exact HD.out x y hx (by rw [← h0]; exact hy)
          · rw [h0] at hy
            injection hx with hx; injection hy with hy
            rw [← hx, ← hy]
            simp; omega
        have hsep6 : Sep (us ++ [.slice B4 r4 c4]) := hsep.snoc (fun x hx q hq hq2 => by
          have h1 := hrowU.lt x hx q hq
          rcases ho4.where_ with h2 | ⟨g2, h2, h3, _⟩
          · rw [h2] at hq2; simp [Value.ownBlock] at hq2
          · rw [h2] at hq2
            simp [Value.ownBlock] at hq2
            omega)
        go_roundw
        case rel => exact ⟨k + 1, A6, r2 + 1, c6, _, by omega, by go_num, rfl, ho6, by rw [hst.out]; exact RowsAt.append (.one ⟨_, _, _, rfl, (ho4.keptI hk46).less (Nat.le_trans hF.1.size (Nat.le_refl _))⟩) (hrowU4.kept hk46), hsep6, hdis6, hoV6, hrows.kept ((KeptI.below hb4).trans hk46), hF6⟩
        case measure => simp [intOf]; omega
      · have hst := hide (show cornsP nL v Ls (k + 1) = cornsP nL v Ls k by rw [HST.out, addNew, hq]; rfl)
        clear hq
        go_wp2
        go_roundw
        case rel => exact ⟨k + 1, B2, r2, c2, us, by omega, by go_num, rfl, hoU.below hb45 (Nat.le_refl _), by rw [hst.out]; exact hrowU.kept (.below hb45), hsep, HD.out, hoV.below hb45 (Nat.le_refl _), hrows.kept (.below hb45), hF.step hb45⟩
        case measure => simp [intOf]; omega
    · obtain rfl : k = r := by omega
      have hl2 := hide (show cornsP N v Ls k = cornersL N v by rw [HL.out, HRL.out])
      go_wp2
      go_ret2
      exact ⟨B2, r2, c2, us, by rw [HE1.out]; rfl, hoU.less (by omega), by rw [← hl2.out]; exact hrowU, hsep, by omega, hbel⟩
end Go.Proofs.Ytfmibekefllhjaa
