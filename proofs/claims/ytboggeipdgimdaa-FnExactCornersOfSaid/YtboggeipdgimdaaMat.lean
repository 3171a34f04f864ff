/-
  Rows of rows of the call's own ([][]int): what they hold, what keeps them, append.
-/
import Derived.Test.YtboggeipdgimdaaApp
namespace Go.Proofs.Ytboggeipdgimdaa
open Go.RowKit

theorem row_info : (Try.prog.info? 22).map (fun i => (i.zero, i.size, i.bytes)) = some (some (.slice none 0 0), 1, 24) := by kernel_rfl
/-- A row of slices of the call's own. -/
def OwnV (w : World) (B : Nat) (A : Option Addr) (n c : Nat) (vs : List Value) : Prop := w.ownsRow B 22 1 (.slice A n c) n vs
section
variable {w w' : World} {B n c : Nat} {A : Option Addr} {vs : List Value}
theorem OwnV.len (h : OwnV w B A n c vs) : vs.length = n := by simpa using h.1
theorem OwnV.where_ (h : OwnV w B A n c vs) : A = none ∨ ∃ g, A = some ⟨g, 0, none⟩ ∧ B ≤ g ∧ g < w.heap.size ∧ ∃ cur, w.heap[g]? = some (.cells cur 22 (0, 0)) := by
  rcases h.2 with ⟨hv, _⟩ | ⟨g, cap, cur, hv, hb, hg, _⟩
  · injection hv with h1 _ _; exact .inl h1
  · injection hv with h1 h2 h3
    exact .inr ⟨g, h1, hb, (Array.getElem?_eq_some_iff.1 hg).1, cur, hg⟩
theorem OwnV.form (h : OwnV w B A n c vs) (hn : 0 < n) : ∃ g, A = some ⟨g, 0, none⟩ ∧ B ≤ g ∧ g < w.heap.size := by
  rcases h.2 with ⟨_, h0⟩ | ⟨g, cap, cur, hv, hb, hg, _⟩
  · omega
  · injection hv with h1 h2 h3
    exact ⟨g, h1, hb, (Array.getElem?_eq_some_iff.1 hg).1⟩
theorem OwnV.cell {g : Nat} (h : OwnV w B (some ⟨g, 0, none⟩) n c vs) {k : Nat} {u : Value} (hk : vs[k]? = some u) : w.cell? ⟨g, k, none⟩ = some u := by
  have hlt : k < n := by rw [← h.len]; exact (List.getElem?_eq_some_iff.1 hk).1
  rw [World.ownsRow.cellAt h k (by omega)]
  exact hk
theorem OwnV.le (h : OwnV w B A n c vs) : n ≤ 9223372036854775807 := by
  rcases h.2 with ⟨_, h0⟩ | ⟨g, cap, cur, hv, _, _, hnc, hcm, _⟩
  · omega
  · simp only [maxLen] at hcm; omega
theorem OwnV.cap (h : OwnV w B A n c vs) : n ≤ c := by
  rcases h.2 with ⟨hv, h0⟩ | ⟨g, cap, cur, hv, _, _, hnc, _⟩
  · injection hv with _ h2 h3; omega
  · injection hv with _ h2 h3; omega
theorem OwnV.alloc (h : OwnV w B A n c vs) (o : Obj) : OwnV (w.alloc o) B A n c vs := World.ownsRow.alloc h o
theorem OwnV.less {B' : Nat} (h : OwnV w B A n c vs) (hB : B' ≤ B) : OwnV w B' A n c vs := by
  refine ⟨h.1, ?_⟩
  rcases h.2 with h2 | ⟨g, cap, cur, hv, hg, r⟩
  · exact Or.inl h2
  · exact Or.inr ⟨g, cap, cur, hv, Nat.le_trans hB hg, r⟩
theorem OwnV.keep (h : OwnV w B A n c vs) (hk : ∀ g, g < w.heap.size → A = some ⟨g, 0, none⟩ → w'.heap[g]? = w.heap[g]?) : OwnV w' B A n c vs := by
  refine ⟨h.1, ?_⟩
  rcases h.2 with h2 | ⟨g, cap, cur, hv, hg, hh, r⟩
  · exact Or.inl h2
  · refine Or.inr ⟨g, cap, cur, hv, hg, ?_, r⟩
    rw [hk g (Array.getElem?_eq_some_iff.1 hh).1 (by injection hv)]
    exact hh
theorem OwnV.below (h : OwnV w B A n c vs) {B' : Nat} (hb : Below B' w w') (hB : w.heap.size ≤ B') : OwnV w' B A n c vs :=
  h.keep fun g hg _ => hb.block g (Nat.lt_of_lt_of_le hg hB)
theorem ownV_none (w : World) {B : Nat} (hB : B ≤ w.heap.size) : OwnV (w.alloc (.cells #[] 22)) B (some ⟨w.heap.size, 0, none⟩) 0 0 [] :=
  World.ownsRow_made (base := B) (e := 22) (size := 1) w #[] 0 hB (by simp [maxLen]) rfl
theorem ownV_nil (w : World) (B : Nat) : OwnV w B none 0 0 [] := World.ownsRow_nil w B _ _
theorem ownV_one (w : World) {B : Nat} (hB : B ≤ w.heap.size) (u : Value) : OwnV (w.alloc (.cells #[u] 22)) B (some ⟨w.heap.size, 0, none⟩) 1 1 [u] :=
  World.ownsRow_lit (e := 22) (size := 1) w #[u] 1 hB (by simp [maxLen]) (by simp)
end

/-- A slice value that reads as a row of ints of the call's own. -/
def RowAt (w : World) (B : Nat) (u : Value) (L : List Int) : Prop := ∃ A n c, u = .slice A n c ∧ Own w B A n c L
/-- What is kept from w to w': the blocks that hold ints. -/
def KeptI (w w' : World) : Prop := w.heap.size ≤ w'.heap.size ∧ ∀ (g : Nat) (cur : Array Value), w.heap[g]? = some (Obj.cells cur 3 (0, 0)) → w'.heap[g]? = w.heap[g]?
theorem KeptI.refl (w : World) : KeptI w w := ⟨Nat.le_refl _, fun _ _ _ => rfl⟩
theorem KeptI.trans {a b c : World} (h : KeptI a b) (k : KeptI b c) : KeptI a c := ⟨Nat.le_trans h.1 k.1, fun g cur hg => by
  have h1 := h.2 g cur hg
  rw [← h1]
  exact k.2 g cur (by rw [h1]; exact hg)⟩
theorem KeptI.below {w w' : World} (h : Below w.heap.size w w') : KeptI w w' := ⟨h.size, fun g _ hg => h.block g (Array.getElem?_eq_some_iff.1 hg).1⟩
theorem KeptI.alloc {w w' : World} (h : KeptI w w') (o : Obj) : KeptI w (w'.alloc o) := h.trans (.below ((Below.refl _ _).alloc (Nat.le_refl _) o))
theorem KeptI.grown {w w' : World} {B n c : Nat} {A : Option Addr} {vs : List Value} (h : OwnV w B A n c vs) (hg : w.grownBy w' (A.map (·.block))) : KeptI w w' := ⟨hg.size, fun g cur hc => hg.block g (Array.getElem?_eq_some_iff.1 hc).1 (fun hk => by
  rcases h.where_ with h0 | ⟨g', h1, _, _, cur', h3⟩
  · rw [h0] at hk; cases hk
  · rw [h1] at hk
    simp at hk
    subst hk
    rw [h3] at hc
    simp at hc)⟩
theorem Own.keptI {w w' : World} {B n c : Nat} {A : Option Addr} {L : List Int} (h : Own w B A n c L) (hk : KeptI w w') : Own w' B A n c L := by
  refine ⟨h.1, ?_⟩
  rcases h.2 with h2 | ⟨g, cap, cur, hv, hg, hh, r⟩
  · exact Or.inl h2
  · refine Or.inr ⟨g, cap, cur, hv, hg, ?_, r⟩
    rw [hk.2 g cur hh]
    exact hh
theorem RowAt.kept {w w' : World} {B : Nat} {u : Value} {L : List Int} (h : RowAt w B u L) (hk : KeptI w w') : RowAt w' B u L := by
  obtain ⟨A, n, c, rfl, ho⟩ := h
  exact ⟨A, n, c, rfl, ho.keptI hk⟩
theorem RowAt.less {w : World} {B B' : Nat} {u : Value} {L : List Int} (h : RowAt w B u L) (hB : B' ≤ B) : RowAt w B' u L := by
  obtain ⟨A, n, c, rfl, ho⟩ := h
  exact ⟨A, n, c, rfl, ho.less hB⟩
/-- All slices read as rows of the call's own. -/
def RowsAt (w : World) (B : Nat) : List Value → List (List Int) → Prop
  | [], [] => True
  | u :: vs, L :: Ls => RowAt w B u L ∧ RowsAt w B vs Ls
  | _, _ => False
theorem RowsAt.len {w : World} {B : Nat} : ∀ {vs : List Value} {Ls : List (List Int)}, RowsAt w B vs Ls → vs.length = Ls.length
  | [], [], _ => rfl
  | _ :: _, _ :: _, h => by simp [RowsAt.len h.2]
  | [], _ :: _, h => by cases h
  | _ :: _, [], h => by cases h
theorem RowsAt.kept {w w' : World} {B : Nat} (hk : KeptI w w') : ∀ {vs : List Value} {Ls : List (List Int)}, RowsAt w B vs Ls → RowsAt w' B vs Ls
  | [], [], _ => trivial
  | _ :: _, _ :: _, h => ⟨h.1.kept hk, RowsAt.kept hk h.2⟩
  | [], _ :: _, h => by cases h
  | _ :: _, [], h => by cases h
theorem RowsAt.less {w : World} {B B' : Nat} (hB : B' ≤ B) : ∀ {vs : List Value} {Ls : List (List Int)}, RowsAt w B vs Ls → RowsAt w B' vs Ls
  | [], [], _ => trivial
  | _ :: _, _ :: _, h => ⟨h.1.less hB, RowsAt.less hB h.2⟩
  | [], _ :: _, h => by cases h
  | _ :: _, [], h => by cases h
theorem RowsAt.append {w : World} {B : Nat} {ws : List Value} {Ms : List (List Int)} (k : RowsAt w B ws Ms) : ∀ {vs : List Value} {Ls : List (List Int)}, RowsAt w B vs Ls → RowsAt w B (vs ++ ws) (Ls ++ Ms)
  | [], [], _ => k
  | _ :: _, _ :: _, h => ⟨h.1, RowsAt.append k h.2⟩
  | [], _ :: _, h => by cases h
  | _ :: _, [], h => by cases h
theorem RowsAt.one {w : World} {B : Nat} {u : Value} {L : List Int} (h : RowAt w B u L) : RowsAt w B [u] [L] := ⟨h, trivial⟩
theorem RowsAt.get {w : World} {B : Nat} : ∀ {vs : List Value} {Ls : List (List Int)}, RowsAt w B vs Ls → ∀ {k : Nat}, k < Ls.length → ∃ A n c, vs[k]? = some (.slice A n c) ∧ Own w B A n c (Ls.getD k [])
  | [], [], _, k, hk => by simp at hk
  | u :: vs, L :: Ls, h, 0, _ => by
    obtain ⟨A, n, c, rfl, ho⟩ := h.1
    exact ⟨A, n, c, rfl, by simpa using ho⟩
  | u :: vs, L :: Ls, h, k + 1, hk => by
    obtain ⟨A, n, c, h1, h2⟩ := RowsAt.get h.2 (k := k) (by simpa using hk)
    exact ⟨A, n, c, by simpa using h1, by simpa using h2⟩
  | [], _ :: _, h, _, _ => by cases h
  | _ :: _, [], h, _, _ => by cases h

/-! append to a row of rows -/
theorem run_appvs (ty : TypeId) (B : Nat) (A : Option Addr) (n c : Nat) (vs : List Value) (X : Option Addr) (m cx B2 : Nat) (ws : List Value) (w : World) (hown : OwnV w B A n c vs) (hy : OwnV w B2 X m cx ws) (hone : ∀ u ∈ ws, ∃ a k l, u = .slice a k l)
    (hn : n ≤ 1048576) (hm : m ≤ 1048576) (hB : B ≤ w.heap.size) :
    ∃ A' c' w', (Builtin.append_ #[47, 47] ty #[.slice A n c, .slice X m cx]).run Try.prog w = .ok (.slice A' (n + m) c') w' ∧ OwnV w' B A' (n + m) c' (vs ++ ws) ∧ w.grownBy w' (A.map (·.block)) ∧ (A' = A ∨ A' = some ⟨w.heap.size, 0, none⟩) := by
  obtain ⟨i0, hi0, hz0, hz1, hz2⟩ := info_parts row_info
  have hyl := hy.len
  by_cases h0 : m = 0
  · subst h0
    have e : ws = [] := List.length_eq_zero_iff.1 hyl
    subst e
    refine ⟨A, c, w, ?_, by simpa using hown, World.grownBy.refl _ _, .inl rfl⟩
    have hle := hown.cap
    have hu := Try.underlying47
    cases A <;> cases X <;> simp [Builtin.append_, run_underlying hu, sizeOf, typeInfo, hi0, Builtin.lenOf, hle, Builtin.firstCells, loadCells, loadCellsFrom, storeCells]
  · obtain ⟨b, rfl, _, _⟩ := hy.form (by omega)
    obtain ⟨v', w', hr, h2, h3, _, h5⟩ := run_append_own_at (P := Try.prog) w B 47 ty 22 i0 _ 1 24 Try.underlying47 hi0 hz0 hz1 hz2 rfl (by omega) (.slice A n c) n vs hown ⟨b, 0, none⟩ m cx ws
      (by simp [hyl]) (fun j u hu => by
        have hadd : (⟨b, 0, none⟩ : Addr).add j = ⟨b, j, none⟩ := by unfold Addr.add; split <;> simp_all
        rw [hadd]
        exact hy.cell hu) (fun u hu => by
          obtain ⟨a, k, l, rfl⟩ := hone u hu
          simp [Value.oneCell']) (by simp only [maxLen]; omega) (by omega) hB
    have hsh : ∃ g cap, v' = .slice (some ⟨g, 0, none⟩) (n + m) cap := by
      rcases h2.2 with ⟨_, hz⟩ | ⟨g, cap, cur, hv, _⟩
      · omega
      · exact ⟨g, cap, hv⟩
    obtain ⟨g, cap, rfl⟩ := hsh
    refine ⟨_, cap, w', hr, h2, by rw [← own_block A n c]; exact h3, ?_⟩
    rcases h5 with h5 | h5
    · left
      rcases hown.where_ with e | ⟨g', e, _, _⟩
      · subst e; simp [Value.ownBlock] at h5
      · subst e; simp [Value.ownBlock] at h5; subst h5; rfl
    · right
      simp [Value.ownBlock] at h5
      rw [h5]
theorem RowsAt.slices {w : World} {B : Nat} : ∀ {vs : List Value} {Ls : List (List Int)}, RowsAt w B vs Ls → ∀ u ∈ vs, ∃ a k l, u = .slice a k l
  | [], [], _, u, hu => by cases hu
  | x :: vs, L :: Ls, h, u, hu => by
    rcases List.mem_cons.1 hu with rfl | hu
    · obtain ⟨A, n, c, e, _⟩ := h.1
      exact ⟨A, n, c, e⟩
    · exact RowsAt.slices h.2 u hu
  | [], _ :: _, h, _, _ => by cases h
  | _ :: _, [], h, _, _ => by cases h
section
variable {w : World}
theorem wp_appvs {o : Oper} {a : Act} {K : Act → World → Prop} {Q : Exit → Act → World → Prop} (s x : Operand)
    (ho : o.op = .call { callee := .builtin .append, args := #[s, x], argTypes := #[47, 47] })
    (B : Nat) (A : Option Addr) (n c : Nat) (vs : List Value) (X : Option Addr) (m cx B2 : Nat) (ws : List Value) (hs : a.eval s = .slice A n c) (hx : a.eval x = .slice X m cx)
    (hown : OwnV w B A n c vs) (hy : OwnV w B2 X m cx ws) (hone : ∀ u ∈ ws, ∃ a k l, u = .slice a k l) (hn : n ≤ 1048576) (hm : m ≤ 1048576) (hB : B ≤ w.heap.size)
    (h : ∀ A' c' w', OwnV w' B A' (n + m) c' (vs ++ ws) → w.grownBy w' (A.map (·.block)) → (A' = A ∨ A' = some ⟨w.heap.size, 0, none⟩) → K (a.put o.dst (.slice A' (n + m) c')) w') : o.wp Try.prog a w K Q := by
  obtain ⟨A', c', w', hr, h2, h3, h4⟩ := run_appvs o.type B A n c vs X m cx B2 ws w hown hy hone hn hm hB
  unfold Oper.wp execOp
  simp only [ho, resolve, invoke, builtin, Sem.run_bind, Sem.run_pure, Result.andThen_ok, List.map_toArray, List.map_cons, List.map_nil, hs, hx, hr]
  exact h A' c' w' h2 h3 h4
theorem wpl_appvs {ops : Array Oper} {rest : List Oper} {o : Oper} {a : Act} {Q : Exit → Act → World → Prop} (hgd : o.guard = none) (s x : Operand)
    (ho : o.op = .call { callee := .builtin .append, args := #[s, x], argTypes := #[47, 47] })
    (B : Nat) (A : Option Addr) (n c : Nat) (vs : List Value) (X : Option Addr) (m cx B2 : Nat) (ws : List Value) (hs : a.eval s = .slice A n c) (hx : a.eval x = .slice X m cx)
    (hown : OwnV w B A n c vs) (hy : OwnV w B2 X m cx ws) (hone : ∀ u ∈ ws, ∃ a k l, u = .slice a k l) (hn : n ≤ 1048576) (hm : m ≤ 1048576) (hB : B ≤ w.heap.size)
    (h : ∀ A' c' w', OwnV w' B A' (n + m) c' (vs ++ ws) → w.grownBy w' (A.map (·.block)) → (A' = A ∨ A' = some ⟨w.heap.size, 0, none⟩) → wpList Try.prog ops Q rest (a.put o.dst (.slice A' (n + m) c')) w') : wpList Try.prog ops Q (o :: rest) a w :=
  wpList_plain hgd fun _ hK => wp_appvs s x ho B A n c vs X m cx B2 ws hs hx hown hy hone hn hm hB fun A' c' w' h2 h3 h4 => hK _ _ (h A' c' w' h2 h3 h4)
end
end Go.Proofs.Ytboggeipdgimdaa
