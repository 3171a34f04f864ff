/-
  append of a whole slice to a row of the call's own.
-/
import Derived.Test.YtokeejachclpeaaMem
import Derived.Deep.AppendLies
import Derived.Maps.AppendAt
namespace Go.Proofs.Ytokeejachclpeaa
open Go.RowKit

theorem own_cap {w : World} {B n c : Nat} {A : Option Addr} {xs : List Int} (h : Own w B A n c xs) : n ≤ c := by
  rcases h.2 with ⟨hv, h0⟩ | ⟨g, cap, cur, hv, _, _, hnc, _⟩
  · injection hv with _ h2 h3; omega
  · injection hv with _ h2 h3; omega
theorem run_apps (ty : TypeId) (B : Nat) (A : Option Addr) (n c : Nat) (xs : List Int) (X : Option Addr) (m cx : Nat) (ys : List Int) (w : World) (hown : Own w B A n c xs) (hy : Ints w X m ys)
    (hn : n ≤ 1048576) (hm : m ≤ 1048576) (hB : B ≤ w.heap.size) :
    ∃ A' c' w', (Builtin.append_ #[24, 24] ty #[.slice A n c, .slice X m cx]).run Try.prog w = .ok (.slice A' (n + m) c') w' ∧ Own w' B A' (n + m) c' (xs ++ ys) ∧ w.grownBy w' (A.map (·.block)) ∧ (A' = A ∨ A' = some ⟨w.heap.size, 0, none⟩) := by
  obtain ⟨i0, hi0, hz0, hz1, hz2⟩ := info_parts int_info
  have hyl := hy.len
  by_cases h0 : m = 0
  · subst h0
    have e : ys = [] := List.length_eq_zero_iff.1 hyl
    subst e
    refine ⟨A, c, w, ?_, by simpa using hown, World.grownBy.refl _ _, .inl rfl⟩
    have hle := own_cap hown
    have hu := Try.underlying24
    cases A <;> cases X <;> simp [Builtin.append_, run_underlying hu, sizeOf, typeInfo, hi0, Builtin.lenOf, hle, Builtin.firstCells, loadCells, loadCellsFrom, storeCells]
  · obtain ⟨b, off, rfl, hb, hc⟩ := hy.all_ (by omega)
    obtain ⟨v', w', hr, h2, h3, _, h5⟩ := run_append_own_at (P := Try.prog) w B 24 ty 3 i0 _ 1 8 Try.underlying24 hi0 hz0 hz1 hz2 rfl (by omega) (.slice A n c) n (xs.map (Value.int .i64)) hown ⟨b, off, none⟩ m cx (ys.map (Value.int .i64))
      (by simp [hyl]) (fun j u hu => by
        have hj : j < ys.length := by
          rw [List.getElem?_eq_some_iff] at hu
          obtain ⟨h1, _⟩ := hu
          simpa using h1
        rw [List.getElem?_map, List.getElem?_eq_getElem hj] at hu
        simp at hu
        subst hu
        have h1 := hc j (by omega)
        rw [gv_get hj] at h1
        have hadd : (⟨b, off, none⟩ : Addr).add j = ⟨b, off + j, none⟩ := by unfold Addr.add; split <;> simp_all
        rw [hadd]
        exact h1) (by simp [Value.oneCell']) (by simp only [maxLen]; omega) (by omega) hB
    rw [← List.map_append] at h2
    have hsh : ∃ g cap, v' = .slice (some ⟨g, 0, none⟩) (n + m) cap := by
      rcases h2.2 with ⟨_, hz⟩ | ⟨g, cap, cur, hv, _⟩
      · omega
      · exact ⟨g, cap, hv⟩
    obtain ⟨g, cap, rfl⟩ := hsh
    refine ⟨_, cap, w', hr, h2, by rw [← own_block A n c]; exact h3, ?_⟩
    rcases h5 with h5 | h5
    · left
      rcases Own.where_ hown with e | ⟨g', e, _, _⟩
      · subst e; simp [Value.ownBlock] at h5
      · subst e; simp [Value.ownBlock] at h5; subst h5; rfl
    · right
      simp [Value.ownBlock] at h5
      rw [h5]
section
variable {w : World}
theorem wp_apps {o : Oper} {a : Act} {K : Act → World → Prop} {Q : Exit → Act → World → Prop} (s x : Operand)
    (ho : o.op = .call { callee := .builtin .append, args := #[s, x], argTypes := #[24, 24] })
    (B : Nat) (A : Option Addr) (n c : Nat) (xs : List Int) (X : Option Addr) (m cx : Nat) (ys : List Int) (hs : a.eval s = .slice A n c) (hx : a.eval x = .slice X m cx)
    (hown : Own w B A n c xs) (hy : Ints w X m ys) (hn : n ≤ 1048576) (hm : m ≤ 1048576) (hB : B ≤ w.heap.size)
    (h : ∀ A' c' w', Own w' B A' (n + m) c' (xs ++ ys) → w.grownBy w' (A.map (·.block)) → (A' = A ∨ A' = some ⟨w.heap.size, 0, none⟩) → K (a.put o.dst (.slice A' (n + m) c')) w') : o.wp Try.prog a w K Q := by
  obtain ⟨A', c', w', hr, h2, h3, h4⟩ := run_apps o.type B A n c xs X m cx ys w hown hy hn hm hB
  unfold Oper.wp execOp
  simp only [ho, resolve, invoke, builtin, Sem.run_bind, Sem.run_pure, Result.andThen_ok, List.map_toArray, List.map_cons, List.map_nil, hs, hx, hr]
  exact h A' c' w' h2 h3 h4
theorem wpl_apps {ops : Array Oper} {rest : List Oper} {o : Oper} {a : Act} {Q : Exit → Act → World → Prop} (hgd : o.guard = none) (s x : Operand)
    (ho : o.op = .call { callee := .builtin .append, args := #[s, x], argTypes := #[24, 24] })
    (B : Nat) (A : Option Addr) (n c : Nat) (xs : List Int) (X : Option Addr) (m cx : Nat) (ys : List Int) (hs : a.eval s = .slice A n c) (hx : a.eval x = .slice X m cx)
    (hown : Own w B A n c xs) (hy : Ints w X m ys) (hn : n ≤ 1048576) (hm : m ≤ 1048576) (hB : B ≤ w.heap.size)
    (h : ∀ A' c' w', Own w' B A' (n + m) c' (xs ++ ys) → w.grownBy w' (A.map (·.block)) → (A' = A ∨ A' = some ⟨w.heap.size, 0, none⟩) → wpList Try.prog ops Q rest (a.put o.dst (.slice A' (n + m) c')) w') : wpList Try.prog ops Q (o :: rest) a w :=
  wpList_plain hgd fun _ hK => wp_apps s x ho B A n c xs X m cx ys hs hx hown hy hn hm hB fun A' c' w' h2 h3 h4 => hK _ _ (h A' c' w' h2 h3 h4)
theorem step_apps {ops : Array Oper} {o : Oper} {a : Act} {K : Act → World → Prop} {Q : Exit → Act → World → Prop} {E : Prop} (hgd : o.guard = none) (s x : Operand)
    (ho : o.op = .call { callee := .builtin .append, args := #[s, x], argTypes := #[24, 24] })
    (B : Nat) (A : Option Addr) (n c : Nat) (xs : List Int) (X : Option Addr) (m cx : Nat) (ys : List Int) (hs : a.eval s = .slice A n c) (hx : a.eval x = .slice X m cx)
    (hown : Own w B A n c xs) (hy : Ints w X m ys) (hn : n ≤ 1048576) (hm : m ≤ 1048576) (hB : B ≤ w.heap.size)
    (h : ∀ A' c' w', Own w' B A' (n + m) c' (xs ++ ys) → w.grownBy w' (A.map (·.block)) → (A' = A ∨ A' = some ⟨w.heap.size, 0, none⟩) → K (a.put o.dst (.slice A' (n + m) c')) w') :
    if Region.wanted o (yielded ops a.tmps) = true then Oper.wp Try.prog o a w K Q else E := by
  have hw : Region.wanted o (yielded ops a.tmps) = true := by simp [Region.wanted, hgd]
  rw [if_pos hw]
  exact wp_apps s x ho B A n c xs X m cx ys hs hx hown hy hn hm hB h
end
theorem own_zero (w : World) {B : Nat} (hB : B ≤ w.heap.size) : Own (w.alloc (.cells #[] 3)) B (some ⟨w.heap.size, 0, none⟩) 0 0 [] := (own_none w).less hB
end Go.Proofs.Ytokeejachclpeaa
