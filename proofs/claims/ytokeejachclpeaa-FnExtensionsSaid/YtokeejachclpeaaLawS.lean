/-
  Walks: the laws' helpers on lists of lists; sums, bytes.
-/
import Derived.Test.YtokeejachclpeaaCorM
import Derived.Test.YtokeejachclpeaaLawW
import Derived.Test.YtokeejachclpeaaBelM
import Derived.Deep.RegionHeld3
namespace Go.Proofs.Ytokeejachclpeaa
open Go.RowKit

/-- A row of rows of the call's own. -/
structure MOwn (w : World) (B : Nat) (A : Option Addr) (n c : Nat) (vs : List Value) (Ls : List (List Int)) : Prop where
  own : OwnV w B A n c vs
  rows : RowsAt w B vs Ls
theorem MOwn.below {w w' : World} {B n c : Nat} {A : Option Addr} {vs : List Value} {Ls : List (List Int)} (h : MOwn w B A n c vs Ls) {B' : Nat} (hb : Below B' w w') (hB : w.heap.size ≤ B') : MOwn w' B A n c vs Ls :=
  ⟨h.own.below hb hB, h.rows.kept (.below (hb.mono hB))⟩
theorem MOwn.alloc {w : World} {B n c : Nat} {A : Option Addr} {vs : List Value} {Ls : List (List Int)} (h : MOwn w B A n c vs Ls) (o : Obj) : MOwn (w.alloc o) B A n c vs Ls :=
  ⟨h.own.alloc o, h.rows.kept ((KeptI.refl w).alloc o)⟩
theorem MOwn.len {w : World} {B n c : Nat} {A : Option Addr} {vs : List Value} {Ls : List (List Int)} (h : MOwn w B A n c vs Ls) : n = Ls.length := by have := h.own.len; have := h.rows.len; omega
theorem RowsAt.of {w : World} {B : Nat} : ∀ {vs : List Value} {Ls : List (List Int)}, vs.length = Ls.length → (∀ k, k < Ls.length → ∃ A n c, vs[k]? = some (.slice A n c) ∧ Own w B A n c (Ls.getD k [])) → RowsAt w B vs Ls
  | [], [], _, _ => trivial
  | u :: vs, L :: Ls, hl, h => by
    refine ⟨?_, RowsAt.of (by simpa using hl) (fun k hk => ?_)⟩
    · obtain ⟨A, n, c, h1, h2⟩ := h 0 (by simp)
      simp at h1 h2
      exact ⟨A, n, c, h1, h2⟩
    · obtain ⟨A, n, c, h1, h2⟩ := h (k + 1) (by simpa using hk)
      exact ⟨A, n, c, by simpa using h1, by simpa using h2⟩
  | [], _ :: _, hl, _ => by simp at hl
  | _ :: _, [], hl, _ => by simp at hl
theorem getD_take_all {Ls Ms : List (List Int)} (hl : Ls.length = Ms.length) (h : ∀ k, k < Ls.length → Ls.getD k [] = Ms.getD k []) : Ls = Ms := by
  apply List.ext_getElem hl
  intro k h1 h2
  have := h k h1
  simpa [List.getD, List.getElem?_eq_getElem h1, List.getElem?_eq_getElem h2] using this
set_option maxHeartbeats 1000000 in
theorem sameLists_any (A A' : Option Addr) (n n' c c' B B' : Nat) (vs us : List Value) (Ls Ms : List (List Int)) (w : World) (hx : MOwn w B A n c vs Ls) (hy : MOwn w B' A' n' c' us Ms) :
    Calls Try.prog 20 #[.slice A n c, .slice A' n' c'] w fun e w' => e = .returned (.bool (decide (Ls = Ms))) ∧ Below w.heap.size w w' := by
  have hxl := hide hx.len
  have hyl := hide hy.len
  have hle := hx.own.le
  have hle' := hy.own.le
  by_cases hnn : n = n'
  case neg =>
    have e1 : ((n : Int) != (n' : Int)) = true := by simp; omega
    have hno : decide (Ls = Ms) = false := by
      simp
      rintro rfl
      exact hnn (hxl.out.trans hyl.out.symm)
    have HNO := hide hno
    clear hno hnn
    go_enter Try.func20, Try.ntmps20
    go_wp2
    go_ret
    exact ⟨ret_bool (by rw [HNO.out]), Below.refl _ _⟩
  subst hnn
  have e1 : ((n : Int) != (n : Int)) = false := by simp
  go_enter Try.func20, Try.ntmps20
  go_wp2
  clear e1
  go_loopw [5] (fun t wr => ∃ (k : Nat), k ≤ n ∧ t = .int .i64 k ∧ (∀ j, j < k → Ls.getD j [] = Ms.getD j []) ∧ Below w.heap.size w wr) (fun t _ => n - (intOf t).toNat)
  case atStart => exact ⟨0, Nat.zero_le _, rfl, fun j hj => by omega, Below.refl _ _⟩
  case round =>
    obtain ⟨k, hk, rfl, hsame, hbel⟩ := hrel
    have HS := hide hsame; clear hsame
    by_cases hlt : k < n
    · have hx1 := hx.below hbel (Nat.le_refl _)
      have hy1 := hy.below hbel (Nat.le_refl _)
      obtain ⟨g, rfl, hg1, hg2⟩ := hx1.own.form (by omega)
      obtain ⟨g', rfl, hg1', hg2'⟩ := hy1.own.form (by omega)
      obtain ⟨AK, nK, cK, hK1, hK2⟩ := hx1.rows.get (k := k) (by rw [← hxl.out]; exact hlt)
      obtain ⟨AM, nM, cM, hM1, hM2⟩ := hy1.rows.get (k := k) (by rw [← hyl.out]; exact hlt)
      have r0 := hx1.own.cell hK1
      have r1 := hy1.own.cell hM1
      have hszb := hbel.size
      have HE := hide (fun W (h : Below wr.heap.size wr W) => sameInts_any AK AM nK nM cK cM _ _ W (hK2.ints.below h (Nat.le_refl _)) (hM2.ints.below h (Nat.le_refl _)))
      have i0 : (0 : Int) ≤ (k : Int) := by omega
      have i1 : (k : Int) < (n : Int) := by omega
      clear hK1 hM1
      have hb0 : Below wr.heap.size wr wr.drew := (Below.refl _ _).drew
      cases hq : decide (Ls.getD k [] = Ms.getD k [])
      · have HQ := hide hq
        have hno : decide (Ls = Ms) = false := by
          simp only [decide_eq_false_iff_not] at hq ⊢
          rintro rfl
          exact hq rfl
        have HNO := hide hno
        clear hq hno
        go_wp2
        go_region_held3 (fun w' => w'.cell? ⟨g, k, none⟩ = some (.slice AK nK cK) ∧ w'.cell? ⟨g', k, none⟩ = some (.slice AM nM cM))
          (first
            | go_keep
            | exact ⟨(hb2.cell (p := ⟨g, k, none⟩) hg2).trans r0, (hb2.cell (p := ⟨g', k, none⟩) hg2').trans r1⟩)
          (first
            | (go_at_call 15; refine (HE.out _ hb0).mono ?_; rintro e w2 ⟨rfl, hb2⟩; rw [HQ.out]))
        go_wp2
        go_ret
        exact ⟨ret_bool (by rw [HNO.out]), hbel.trans ((hb0.trans hb2).mono hszb)⟩
      · have HQ := hide hq
        have hyes : ∀ j, j < k + 1 → Ls.getD j [] = Ms.getD j [] := by
          intro j hj
          by_cases hjk : j = k
          · rw [hjk]; exact of_decide_eq_true hq
          · exact HS.out j (by omega)
        have HY := hide hyes
        clear hq hyes
        go_wp2
        go_region_held3 (fun w' => w'.cell? ⟨g, k, none⟩ = some (.slice AK nK cK) ∧ w'.cell? ⟨g', k, none⟩ = some (.slice AM nM cM))
          (first
            | go_keep
            | exact ⟨(hb2.cell (p := ⟨g, k, none⟩) hg2).trans r0, (hb2.cell (p := ⟨g', k, none⟩) hg2').trans r1⟩)
          (first
            | (go_at_call 15; refine (HE.out _ hb0).mono ?_; rintro e w2 ⟨rfl, hb2⟩; rw [HQ.out]))
        go_wp2
        go_roundw
        case rel => exact ⟨k + 1, by omega, by go_num, HY.out, hbel.trans ((hb0.trans hb2).mono hszb)⟩
        case measure => simp [intOf]; omega
    · obtain rfl : k = n := by omega
      have hyes : decide (Ls = Ms) = true := by
        simp only [decide_eq_true_eq]
        exact getD_take_all (hxl.out.symm.trans hyl.out) (fun j hj => HS.out j (by rw [hxl.out]; exact hj))
      have HY := hide hyes
      clear hyes
      go_wp2
      go_ret
      exact ⟨ret_bool (by rw [HY.out]), hbel⟩
theorem cornersM_any (E : Int) (A : Option Addr) (n c : Nat) (v : List Int) (w : World) (hv : Ints w A n v) :
    Calls Try.prog 18 #[.agg #[.int .i64 E, .slice A n c]] w fun e w' => ∃ B r cr vs, e = .returned (.tuple #[.slice B r cr, .bool (cornersOk E v)]) ∧ MOwn w' w.heap.size B r cr vs (cornersL E v) ∧ Below w.heap.size w w' :=
  (cornersOf_any E A n c v w hv).mono fun _ _ ⟨B, r, cr, vs, h1, h2, h3, h4⟩ => ⟨B, r, cr, vs, h1, ⟨h2, h3⟩, h4.2.2⟩
theorem specCornersM_any (E : Int) (A : Option Addr) (n c : Nat) (v : List Int) (w : World) (hv : Ints w A n v) :
    Calls Try.prog 19 #[.agg #[.int .i64 E, .slice A n c]] w fun e w' => ∃ B r cr vs, e = .returned (.tuple #[.slice B r cr, .bool (cornersOk E v)]) ∧ MOwn w' w.heap.size B r cr vs (cornersL E v) ∧ Below w.heap.size w w' :=
  (specCornersOf_any E A n c v w hv).mono fun _ _ ⟨B, r, cr, vs, h1, h2, h3, h4⟩ => ⟨B, r, cr, vs, h1, ⟨h2, h3⟩, h4.2.2⟩
end Go.Proofs.Ytokeejachclpeaa
