/-
  Walks: the laws' helpers on lists of lists.
-/
import Derived.Test.YtfmibekefllhjaaCorM
import Derived.Test.YtfmibekefllhjaaLawKit
import Derived.Deep.RegionHeld3
namespace Go.Proofs.Ytfmibekefllhjaa
open Go.RowKit

/-- A row of rows of the call's own. -/
structure MOwn (w : World) (B : Nat) (A : Option Addr) (n c : Nat) (vs : List Value) (Ls : List (List Int)) : Prop where
  own : OwnV w B A n c vs
  rows : RowsAt w B vs Ls
theorem MOwn.below {w w' : World} {B n c : Nat} {A : Option Addr} {vs : List Value} {Ls : List (List Int)} (h : MOwn w B A n c vs Ls) {B' : Nat} (hb : Below B' w w') (hB : w.heap.size ≤ B') : MOwn w' B A n c vs Ls :=
  ⟨h.own.below hb hB, h.rows.kept (.below (hb.mono hB))⟩
theorem MOwn.alloc {w : World} {B n c : Nat} {A : Option Addr} {vs : List Value} {Ls : List (List Int)} (h : MOwn w B A n c vs Ls) (o : Obj) : MOwn (w.alloc o) B A n c vs Ls :=
  ⟨h.own.alloc o, h.rows.kept ((KeptI.refl w).alloc o)⟩
theorem MOwn.len {w : World} {B n c : Nat} {A : Option Addr} {vs : List Value} {Ls : List (List Int)} (h : MOwn w B A n c vs Ls) : n = Ls.length := by have := h.own.len; have := h.rows.len; omega
theorem RowsAt.of {w : World} {B : Nat} : ∀ {vs : List Value} {Ls : List (List Int)}, vs.length = Ls.length → (∀ k, k < Ls.length → ∃ A n c, vs[k]? = some (.slice A n c) ∧ Own w B A n c (Ls.getD k [])) → RowsAt w B vs Ls
  | [], [], _, _ => trivial
  | u :: vs, L :: Ls, hl, h => by
    refine ⟨?_, RowsAt.of (by simpa using hl) (fun k hk => ?_)⟩
    · obtain ⟨A, n, c, h1, h2⟩ := h 0 (by simp)
      simp at h1 h2
      exact ⟨A, n, c, h1, h2⟩
    · obtain ⟨A, n, c, h1, h2⟩ := h (k + 1) (by simpa using hk)
      exact ⟨A, n, c, by simpa using h1, by simpa using h2⟩
  | [], _ :: _, hl, _ => by simp at hl
  | _ :: _, [], hl, _ => by simp at hl
theorem getD_take_all {Ls Ms : List (List Int)} (hl : Ls.length = Ms.length) (h : ∀ k, k < Ls.length → Ls.getD k [] = Ms.getD k []) : Ls = Ms := by
  apply List.ext_getElem hl
  intro k h1 h2
  have := h k h1
  simpa [List.getD, List.getElem?_eq_getElem h1, List.getElem?_eq_getElem h2] using this
set_option maxHeartbeats 1000000 in
theorem eqIntSS_any (A A' : Option Addr) (n n' c c' B B' : Nat) (vs us : List Value) (Ls Ms : List (List Int)) (w : World) (hx : MOwn w B A n c vs Ls) (hy : MOwn w B' A' n' c' us Ms) :
    Calls Try.prog 32 #[.slice A n c, .slice A' n' c'] w fun e w' => e = .returned (.bool (decide (Ls = Ms))) ∧ Below w.heap.size w w' := by
  have hxl := hide hx.len
  have hyl := hide hy.len
  have hle := hx.own.le
  have hle' := hy.own.le
  by_cases hnn : n = n'
  case neg =>
    have e1 : ((n : Int) != (n' : Int)) = true := by simp; omega
    have hno : decide (Ls = Ms) = false := by
      simp
      rintro rfl
      exact hnn (hxl.out.trans hyl.out.symm)
    have HNO := hide hno
    clear hno hnn
    go_enter Try.func32, Try.ntmps32
    go_wp2
    go_ret
    exact ⟨ret_bool (by rw [HNO.out]), Below.refl _ _⟩
  subst hnn
  have e1 : ((n : Int) != (n : Int)) = false := by simp
  go_enter Try.func32, Try.ntmps32
  go_wp2
  clear e1
  go_loopw [5] (fun t wr => ∃ (k : Nat), k ≤ n ∧ t = .int .i64 k ∧ (∀ j, j < k → Ls.getD j [] = Ms.getD j []) ∧ Below w.heap.size w wr) (fun t _ => n - (intOf t).toNat)
  case atStart => exact ⟨0, Nat.zero_le _, rfl, fun j hj => by omega, Below.refl _ _⟩
  case round =>
    obtain ⟨k, hk, rfl, hsame, hbel⟩ := hrel
    have HS := hide hsame; clear hsame
    by_cases hlt : k < n
    · have hx1 := hx.below hbel (Nat.le_refl _)
      have hy1 := hy.below hbel (Nat.le_refl _)
      obtain ⟨g, rfl, hg1, hg2⟩ := hx1.own.form (by omega)
      obtain ⟨g', rfl, hg1', hg2'⟩ := hy1.own.form (by omega)
      obtain ⟨AK, nK, cK, hK1, hK2⟩ := hx1.rows.get (k := k) (by rw [← hxl.out]; exact hlt)
      obtain ⟨AM, nM, cM, hM1, hM2⟩ := hy1.rows.get (k := k) (by rw [← hyl.out]; exact hlt)
      have r0 := hx1.own.cell hK1
      have r1 := hy1.own.cell hM1
      have hszb := hbel.size
      have HE := hide (fun W (h : Below wr.heap.size wr W) => eqIntS_any AK AM nK nM cK cM _ _ W (hK2.ints.below h (Nat.le_refl _)) (hM2.ints.below h (Nat.le_refl _)))
      have i0 : (0 : Int) ≤ (k : Int) := by omega
      have i1 : (k : Int) < (n : Int) := by omega
      clear hK1 hM1
      have hb0 : Below wr.heap.size wr wr.drew := (Below.refl _ _).drew
      cases hq : decide (Ls.getD k [] = Ms.getD k [])
      · have HQ := hide hq
        have hno : decide (Ls = Ms) = false := by
          simp only [decide_eq_false_iff_not] at hq ⊢
          rintro rfl
          exact hq rfl
        have HNO := hide hno
        clear hq hno
        go_wp2
        go_region_held3 (fun w' => w'.cell? ⟨g, k, none⟩ = some (.slice AK nK cK) ∧ w'.cell? ⟨g', k, none⟩ = some (.slice AM nM cM))
          (first
            | go_keep
            | exact ⟨(hb2.cell (p := ⟨g, k, none⟩) hg2).trans r0, (hb2.cell (p := ⟨g', k, none⟩) hg2').trans r1⟩)
          (first
            | (go_at_call 27; refine (HE.out _ hb0).mono ?_; rintro e w2 ⟨rfl, hb2⟩; rw [HQ.out]))
        go_wp2
        go_ret
        exact ⟨ret_bool (by rw [HNO.out]), hbel.trans ((hb0.trans hb2).mono hszb)⟩
      · have HQ := hide hq
        have hyes : ∀ j, j < k + 1 → Ls.getD j [] = Ms.getD j [] := by
          intro j hj
          by_cases hjk : j = k
          · rw [hjk]; exact of_decide_eq_true hq
          · exact HS.out j (by omega)
        have HY := hide hyes
        clear hq hyes
        go_wp2
        go_region_held3 (fun w' => w'.cell? ⟨g, k, none⟩ = some (.slice AK nK cK) ∧ w'.cell? ⟨g', k, none⟩ = some (.slice AM nM cM))
          (first
            | go_keep
            | exact ⟨(hb2.cell (p := ⟨g, k, none⟩) hg2).trans r0, (hb2.cell (p := ⟨g', k, none⟩) hg2').trans r1⟩)
          (first
            | (go_at_call 27; refine (HE.out _ hb0).mono ?_; rintro e w2 ⟨rfl, hb2⟩; rw [HQ.out]))
        go_wp2
        go_roundw
        case rel => exact ⟨k + 1, by omega, by go_num, HY.out, hbel.trans ((hb0.trans hb2).mono hszb)⟩
        case measure => simp [intOf]; omega
    · obtain rfl : k = n := by omega
      have hyes : decide (Ls = Ms) = true := by
        simp only [decide_eq_true_eq]
        exact getD_take_all (hxl.out.symm.trans hyl.out) (fun j hj => HS.out j (by rw [hxl.out]; exact hj))
      have HY := hide hyes
      clear hyes
      go_wp2
      go_ret
      exact ⟨ret_bool (by rw [HY.out]), hbel⟩

/-! marks -/
def tot (Ls : List (List Int)) : Nat := (Ls.map List.length).sum
def marksLL (k0 : Int) (Ls : List (List Int)) : List (List Int) := (List.range Ls.length).map fun j => marks (k0 + (tot (Ls.take j) : Int)) (Ls.getD j []).length
theorem marksLL_len (k0 : Int) (Ls : List (List Int)) : (marksLL k0 Ls).length = Ls.length := by simp [marksLL]
theorem marksLL_get {k0 : Int} {Ls : List (List Int)} {j : Nat} (hj : j < Ls.length) : (marksLL k0 Ls).getD j [] = marks (k0 + (tot (Ls.take j) : Int)) (Ls.getD j []).length := by
  simp [marksLL, List.getD, List.getElem?_map, List.getElem?_range hj]
theorem tot_take {Ls : List (List Int)} {k : Nat} (hk : k < Ls.length) : tot (Ls.take (k + 1)) = tot (Ls.take k) + (Ls.getD k []).length := by
  have e : Ls.getD k [] = Ls[k] := by simp [List.getD, List.getElem?_eq_getElem hk]
  rw [List.take_add_one, List.getElem?_eq_getElem hk, e]
  simp only [tot, Option.toList_some, List.map_append, List.sum_append, List.map_cons, List.map_nil, List.sum_cons, List.sum_nil, Nat.add_zero]
theorem tot_le {Ls : List (List Int)} (h : ∀ L ∈ Ls, L.length ≤ 1048576) : ∀ k, tot (Ls.take k) ≤ k * 1048576
  | 0 => by simp [tot]
  | k + 1 => by
    have ih := tot_le h k
    by_cases hk : k < Ls.length
    · rw [tot_take hk]
      have : Ls.getD k [] ∈ Ls := by simp [List.getD, List.getElem?_eq_getElem hk]
      have := h _ this
      omega
    · have e : Ls.take (k + 1) = Ls.take k := by rw [List.take_of_length_le (by omega), List.take_of_length_le (by omega)]
      rw [e]
      exact Nat.le_trans ih (Nat.mul_le_mul_right _ (Nat.le_succ k))
/-- Only the rows' own blocks may have changed. -/
structure OnlyV (w w' : World) (vs : List Value) : Prop where
  os : w'.os = w.os
  tape : w'.tape = w.tape
  output : w'.output = w.output
  size : w.heap.size ≤ w'.heap.size
  block : ∀ b, b < w.heap.size → (∀ u ∈ vs, u.ownBlock ≠ some b) → w'.heap[b]? = w.heap[b]?
set_option maxHeartbeats 1000000 in
theorem markIntSS_any (B : Nat) (A : Option Addr) (n c : Nat) (vs : List Value) (Ls : List (List Int)) (w : World) (h : MOwn w B A n c vs Ls) (hsep : vs.Pairwise fun u u' => ∀ g, u.ownBlock = some g → u'.ownBlock = some g → False)
    (hn : n ≤ 1024) (hlen : ∀ L ∈ Ls, L.length ≤ 1048576) :
    Calls Try.prog 33 #[.slice A n c, .int .i64 1] w fun e w' => e = .returned (.int .i64 (1 + (tot Ls : Int))) ∧ MOwn w' B A n c vs (marksLL 1 Ls) ∧ OnlyV w w' vs := by
  have hxl := hide h.len
  have HLEN := hide hlen
  have hvl := hide h.own.len
  have hle := h.own.le
  have HSEP := hide hsep
  clear hlen hsep
  have hrows0 : ∀ j, j < Ls.length → ∃ A n c, vs[j]? = some (.slice A n c) ∧ Own w B A n c (Ls.getD j []) := fun j hj => h.rows.get hj
  have hown0 := h.own
  go_enter Try.func33, Try.ntmps33
  go_wp2
  go_loopw [1, 5] (fun kk i wr => ∃ (k : Nat), k ≤ n ∧ i = .int .i64 k ∧ kk = .int .i64 (1 + (tot (Ls.take k) : Int)) ∧ OwnV wr B A n c vs ∧ (∀ j, j < Ls.length → ∃ A n c, vs[j]? = some (.slice A n c) ∧ Own wr B A n c (if j < k then (marksLL 1 Ls).getD j [] else Ls.getD j [])) ∧ OnlyV w wr vs) (fun _ i _ => n - (intOf i).toNat)
  case atStart => exact ⟨0, Nat.zero_le _, rfl, by simp [tot], hown0, (fun j hj => by obtain ⟨A, n, c, h1, h2⟩ := hrows0 j hj; exact ⟨A, n, c, h1, by simpa using h2⟩), ⟨rfl, rfl, rfl, Nat.le_refl _, fun _ _ _ => rfl⟩⟩
  case round =>
    obtain ⟨k, hk, rfl, rfl, hown, hrows, honly⟩ := hrel
    have HR := hide hrows; clear hrows
    have ht1 := tot_le HLEN.out k
    have ht2 : tot (Ls.take k) ≤ 1073741824 := by
      have : k * 1048576 ≤ 1024 * 1048576 := Nat.mul_le_mul_right _ (by omega)
      omega
    clear ht1
    by_cases hlt : k < n
    · obtain ⟨g, rfl, hB, hg⟩ := hown.form (by omega)
      obtain ⟨AK, nK, cK, hK1, hK2⟩ := HR.out k (by rw [← hxl.out]; exact hlt)
      simp only [Nat.lt_irrefl, if_false] at hK2
      have hcell := hown.cell hK1
      have hnK := hide hK2.len
      have HT := hide (tot_take (Ls := Ls) (k := k) (by rw [← hxl.out]; exact hlt))
      have hnK2 : nK ≤ 1048576 := by rw [← hnK.out]; exact HLEN.out _ (by simp [List.getD, List.getElem?_eq_getElem (show k < Ls.length by rw [← hxl.out]; exact hlt)])
      have HK1 := hide hK1
      clear hK1
      go_wp2_with fail
      refine (markIntS_any B AK nK cK _ (1 + (tot (Ls.take k) : Int)) wr hK2 hnK2 (by omega) (by omega)).mono ?_
      rintro e w2 ⟨rfl, ho2, hg2⟩
      have hblk : ∀ q, AK.map (·.block) = some q → (Value.slice AK nK cK).ownBlock = some q := fun q hq => by rw [own_block]; exact hq
      have hmemK : Value.slice AK nK cK ∈ vs := List.mem_of_getElem? HK1.out
      have hown2 : OwnV w2 B (some ⟨g, 0, none⟩) n c vs := hown.keep (fun g' hg' hA => hg2.block g' hg' (fun hk => by
        rcases hown.where_ with h0 | ⟨g1, h1, _, _, cur, h3⟩
        · rw [h0] at hA; cases hA
        · rw [h1] at hA
          injection hA with hA; injection hA with hA _
          rcases hK2.2 with ⟨hv, _⟩ | ⟨g4, cap, cur4, hv, _, h5, _⟩
          · injection hv with hv _ _
            rw [hv] at hk; cases hk
          · injection hv with hv _ _
            rw [hv] at hk
            simp at hk
            rw [← hk, ← hA, h3] at h5
            simp at h5))
      have hrows2 : ∀ j, j < Ls.length → ∃ A n c, vs[j]? = some (.slice A n c) ∧ Own w2 B A n c (if j < k + 1 then (marksLL 1 Ls).getD j [] else Ls.getD j []) := by
        intro j hj
        obtain ⟨AJ, nJ, cJ, hJ1, hJ2⟩ := HR.out j hj
        by_cases hjk : j = k
        · subst hjk
          rw [HK1.out] at hJ1
          injection hJ1 with hJ1; injection hJ1 with e1 e2 e3
          subst e1; subst e2; subst e3
          refine ⟨AK, nK, cK, HK1.out, ?_⟩
          rw [if_pos (by omega), marksLL_get hj, hnK.out]
          exact ho2
        · refine ⟨AJ, nJ, cJ, hJ1, ?_⟩
          have hc : (if j < k + 1 then (marksLL 1 Ls).getD j [] else Ls.getD j []) = (if j < k then (marksLL 1 Ls).getD j [] else Ls.getD j []) := by
            by_cases h1 : j < k
            · rw [if_pos (by omega), if_pos h1]
            · rw [if_neg (by omega), if_neg h1]
          rw [hc]
          refine hJ2.keep (fun g' hg' hA => hg2.block g' hg' (fun hq => ?_))
          have h1 := hblk g' hq.symm
          have h2 : (Value.slice AJ nJ cJ).ownBlock = some g' := by rw [hA]; rfl
          have hsp := List.pairwise_iff_getElem.1 HSEP.out
          have hjv : j < vs.length := by rw [hvl.out, hxl.out]; exact hj
          have hkv : k < vs.length := by rw [hvl.out]; exact hlt
          have ej : vs[j] = .slice AJ nJ cJ := by rw [List.getElem?_eq_getElem hjv] at hJ1; injection hJ1
          have ek : vs[k] = .slice AK nK cK := by have := HK1.out; rw [List.getElem?_eq_getElem hkv] at this; injection this
          rcases Nat.lt_or_gt_of_ne hjk with hlt' | hgt'
          · exact hsp j k hjv hkv hlt' g' (by rw [ej]; exact h2) (by rw [ek]; exact h1)
          · exact hsp k j hkv hjv hgt' g' (by rw [ek]; exact h1) (by rw [ej]; exact h2)
      have honly2 : OnlyV w w2 vs := ⟨hg2.os.trans honly.os, hg2.tape.trans honly.tape, hg2.output.trans honly.output, Nat.le_trans honly.size hg2.size, fun b hb hne => by
        rw [hg2.block b (Nat.lt_of_lt_of_le hb honly.size) (fun hq => hne _ hmemK (hblk b hq.symm))]
        exact honly.block b hb hne⟩
      go_wp2
      go_roundw
      case rel => exact ⟨k + 1, by omega, by go_num, by rw [HT.out, hnK.out]; congr 1; omega, hown2, hrows2, honly2⟩
      case measure => simp [intOf]; omega
    · obtain rfl : k = n := by omega
      have hfull : Ls.take k = Ls := List.take_of_length_le (by rw [← hxl.out]; exact Nat.le_refl _)
      rw [hfull]
      have hrowsE : RowsAt wr B vs (marksLL 1 Ls) := RowsAt.of (by rw [marksLL_len, hvl.out, ← hxl.out]) (fun j hj => by
        rw [marksLL_len] at hj
        obtain ⟨AJ, nJ, cJ, hJ1, hJ2⟩ := HR.out j hj
        rw [if_pos (by rw [hxl.out]; exact hj)] at hJ2
        exact ⟨AJ, nJ, cJ, hJ1, hJ2⟩)
      go_wp2
      go_ret
      exact ⟨rfl, ⟨hown, hrowsE⟩, honly⟩
set_option maxHeartbeats 1000000 in
theorem heldIntSS_any (B : Nat) (A : Option Addr) (n c : Nat) (vs : List Value) (Ls : List (List Int)) (w : World) (h : MOwn w B A n c vs (marksLL 1 Ls)) (hn : n ≤ 1024) (hlen : ∀ L ∈ Ls, L.length ≤ 1048576) :
    Calls Try.prog 34 #[.slice A n c, .int .i64 1] w fun e w' => e = .returned (.int .i64 (1 + (tot Ls : Int))) ∧ w = w' := by
  have hxl := hide (show n = Ls.length by have := h.len; rw [marksLL_len] at this; exact this)
  have HLEN := hide hlen
  have hle := h.own.le
  clear hlen
  go_enter Try.func34, Try.ntmps34
  go_wp2
  go_loop [1, 5] (fun kk i => ∃ (k : Nat), k ≤ n ∧ i = .int .i64 k ∧ kk = .int .i64 (1 + (tot (Ls.take k) : Int))) (fun _ i => n - (intOf i).toNat)
  case atStart => exact ⟨0, Nat.zero_le _, rfl, by simp [tot]⟩
  case round =>
    obtain ⟨k, hk, rfl, rfl⟩ := hrel
    have ht1 := tot_le HLEN.out k
    have ht2 : tot (Ls.take k) ≤ 1073741824 := by
      have : k * 1048576 ≤ 1024 * 1048576 := Nat.mul_le_mul_right _ (by omega)
      omega
    clear ht1
    by_cases hlt : k < n
    · have hown := h.own
      obtain ⟨g, rfl, hB, hg⟩ := hown.form (by omega)
      obtain ⟨AK, nK, cK, hK1, hK2⟩ := h.rows.get (k := k) (by rw [marksLL_len, ← hxl.out]; exact hlt)
      rw [marksLL_get (by rw [← hxl.out]; exact hlt)] at hK2
      have hcell := hown.cell hK1
      have hnK := hide (show (Ls.getD k []).length = nK by have := hK2.len; rwa [marks_len] at this)
      rw [hnK.out] at hK2
      have HT := hide (tot_take (Ls := Ls) (k := k) (by rw [← hxl.out]; exact hlt))
      have hnK2 : nK ≤ 1048576 := by rw [← hnK.out]; exact HLEN.out _ (by simp [List.getD, List.getElem?_eq_getElem (show k < Ls.length by rw [← hxl.out]; exact hlt)])
      go_wp2_with fail
      refine (heldIntS_any AK nK cK (1 + (tot (Ls.take k) : Int)) w hK2.ints hnK2 (by omega) (by omega)).mono ?_
      rintro e w2 ⟨rfl, rfl⟩
      go_wp2
      go_round
      case rel => exact ⟨k + 1, by omega, by go_num, by rw [HT.out, hnK.out]; congr 1; omega⟩
      case measure => simp [intOf]; omega
    · obtain rfl : k = n := by omega
      have hfull : Ls.take k = Ls := List.take_of_length_le (by rw [← hxl.out]; exact Nat.le_refl _)
      rw [hfull]
      go_wp2
      go_ret
      exact ⟨rfl, rfl⟩
/-- A row of rows whose blocks lie below hi. -/
structure MOwnR (w : World) (lo hi : Nat) (A : Option Addr) (n c : Nat) (vs : List Value) (Ls : List (List Int)) : Prop where
  m : MOwn w lo A n c vs Ls
  out : ∀ g, A = some ⟨g, 0, none⟩ → lo ≤ g ∧ g < hi
  inn : ∀ u ∈ vs, ∀ g, u.ownBlock = some g → lo ≤ g ∧ g < hi
theorem RowsAt.range {w : World} {B : Nat} : ∀ {vs : List Value} {Ls : List (List Int)}, RowsAt w B vs Ls → ∀ u ∈ vs, ∀ g, u.ownBlock = some g → B ≤ g ∧ g < w.heap.size
  | [], [], _, u, hu, _, _ => by cases hu
  | x :: vs, L :: Ls, h, u, hu, g, hg => by
    rcases List.mem_cons.1 hu with rfl | hu
    · obtain ⟨A, n, c, rfl, ho⟩ := h.1
      rcases ho.where_ with rfl | ⟨g', rfl, h2, h3⟩
      · simp [Value.ownBlock] at hg
      · simp [Value.ownBlock] at hg
        omega
    · exact RowsAt.range h.2 u hu g hg
  | [], _ :: _, h, _, _, _, _ => by cases h
  | _ :: _, [], h, _, _, _, _ => by cases h
theorem MOwnR.of {w : World} {lo n c : Nat} {A : Option Addr} {vs : List Value} {Ls : List (List Int)} (h : MOwn w lo A n c vs Ls) : MOwnR w lo w.heap.size A n c vs Ls :=
  ⟨h, fun g hA => by
    rcases h.own.where_ with h0 | ⟨g', h1, h2, h3, _⟩
    · rw [h0] at hA; cases hA
    · rw [h1] at hA; injection hA with hA; injection hA with hA _; omega, h.rows.range⟩
theorem MOwnR.keep {w w' : World} {lo hi n c : Nat} {A : Option Addr} {vs : List Value} {Ls : List (List Int)} (h : MOwnR w lo hi A n c vs Ls) (hk : ∀ b, lo ≤ b → b < hi → b < w.heap.size → w'.heap[b]? = w.heap[b]?) : MOwnR w' lo hi A n c vs Ls := by
  refine ⟨⟨h.m.own.keep (fun g hg hA => hk g (h.out g hA).1 (h.out g hA).2 hg), ?_⟩, h.out, h.inn⟩
  have hl := h.m.rows.len
  refine RowsAt.of hl (fun k hkl => ?_)
  obtain ⟨AK, nK, cK, hK1, hK2⟩ := h.m.rows.get hkl
  refine ⟨AK, nK, cK, hK1, hK2.keep (fun g hg hA => ?_)⟩
  have := h.inn _ (List.mem_of_getElem? hK1) g (by rw [hA]; rfl)
  exact hk g this.1 this.2 hg
theorem MOwnR.below {w w' : World} {lo hi n c : Nat} {A : Option Addr} {vs : List Value} {Ls : List (List Int)} (h : MOwnR w lo hi A n c vs Ls) {B : Nat} (hb : Below B w w') (hB : w.heap.size ≤ B) : MOwnR w' lo hi A n c vs Ls :=
  h.keep fun b _ _ hl => hb.block b (Nat.lt_of_lt_of_le hl hB)
theorem MOwnR.alloc {w : World} {lo hi n c : Nat} {A : Option Addr} {vs : List Value} {Ls : List (List Int)} (h : MOwnR w lo hi A n c vs Ls) (o : Obj) : MOwnR (w.alloc o) lo hi A n c vs Ls :=
  h.below ((Below.refl _ _).alloc (Nat.le_refl _) o) (Nat.le_refl _)
theorem MOwnR.drew {w : World} {lo hi n c : Nat} {A : Option Addr} {vs : List Value} {Ls : List (List Int)} (h : MOwnR w lo hi A n c vs Ls) : MOwnR w.drew lo hi A n c vs Ls :=
  h.below ((Below.refl w.heap.size w).drew) (Nat.le_refl _)
theorem Below.onlyV {w w1 w2 : World} {B : Nat} {vs : List Value} (h : Below B w w1) (k : OnlyV w1 w2 vs) (hne : ∀ u ∈ vs, ∀ g, u.ownBlock = some g → B ≤ g) (hB : B ≤ w1.heap.size) : Below B w w2 :=
  h.trans ⟨k.os, k.tape, k.output, k.size, fun b hb => k.block b (by omega) (fun u hu hg => by have := hne u hu b hg; omega)⟩
end Go.Proofs.Ytfmibekefllhjaa
