/-
  Walks: all corners, each once.
-/
import Derived.Test.YtboggeipdgimdaaOrders
import Derived.Test.YtboggeipdgimdaaCorner
import Derived.Test.YtboggeipdgimdaaSymA
import Derived.Deep.RegionHeld3
namespace Go.Proofs.Ytboggeipdgimdaa
open Go.RowKit

def addNew (out : List (List Int)) (x : List Int) : List (List Int) := if out.any fun y => decide (y = x) then out else out ++ [x]
/-- The corners of the first k orders of a list, each once. -/
def cornsP (N : Nat) (v : List Int) (Ls : List (List Int)) : Nat → List (List Int)
  | 0 => []
  | k + 1 => addNew (cornsP N v Ls k) (cornT N v (Ls.getD k []) N)
def cornersOk (E : Int) (v : List Int) : Bool := grdB E v && decide (E ≤ 4)
def cornersL (E : Int) (v : List Int) : List (List Int) := if cornersOk E v then cornsP E.toNat v (ordsR E.toNat E.toNat []) (ordsR E.toNat E.toNat []).length else []
theorem ords_ok : ∀ N : Fin 5, ∀ L ∈ ordsR N.val N.val [], ordB N.val L = true := by decide +kernel
theorem ords_len : ∀ N : Fin 5, (ordsR N.val N.val []).length ≤ 24 := by decide +kernel
theorem cornsP_len (N : Nat) (v : List Int) (Ls : List (List Int)) : ∀ k, (cornsP N v Ls k).length ≤ k
  | 0 => Nat.le_refl _
  | k + 1 => by
    have := cornsP_len N v Ls k
    unfold cornsP addNew
    split
    · omega
    · rw [List.length_append]; simp; omega
/-- The slices' blocks are apart. -/
def Sep (vs : List Value) : Prop := vs.Pairwise fun u u' => ∀ g, u.ownBlock = some g → u'.ownBlock = some g → False
theorem RowsAt.lt {w : World} {B : Nat} : ∀ {vs : List Value} {Ls : List (List Int)}, RowsAt w B vs Ls → ∀ u ∈ vs, ∀ g, u.ownBlock = some g → g < w.heap.size
  | [], [], _, u, hu, _, _ => by cases hu
  | x :: vs, L :: Ls, h, u, hu, g, hg => by
    rcases List.mem_cons.1 hu with rfl | hu
    · obtain ⟨A, n, c, rfl, ho⟩ := h.1
      rcases ho.where_ with rfl | ⟨g', rfl, _, h3⟩
      · simp [Value.ownBlock] at hg
      · simp [Value.ownBlock] at hg
        omega
    · exact RowsAt.lt h.2 u hu g hg
  | [], _ :: _, h, _, _, _, _ => by cases h
  | _ :: _, [], h, _, _, _, _ => by cases h
theorem Sep.snoc {vs : List Value} {u : Value} (h : Sep vs) (hu : ∀ x ∈ vs, ∀ g, x.ownBlock = some g → u.ownBlock = some g → False) : Sep (vs ++ [u]) := by
  unfold Sep
  rw [List.pairwise_append]
  refine ⟨h, by simp, fun x hx y hy => ?_⟩
  simp at hy
  subst hy
  exact hu x hx
theorem corners_no {E : Int} {v : List Int} (h : grdB E v = false) : cornersOk E v = false ∧ cornersL E v = [] := by simp [cornersL, cornersOk, h]
theorem corners_big {E : Int} {v : List Int} (h : ¬ E ≤ 4) : cornersOk E v = false ∧ cornersL E v = [] := by simp [cornersL, cornersOk, h]
theorem any_take {out : List (List Int)} {k : Nat} {x : List Int} (hk : k < out.length) : (out.take (k + 1)).any (fun y => decide (y = x)) = ((out.take k).any (fun y => decide (y = x)) || decide (out.getD k [] = x)) := by
  have e : out.getD k [] = out[k] := by simp [List.getD, List.getElem?_eq_getElem hk]
  rw [List.take_add_one, List.getElem?_eq_getElem hk, e, List.any_append]
  simp

theorem FB.grownV {w W w1 : World} {E : Int} {A B : Option Addr} {n c r cr : Nat} {vs : List Value} (h : FB w W E A n c) (hown : OwnV W (w.heap.size + 1) B r cr vs) (hg : W.grownBy w1 (B.map (·.block))) : FB w w1 E A n c := by
  have hne : ∀ k, B.map (·.block) = some k → w.heap.size + 1 ≤ k := by
    intro k hk
    rcases hown.where_ with h0 | ⟨g, h1, h2, _⟩
    · rw [h0] at hk; cases hk
    · rw [h1] at hk; simp at hk; omega
  have hb : w1.heap[w.heap.size]? = W.heap[w.heap.size]? := hg.block _ h.2.1 (fun hk => by have := hne _ hk.symm; omega)
  exact ⟨h.1.grown hg h.1.size (fun k hk => by have := hne k hk; omega), Nat.lt_of_lt_of_le h.2.1 hg.size, (World.cell?_of_block (w := W) hb).trans h.2.2.1, (World.cell?_of_block (w := W) hb).trans h.2.2.2⟩
theorem OwnV.grown {w w' : World} {B n c : Nat} {A A2 : Option Addr} {vs : List Value} (h : OwnV w B A n c vs) (hg : w.grownBy w' (A2.map (·.block))) (hne : ∀ x y, A = some x → A2 = some y → x.block ≠ y.block) : OwnV w' B A n c vs :=
  h.keep fun g hlt hA => hg.block g hlt (fun hk => by
    cases A2 with
    | none => cases hk
    | some y => simp at hk; exact hne _ y hA rfl hk)
theorem ordB_len {N : Nat} {o : List Int} (h : ordB N o = true) : o.length = N := by simp only [ordB, Bool.and_eq_true, decide_eq_true_eq] at h; omega
theorem cornsP_elem (N : Nat) (v : List Int) (Ls : List (List Int)) : ∀ k, ∀ L ∈ cornsP N v Ls k, ∃ o, L = cornT N v o N
  | 0, L, h => by simp [cornsP] at h
  | k + 1, L, h => by
    unfold cornsP addNew at h
    split at h
    · exact cornsP_elem N v Ls k L h
    · rcases List.mem_append.1 h with h | h
      · exact cornsP_elem N v Ls k L h
      · exact ⟨_, by simpa using h⟩
theorem cornersL_le (E : Int) (v : List Int) : (cornersL E v).length ≤ 24 := by
  unfold cornersL
  split
  · rename_i h
    simp only [cornersOk, grdB, isFn, Bool.and_eq_true, decide_eq_true_eq] at h
    have h1 := inR_true h.1.1.1
    have h2 := ords_len ⟨E.toNat, by omega⟩
    exact Nat.le_trans (cornsP_len _ _ _ _) h2
  · simp
theorem cornT_length (N : Nat) (v x : List Int) : ∀ k, (cornT N v x k).length = N
  | 0 => by simp [cornT]
  | k + 1 => by unfold cornT; rw [List.length_set]; exact cornT_length N v x k
theorem cornersL_len (E : Int) (v : List Int) : ∀ L ∈ cornersL E v, L.length ≤ 1048576 := by
  intro L hL
  unfold cornersL at hL
  split at hL
  · rename_i h
    simp only [cornersOk, grdB, isFn, Bool.and_eq_true, decide_eq_true_eq] at h
    have h1 := inR_true h.1.1.1
    obtain ⟨o, rfl⟩ := cornsP_elem _ _ _ _ L hL
    rw [cornT_length]; omega
  · simp at hL
set_option maxHeartbeats 8000000 in
theorem specCornersOf_any (E : Int) (A : Option Addr) (n c : Nat) (v : List Int) (w : World) (hv : Ints w A n v) :
    Calls Try.prog 44 #[.agg #[.int .i64 E, .slice A n c]] w fun e w' => ∃ B r cr vs, e = .returned (.tuple #[.slice B r cr, .bool (cornersOk E v)]) ∧ OwnV w' w.heap.size B r cr vs ∧ RowsAt w' w.heap.size vs (cornersL E v) ∧ Sep vs ∧ r ≤ 1048576 ∧ Below w.heap.size w w' := by
  have hF0 := FB.start w E A n c
  have hF1 := hF0.step ((Below.refl _ _).alloc (Nat.le_refl _) (.cells #[] 22))
  have hO := ownV_none (w.alloc (.cells #[.int .i64 E, .slice A n c] 26)) (B := w.heap.size + 1) (by simp)
  have z1 : (w.alloc (.cells #[.int .i64 E, .slice A n c] 26)).heap.size = w.heap.size + 1 := by simp
  rw [z1] at hO
  obtain ⟨hbel1, hz1, r0, r1⟩ := hF1.parts
  clear z1 hF0
  go_enter Try.func44, Try.ntmps44
  go_wp2_with fail
  refine (specIsGrounded_any E A n c v _ (hv.below hbel1 (Nat.le_refl _))).mono ?_
  rintro e w1 ⟨rfl, hb1⟩
  have hF2 := hF1.step hb1
  have hO1 := hO.below hb1 (Nat.le_refl _)
  clear hF1 hO r0 r1 hbel1 hz1 hb1
  obtain ⟨hbel2, hz2, r0, r1⟩ := hF2.parts
  cases hg : grdB E v
  · have hno := hide (corners_no hg)
    clear hg
    go_wp2
    go_ret2
    exact ⟨_, 0, 0, [], by rw [hno.out.1]; rfl, hO1.less (by omega), by rw [hno.out.2]; trivial, List.Pairwise.nil, by omega, hbel2⟩
  have HG := hide hg
  have hfn : isFn E v = true := by simp only [grdB, Bool.and_eq_true] at hg; exact hg.1
  clear hg
  obtain ⟨N, rfl, fo⟩ := FnOk.of hfn hv
  have HF := hide hfn
  clear hfn
  by_cases h4 : (N : Int) ≤ 4
  case neg =>
    have hno := hide (corners_big (v := v) h4)
    go_wp2
    go_ret2
    exact ⟨_, 0, 0, [], by rw [hno.out.1]; rfl, hO1.less (by omega), by rw [hno.out.2]; trivial, List.Pairwise.nil, by omega, hbel2⟩
  have hN4 : N ≤ 4 := by omega
  have e1 : cornersOk N v = true := by simp [cornersOk, HG.out, h4]
  have HL := hide (show cornersL N v = cornsP N v (ordsR N N []) (ordsR N N []).length by unfold cornersL; rw [e1]; simp)
  have HE1 := hide e1
  clear e1
  have hp0 := own_zero w1 (Nat.le_refl w1.heap.size)
  go_wp2_with fail
  refine (l8Orders_any N hN4 N 0 _ 0 [] w1.heap.size _ (by omega) hp0 (by simp)).mono ?_
  rintro e w2 ⟨B, r, cr, vs, rfl, hoV, hrows, hb2⟩
  have hb12 : Below w1.heap.size w1 w2 := ((Below.refl _ _).alloc (Nat.le_refl _) _).trans (hb2.mono (by simp))
  have hF3 := hF2.step hb12
  have hO2 := hO1.below hb12 (Nat.le_refl _)
  have hO1w := hO1.where_
  have hsz12 := hb12.size
  clear hF2 hO1 r0 r1 hbel2 hz2 hp0
  have hOK := hide (ords_ok ⟨N, by omega⟩)
  have hlen24 := ords_len ⟨N, by omega⟩
  simp only at hlen24
  obtain ⟨Ls, hLs⟩ : ∃ Ls, Ls = ordsR N N [] := ⟨_, rfl⟩
  rw [← hLs] at hrows HL hlen24
  simp only [← hLs] at hOK
  have hrl : r = Ls.length := by have := hoV.len; have := hrows.len; omega
  have HRL := hide hrl
  have hr24 : r ≤ 24 := by omega
  have hoV2 := hoV.less (B' := w1.heap.size) (by simp)
  clear hrl hlen24 hLs hb2 hoV
  have hszw1 : w.heap.size + 1 < w1.heap.size := by
    rcases hO1w with h0 | ⟨g, h1, _, h2, _⟩
    · cases h0
    · injection h1 with h1; injection h1 with h1 _; omega
  have hdis : ∀ x y, B = some x → (some ⟨w.heap.size + 1, 0, none⟩ : Option Addr) = some y → x.block ≠ y.block := by
    intro x y hx hy
    injection hy with hy
    rcases hoV2.where_ with h0 | ⟨g, h1, h2, _⟩
    · rw [h0] at hx; cases hx
    · rw [h1] at hx
      injection hx with hx
      rw [← hx, ← hy]
      simp only; omega
  have HV := hide (fun W (h : Below w.heap.size w W) => hv.below h (Nat.le_refl _))
  go_wp2
  go_loopw [4, 6] (fun l t wr => ∃ (k : Nat) (B2 : Option Addr) (r2 c2 : Nat) (us : List Value), k ≤ r ∧ t = .int .i64 k ∧ l = .slice B2 r2 c2 ∧ OwnV wr (w.heap.size + 1) B2 r2 c2 us ∧ RowsAt wr w.heap.size us (cornsP N v Ls k) ∧ Sep us ∧ (∀ x y, B = some x → B2 = some y → x.block ≠ y.block) ∧ OwnV wr w1.heap.size B r cr vs ∧ RowsAt wr w1.heap.size vs Ls ∧ FB w wr N A n c) (fun _ t _ => r - (intOf t).toNat)
  case atStart => exact ⟨0, _, 0, 0, [], Nat.zero_le _, rfl, rfl, hO2, trivial, List.Pairwise.nil, hdis, hoV2, hrows, hF3⟩
  clear hO2 hoV2 hrows hF3
  case round =>
    obtain ⟨k, B2, r2, c2, us, hk, rfl, rfl, hoU, hrowU, hsep, hdis, hoV, hrows, hF⟩ := hrel
    obtain ⟨wo, rfl⟩ : ∃ wo : World, wo = wr := ⟨_, rfl⟩
    have HD := hide hdis; clear hdis
    obtain ⟨hbel, hz, r0, r1⟩ := hF.parts
    have hszw := hbel.size
    have hul : r2 = (cornsP N v Ls k).length := by have := hoU.len; have := hrowU.len; omega
    have HUL := hide hul
    have hr2 : r2 ≤ 24 := by have := cornsP_len N v Ls k; omega
    clear hul
    by_cases hkr : k < r
    · obtain ⟨g, rfl, hg1, hg2⟩ := hoV.form (by omega)
      obtain ⟨AL, nL, cL, hL1, hL2⟩ := hrows.get (k := k) (by rw [← HRL.out]; exact hkr)
      have hcell := hoV.cell hL1
      have HOB := hide (hOK.out _ (getD_mem (by rw [← HRL.out]; exact hkr)))
      have hnL : nL = N := by rw [← hL2.len]; exact ordB_len HOB.out
      have HST := hide (show cornsP N v Ls (k + 1) = addNew (cornsP N v Ls k) (cornT N v (Ls.getD k []) N) from rfl)
      obtain ⟨L, hLe⟩ : ∃ L, L = Ls.getD k [] := ⟨_, rfl⟩
      rw [← hLe] at HOB hL2 HST
      clear hL1 hLe
      subst hnL
      have hvr := HV.out _ hbel
      have i0 : (0 : Int) ≤ (k : Int) := by omega
      have i1 : (k : Int) < (r : Int) := by omega
      go_wp2
      go_region_held3 (fun w' => w'.cell? ⟨w.heap.size, 0, none⟩ = some (.int .i64 (nL : Int)) ∧ w'.cell? ⟨w.heap.size, 1, none⟩ = some (.slice A n c) ∧ w'.cell? ⟨g, k, none⟩ = some (.slice AL nL cL))
        (first
          | go_keep
          | exact ⟨(hb4.cell (p := ⟨w.heap.size, 0, none⟩) hz).trans r0, (hb4.cell (p := ⟨w.heap.size, 1, none⟩) hz).trans r1, (hb4.cell (p := ⟨g, k, none⟩) hg2).trans hcell⟩)
        (first
          | (go_at_call 81; refine (l8Corner_any nL A n c v AL nL cL L _ hvr.drew hL2.ints.drew HF.out HOB.out).mono ?_; rintro e w4 ⟨B4, r4, c4, rfl, ho4, hr4, hb4⟩))
      have hb4' : Below wo.heap.size wo w4 := ((Below.refl wo.heap.size wo).drew).trans hb4
      have hsz4 := hb4'.size
      obtain ⟨X, hX⟩ : ∃ X, X = cornT nL v L nL := ⟨_, rfl⟩
      rw [← hX] at ho4 HST
      clear hX r0 r1 hcell hb4
      have hrowU4 := hrowU.kept (.below hb4')
      have hoU4 := hoU.below hb4' (Nat.le_refl _)
      go_wp2
      go_loopw [8, 9] (fun u t w5 => ∃ (i : Nat), i ≤ r2 ∧ t = .int .i64 i ∧ u = .bool (!((cornsP nL v Ls k).take i).any (fun y => decide (y = X))) ∧ Below w4.heap.size w4 w5) (fun _ t _ => r2 - (intOf t).toNat)
      case atStart => exact ⟨0, Nat.zero_le _, rfl, rfl, Below.refl _ _⟩
      case round =>
        obtain ⟨i, hi, rfl, rfl, hb5⟩ := hrel
        by_cases hir : i < r2
        · have hst := hide (any_take (out := cornsP nL v Ls k) (k := i) (x := X) (by rw [← HUL.out]; exact hir))
          cases hq : ((cornsP nL v Ls k).take i).any (fun y => decide (y = X))
          · rw [hq] at hst
            have hoU5 := hoU4.below hb5 (Nat.le_refl _)
            have hrowU5 := hrowU4.kept (.below hb5)
            obtain ⟨gU, rfl, hgU1, hgU2⟩ := hoU5.form (by omega)
            obtain ⟨AK, nK, cK, hK1, hK2⟩ := hrowU5.get (k := i) (by rw [← HUL.out]; exact hir)
            have hcellK := hoU5.cell hK1
            have hX5 := (ho4.below hb5 (Nat.le_refl _)).ints
            have hszb := hb5.size
            go_wp2_with fail
            refine (l2Same_any _ _ _ _ _ _ _ _ _ hK2.ints hX5).mono ?_
            rintro e w6 ⟨rfl, hb6⟩
            have hqe : (!(((cornsP nL v Ls k).take (i + 1)).any fun y => decide (y = X))) = decide (¬ (cornsP nL v Ls k).getD i [] = X) := by rw [hst.out]; simp
            go_wp2
            go_roundw
            case rel => exact ⟨i + 1, by omega, by go_num, by rw [hqe]; simp, hb5.trans (hb6.mono hszb)⟩
            case measure => simp [intOf]; omega
          · rw [hq] at hst
            go_wp2
            go_roundw
            case rel => exact ⟨i + 1, by omega, by go_num, by rw [hst.out]; rfl, hb5⟩
            case measure => simp [intOf]; omega
        · obtain rfl : i = r2 := by omega
          have htk : (cornsP nL v Ls k).take i = cornsP nL v Ls k := List.take_of_length_le (by rw [← HUL.out]; exact Nat.le_refl _)
          rw [htk]
          have hszb := hb5.size
          cases hq : (cornsP nL v Ls k).any (fun y => decide (y = X))
          · have hst := hide (show cornsP nL v Ls (k + 1) = cornsP nL v Ls k ++ [X] by rw [HST.out, addNew, hq]; rfl)
            have hoU5 := hoU4.below hb5 (Nat.le_refl _)
            have hrowU5 := hrowU4.kept (.below hb5)
            have hoU5a := hoU5.alloc (.cells #[.slice B4 r4 c4] 22)
            have hone := ownV_one wr (Nat.le_refl wr.heap.size) (.slice B4 r4 c4)
            go_wp2_with (refine wpl_appvs (by rfl) (.tmp 53) (.tmp 55) (by rfl) (w.heap.size + 1) B2 i c2 us _ 1 1 wr.heap.size _ (by rfl) (by rfl) hoU5a hone (by simp) (by omega) (by omega) (by simp; omega) ?_; intro A6 c6 w6 ho6 hgrow6 hat6)
            have hb45 : Below wo.heap.size wo wr := hb4'.trans (hb5.mono hsz4)
            have hF5 := (hF.step hb45).step ((Below.refl _ _).alloc (Nat.le_refl _) (.cells #[.slice B4 r4 c4] 22))
            have hF6 := hF5.grownV hoU5a hgrow6
            have hk56 : KeptI wr w6 := ((KeptI.refl wr).alloc _).trans (.grown hoU5a hgrow6)
            have hk46 : KeptI w4 w6 := (KeptI.below hb5).trans hk56
            have hoV6 := ((hoV.below hb45 (Nat.le_refl _)).alloc (.cells #[.slice B4 r4 c4] 22)).grown hgrow6 HD.out
            have hsz45 := hb45.size
            have hdis6 : ∀ x y, (some ⟨g, 0, none⟩ : Option Addr) = some x → A6 = some y → x.block ≠ y.block := by
              intro x y hx hy
              rcases hat6 with h0 | h0
              · exact HD.out x y hx (by rw [← h0]; exact hy)
              · rw [h0] at hy
                injection hx with hx; injection hy with hy
                rw [← hx, ← hy]
                simp; omega
            have hsep6 : Sep (us ++ [.slice B4 r4 c4]) := hsep.snoc (fun x hx q hq hq2 => by
              have h1 := hrowU.lt x hx q hq
              rcases ho4.where_ with h2 | ⟨g2, h2, h3, _⟩
              · rw [h2] at hq2; simp [Value.ownBlock] at hq2
              · rw [h2] at hq2
                simp [Value.ownBlock] at hq2
                have h3' : wo.heap.size ≤ g2 := h3
                omega)
            go_roundw
            case rel => exact ⟨k + 1, A6, i + 1, c6, _, by omega, by go_num, rfl, ho6, by rw [hst.out]; exact RowsAt.append (.one ⟨_, _, _, rfl, (ho4.keptI hk46).less (Nat.le_trans hF.1.size (Nat.le_refl _))⟩) (hrowU4.kept hk46), hsep6, hdis6, hoV6, hrows.kept ((KeptI.below hb4').trans hk46), hF6⟩
            case measure => simp [intOf]; omega
          · have hst := hide (show cornsP nL v Ls (k + 1) = cornsP nL v Ls k by rw [HST.out, addNew, hq]; rfl)
            have hb45 : Below wo.heap.size wo wr := hb4'.trans (hb5.mono hsz4)
            go_wp2
            go_roundw
            case rel => exact ⟨k + 1, B2, i, c2, us, by omega, by go_num, rfl, hoU.below hb45 (Nat.le_refl _), by rw [hst.out]; exact hrowU.kept (.below hb45), hsep, HD.out, hoV.below hb45 (Nat.le_refl _), hrows.kept (.below hb45), hF.step hb45⟩
            case measure => simp [intOf]; omega
    · obtain rfl : k = r := by omega
      have hl2 := hide (show cornsP N v Ls k = cornersL N v by rw [HL.out, HRL.out])
      go_wp2
      go_ret2
      exact ⟨B2, r2, c2, us, by rw [HE1.out]; rfl, hoU.less (by omega), by rw [← hl2.out]; exact hrowU, hsep, by omega, hbel⟩
theorem cornFn_any (A : Option Addr) (n c : Nat) (L : List Int) (AX : Option Addr) (nX cX : Nat) (X : List Int) (bx : Nat) (w : World) (hL : Ints w A n L) (hX : Ints w AX nX X) (hb : w.cell? ⟨bx, 0, none⟩ = some (.slice AX nX cX)) :
    Calls Try.prog 87 #[.slice A n c, .pointer (some ⟨bx, 0, none⟩)] w fun r w' => r = .returned (.bool (decide (L = X))) ∧ Below w.heap.size w w' := by
  go_enter Try.func87, Try.ntmps87
  go_wp2_with fail
  refine (slicesEqual_any _ _ _ _ _ _ _ _ _ hL hX).mono ?_
  rintro r w1 ⟨rfl, hb1⟩
  go_wp2
  go_ret
  exact ⟨rfl, hb1⟩
theorem indexCorn_any (A : Option Addr) (n c B B2 : Nat) (vs : List Value) (Ls : List (List Int)) (AX : Option Addr) (nX cX : Nat) (X : List Int) (bx : Nat) (w : World) (hV : OwnV w B A n c vs) (hrows : RowsAt w B2 vs Ls) (hX : Ints w AX nX X) (hb : w.cell? ⟨bx, 0, none⟩ = some (.slice AX nX cX)) :
    Calls Try.prog 111 #[.slice A n c, .func (.func 87) #[] #[.pointer (some ⟨bx, 0, none⟩)]] w fun r w' => ∃ t : Int, r = .returned (.int .i64 t) ∧ decide (0 ≤ t) = Ls.any (fun y => decide (y = X)) ∧ Below w.heap.size w w' := by
  have hle := hV.le
  have hnl : n = Ls.length := by have := hV.len; have := hrows.len; omega
  have HNL := hide hnl
  have hbs := World.block_lt_of_cell? _ _ hb
  clear hnl
  go_enter Try.func111, Try.ntmps111
  go_wp2
  go_loopw [8] (fun i wr => ∃ k : Nat, k ≤ n ∧ i = .int .i64 k ∧ (Ls.take k).any (fun y => decide (y = X)) = false ∧ Below w.heap.size w wr) (fun i _ => n - (intOf i).toNat)
  case atStart => exact ⟨0, Nat.zero_le _, rfl, rfl, Below.refl _ _⟩
  case round =>
    obtain ⟨k, hk, rfl, hno, hbel⟩ := hrel
    have HNO := hide hno; clear hno
    by_cases hlt : k < n
    · have hst := hide (any_take (out := Ls) (k := k) (x := X) (by rw [← HNL.out]; exact hlt))
      have hV1 := hV.below hbel (Nat.le_refl _)
      have hR1 := hrows.kept (.below hbel)
      have hX1 := hX.below hbel (Nat.le_refl _)
      have hb1 := (hbel.cell (p := ⟨bx, 0, none⟩) hbs).trans hb
      obtain ⟨g, rfl, hg1, hg2⟩ := hV1.form (by omega)
      obtain ⟨AK, nK, cK, hK1, hK2⟩ := hR1.get (k := k) (by rw [← HNL.out]; exact hlt)
      have hcellK := hV1.cell hK1
      have hszb := hbel.size
      have hF := hide (cornFn_any AK nK cK (Ls.getD k []) AX nX cX X bx wr hK2.ints hX1 hb1)
      clear hb1 hK1
      cases hq : decide (Ls.getD k [] = X)
      · rw [hq, HNO.out] at hst
        have HQ := hide hq; clear hq
        go_wp2_with fail
        refine hF.out.mono ?_
        rintro r w2 ⟨rfl, hb2⟩
        rw [HQ.out]
        go_wp2
        go_roundw
        case rel => exact ⟨k + 1, by omega, by go_num, by rw [hst.out]; rfl, hbel.trans (hb2.mono hszb)⟩
        case measure => simp [intOf]; omega
      · rw [hq] at hst
        have HQ := hide hq; clear hq
        have hyes := hide (show Ls.any (fun y => decide (y = X)) = true by
          rw [List.any_eq_true]
          exact ⟨_, getD_mem (by rw [← HNL.out]; exact hlt), HQ.out⟩)
        go_wp2_with fail
        refine hF.out.mono ?_
        rintro r w2 ⟨rfl, hb2⟩
        rw [HQ.out]
        go_wp2
        go_ret
        exact ⟨(k : Int), rfl, by rw [hyes.out]; simp, hbel.trans (hb2.mono hszb)⟩
    · obtain rfl : k = n := by omega
      have ht := hide (show Ls.any (fun y => decide (y = X)) = false by rw [← HNO.out, HNL.out, List.take_length])
      go_wp2
      go_ret
      exact ⟨-1, rfl, by rw [ht.out]; rfl, hbel⟩
theorem containsCorn_any (A : Option Addr) (n c B B2 : Nat) (vs : List Value) (Ls : List (List Int)) (AX : Option Addr) (nX cX : Nat) (X : List Int) (bx : Nat) (w : World) (hV : OwnV w B A n c vs) (hrows : RowsAt w B2 vs Ls) (hX : Ints w AX nX X) (hb : w.cell? ⟨bx, 0, none⟩ = some (.slice AX nX cX)) :
    Calls Try.prog 86 #[.slice A n c, .func (.func 87) #[] #[.pointer (some ⟨bx, 0, none⟩)]] w fun r w' => r = .returned (.bool (Ls.any (fun y => decide (y = X)))) ∧ Below w.heap.size w w' := by
  go_enter Try.func86, Try.ntmps86
  go_wp2_with fail
  refine (indexCorn_any A n c B B2 vs Ls AX nX cX X bx w hV hrows hX hb).mono ?_
  rintro r w1 ⟨t, rfl, ht, hb1⟩
  have HT := hide ht; clear ht
  go_wp2
  go_ret
  exact ⟨ret_bool (by rw [← HT.out]), hb1⟩
set_option maxHeartbeats 8000000 in
theorem cornersOf_any (E : Int) (A : Option Addr) (n c : Nat) (v : List Int) (w : World) (hv : Ints w A n v) :
    Calls Try.prog 45 #[.agg #[.int .i64 E, .slice A n c]] w fun e w' => ∃ B r cr vs, e = .returned (.tuple #[.slice B r cr, .bool (cornersOk E v)]) ∧ OwnV w' w.heap.size B r cr vs ∧ RowsAt w' w.heap.size vs (cornersL E v) ∧ Sep vs ∧ r ≤ 1048576 ∧ Below w.heap.size w w' := by
  have hF1 := FB.start w E A n c
  obtain ⟨hbel1, hz1, r0, r1⟩ := hF1.parts
  go_enter Try.func45, Try.ntmps45
  go_wp2_with fail
  refine (isGrounded_any E A n c v _ (hv.below hbel1 (Nat.le_refl _))).mono ?_
  rintro e w1 ⟨rfl, hb1⟩
  have hF2 := hF1.step hb1
  clear hF1 r0 r1 hbel1 hz1 hb1
  obtain ⟨hbel2, hz2, r0, r1⟩ := hF2.parts
  cases hg : grdB E v
  · have hno := hide (corners_no hg)
    clear hg
    go_wp2
    go_ret2
    exact ⟨none, 0, 0, [], by rw [hno.out.1]; rfl, ownV_nil _ _, by rw [hno.out.2]; trivial, List.Pairwise.nil, by omega, hbel2⟩
  have HG := hide hg
  have hfn : isFn E v = true := by simp only [grdB, Bool.and_eq_true] at hg; exact hg.1
  clear hg
  obtain ⟨N, rfl, fo⟩ := FnOk.of hfn hv
  have HF := hide hfn
  clear hfn
  by_cases h4 : (N : Int) ≤ 4
  case neg =>
    have hno := hide (corners_big (v := v) h4)
    go_wp2
    go_ret2
    exact ⟨none, 0, 0, [], by rw [hno.out.1]; rfl, ownV_nil _ _, by rw [hno.out.2]; trivial, List.Pairwise.nil, by omega, hbel2⟩
  have hN4 : N ≤ 4 := by omega
  have e1 : cornersOk N v = true := by simp [cornersOk, HG.out, h4]
  have HL := hide (show cornersL N v = cornsP N v (ordsR N N []) (ordsR N N []).length by unfold cornersL; rw [e1]; simp)
  have HE1 := hide e1
  clear e1
  go_wp2_with fail
  refine (ordersOf_any N _ hN4).mono ?_
  rintro e w2 ⟨B, r, cr, vs, rfl, hoV, hrows, hb12⟩
  have hF3 := hF2.step hb12
  have hsz12 := hb12.size
  clear hF2 r0 r1 hbel2
  have hsm := ords_same ⟨N, by omega⟩
  have hOK := hide (ords_ok ⟨N, by omega⟩)
  have hlen24 := ords_len ⟨N, by omega⟩
  simp only at hlen24 hsm
  rw [hsm] at hrows
  obtain ⟨Ls, hLs⟩ : ∃ Ls, Ls = ordsR N N [] := ⟨_, rfl⟩
  rw [← hLs] at hrows HL hlen24
  simp only [← hLs] at hOK
  have hrl : r = Ls.length := by have := hoV.len; have := hrows.len; omega
  have HRL := hide hrl
  have hr24 : r ≤ 24 := by omega
  clear hrl hlen24 hLs hb12 hsm
  have hO2 : OwnV w2 (w.heap.size + 1) none 0 0 [] := ownV_nil _ _
  have hdis : ∀ x y, B = some x → (none : Option Addr) = some y → x.block ≠ y.block := by
    intro x y _ hy
    cases hy
  have HV := hide (fun W (h : Below w.heap.size w W) => hv.below h (Nat.le_refl _))
  go_wp2
  go_loopw [4, 21] (fun l t wr => ∃ (k : Nat) (B2 : Option Addr) (r2 c2 : Nat) (us : List Value), k ≤ r ∧ t = .int .i64 k ∧ l = .slice B2 r2 c2 ∧ OwnV wr (w.heap.size + 1) B2 r2 c2 us ∧ RowsAt wr w.heap.size us (cornsP N v Ls k) ∧ Sep us ∧ (∀ x y, B = some x → B2 = some y → x.block ≠ y.block) ∧ OwnV wr w1.heap.size B r cr vs ∧ RowsAt wr w1.heap.size vs Ls ∧ FB w wr N A n c) (fun _ t _ => r - (intOf t).toNat)
  case atStart => exact ⟨0, none, 0, 0, [], Nat.zero_le _, rfl, rfl, hO2, trivial, List.Pairwise.nil, hdis, hoV, hrows, hF3⟩
  clear hO2 hoV hrows hF3
  case round =>
    obtain ⟨k, B2, r2, c2, us, hk, rfl, rfl, hoU, hrowU, hsep, hdis, hoV, hrows, hF⟩ := hrel
    obtain ⟨wo, rfl⟩ : ∃ wo : World, wo = wr := ⟨_, rfl⟩
    have HD := hide hdis; clear hdis
    obtain ⟨hbel, hz, r0, r1⟩ := hF.parts
    have hszw := hbel.size
    have hul : r2 = (cornsP N v Ls k).length := by have := hoU.len; have := hrowU.len; omega
    have HUL := hide hul
    have hr2 : r2 ≤ 24 := by have := cornsP_len N v Ls k; omega
    clear hul
    by_cases hkr : k < r
    · obtain ⟨g, rfl, hg1, hg2⟩ := hoV.form (by omega)
      obtain ⟨AL, nL, cL, hL1, hL2⟩ := hrows.get (k := k) (by rw [← HRL.out]; exact hkr)
      have hcell := hoV.cell hL1
      have HOB := hide (hOK.out _ (getD_mem (by rw [← HRL.out]; exact hkr)))
      have hnL : nL = N := by rw [← hL2.len]; exact ordB_len HOB.out
      have HST := hide (show cornsP N v Ls (k + 1) = addNew (cornsP N v Ls k) (cornT N v (Ls.getD k []) N) from rfl)
      obtain ⟨L, hLe⟩ : ∃ L, L = Ls.getD k [] := ⟨_, rfl⟩
      rw [← hLe] at HOB hL2 HST
      clear hL1 hLe
      subst hnL
      have hvr := HV.out _ hbel
      go_wp2_with fail
      refine (corner_any nL A n c v AL nL cL L _ hvr hL2.ints HF.out HOB.out).mono ?_
      rintro e w4 ⟨B4, r4, c4, rfl, ho4, hr4, hb4⟩
      have hsz4 := hb4.size
      obtain ⟨X, hX⟩ : ∃ X, X = cornT nL v L nL := ⟨_, rfl⟩
      rw [← hX] at ho4 HST
      clear hX r0 r1 hcell
      have hrowU4 := hrowU.kept (.below hb4)
      have hoU4 := hoU.below hb4 (Nat.le_refl _)
      have hb4a : Below wo.heap.size wo (w4.alloc (.cells #[.slice B4 r4 c4] 22)) := hb4.alloc hsz4 _
      have hbox : (w4.alloc (.cells #[.slice B4 r4 c4] 22)).cell? ⟨w4.heap.size, 0, none⟩ = some (.slice B4 r4 c4) := by rw [World.cell?_alloc_at _ _ _ _ rfl]; rfl
      have hC := hide (containsCorn_any B2 r2 c2 _ _ us _ B4 r4 c4 X w4.heap.size _ (hoU4.alloc (.cells #[.slice B4 r4 c4] 22)) (hrowU4.kept ((KeptI.refl w4).alloc (.cells #[.slice B4 r4 c4] 22))) (ho4.alloc (.cells #[.slice B4 r4 c4] 22)).ints hbox)
      go_wp2_with fail
      refine hC.out.mono ?_
      rintro e w5 ⟨rfl, hb5⟩
      have hbox5 := (hb5.cell (p := ⟨w4.heap.size, 0, none⟩) (by simp)).trans hbox
      have hb45 : Below wo.heap.size wo w5 := hb4a.trans (hb5.mono hb4a.size)
      have hk45 : KeptI w4 w5 := ((KeptI.refl w4).alloc _).trans (.below hb5)
      have hsz45 := hb45.size
      clear hbox hC hb5
      cases hq : (cornsP nL v Ls k).any (fun y => decide (y = X))
      · have hst := hide (show cornsP nL v Ls (k + 1) = cornsP nL v Ls k ++ [X] by rw [HST.out, addNew, hq]; rfl)
        clear hq
        have hoU5 := hoU.below hb45 (Nat.le_refl _)
        have hoU5a := hoU5.alloc (.cells #[.slice B4 r4 c4] 22)
        have hone := ownV_one w5 (Nat.le_refl w5.heap.size) (.slice B4 r4 c4)
        go_wp2_with (refine wpl_appvs (by rfl) (.tmp 33) (.tmp 35) (by rfl) (w.heap.size + 1) B2 r2 c2 us _ 1 1 w5.heap.size _ (by rfl) (by rfl) hoU5a hone (by simp) (by omega) (by omega) (by have := hF.2.1; simp; omega) ?_; intro A6 c6 w6 ho6 hgrow6 hat6)
        have hF5 := (hF.step hb45).step ((Below.refl _ _).alloc (Nat.le_refl _) (.cells #[.slice B4 r4 c4] 22))
        have hF6 := hF5.grownV hoU5a hgrow6
        have hk56 : KeptI w5 w6 := ((KeptI.refl w5).alloc _).trans (.grown hoU5a hgrow6)
        have hk46 : KeptI w4 w6 := hk45.trans hk56
        have hoV6 := ((hoV.below hb45 (Nat.le_refl _)).alloc (.cells #[.slice B4 r4 c4] 22)).grown hgrow6 HD.out
        have hdis6 : ∀ x y, (some ⟨g, 0, none⟩ : Option Addr) = some x → A6 = some y → x.block ≠ y.block := by
          intro x y hx hy
          rcases hat6 with h0 | h0
          · exact HD.out x y hx (by rw [← h0]; exact hy)
          · rw [h0] at hy
            injection hx with hx; injection hy with hy
            rw [← hx, ← hy]
            simp; omega
        have hsep6 : Sep (us ++ [.slice B4 r4 c4]) := hsep.snoc (fun x hx q hq hq2 => by
          have h1 := hrowU.lt x hx q hq
          rcases ho4.where_ with h2 | ⟨g2, h2, h3, _⟩
          · rw [h2] at hq2; simp [Value.ownBlock] at hq2
          · rw [h2] at hq2
            simp [Value.ownBlock] at hq2
            omega)
        go_roundw
        case rel => exact ⟨k + 1, A6, r2 + 1, c6, _, by omega, by go_num, rfl, ho6, by rw [hst.out]; exact RowsAt.append (.one ⟨_, _, _, rfl, (ho4.keptI hk46).less (Nat.le_trans hF.1.size (Nat.le_refl _))⟩) (hrowU4.kept hk46), hsep6, hdis6, hoV6, hrows.kept ((KeptI.below hb4).trans hk46), hF6⟩
        case measure => simp [intOf]; omega
      · have hst := hide (show cornsP nL v Ls (k + 1) = cornsP nL v Ls k by rw [HST.out, addNew, hq]; rfl)
        clear hq
        go_wp2
        go_roundw
        case rel => exact ⟨k + 1, B2, r2, c2, us, by omega, by go_num, rfl, hoU.below hb45 (Nat.le_refl _), by rw [hst.out]; exact hrowU.kept (.below hb45), hsep, HD.out, hoV.below hb45 (Nat.le_refl _), hrows.kept (.below hb45), hF.step hb45⟩
        case measure => simp [intOf]; omega
    · obtain rfl : k = r := by omega
      have hl2 := hide (show cornsP N v Ls k = cornersL N v by rw [HL.out, HRL.out])
      go_wp2
      go_ret2
      exact ⟨B2, r2, c2, us, by rw [HE1.out]; rfl, hoU.less (by omega), by rw [← hl2.out]; exact hrowU, hsep, by omega, hbel⟩
end Go.Proofs.Ytboggeipdgimdaa
