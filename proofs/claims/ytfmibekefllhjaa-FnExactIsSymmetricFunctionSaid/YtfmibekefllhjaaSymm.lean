/-
  Walks: opposite functions, symmetric functions.
-/
import Derived.Test.YtfmibekefllhjaaSymA
namespace Go.Proofs.Ytfmibekefllhjaa
open Go.RowKit

set_option maxHeartbeats 1000000 in
theorem oppFn_any (E : Int) (A : Option Addr) (n c : Nat) (v : List Int) (s bf : Nat) (w : World) (hv : Ints w A n v) (hf : isFn E v = true) (hs : s < n)
    (f0 : w.cell? ⟨bf, 0, none⟩ = some (.int .i64 E)) (f1 : w.cell? ⟨bf, 1, none⟩ = some (.slice A n c)) :
    Calls Try.prog 64 #[.int .i64 (s : Int), .pointer (some ⟨bf, 0, none⟩)] w fun e w' => e = .returned (.int .i64 (gv v (n - 1 - s))) ∧ Below w.heap.size w w' := by
  obtain ⟨N, rfl, fo⟩ := FnOk.of hf hv
  have hd := fo.diff hs
  have n32 := fo.n32
  have hN := fo.hN
  obtain ⟨b, off, rfl, hb, hc⟩ := hv.all_ fo.n0
  have x0 := hc (n - 1 - s) (by omega)
  clear hc
  have HA := hide (fun W => (fn_full fo) ▸ allOf_any N (some ⟨b, off, none⟩) n c W (by omega))
  have d10 : n - 1 < 1024 := by omega
  have s10 : s < 1024 := by omega
  have i1 : (0 : Int) ≤ ((n - 1 - s : Nat) : Int) := by omega
  have i2 : ((n - 1 - s : Nat) : Int) < (n : Int) := by omega
  generalize hr : n - 1 - s = r at *
  generalize hq : n - 1 = d at *
  have Hq := hide hq
  have Hr := hide hr
  clear hq hr hf
  have q0 := wc_cell f0
  have q1 := wc_cell f1
  have q2 := wc_cell x0
  go_enter Try.func64, Try.ntmps64
  go_wp2
  refine region_below (by kernel_rfl) (by kernel_rfl) ?_
  repeat (go_big_quiet_step ((go_at_call 48; refine wc_call (HA.out _))))
  refine wpQuiet_nil ?_
  intro _ hw'
  obtain ⟨p, rfl⟩ := hw'
  go_wp2
  go_ret
  exact ⟨rfl, p.below⟩
def oppE (E : Int) (v : List Int) : Int := if isFn E v then E else 0
def oppV (v : List Int) (s : Nat) : Int := gv v (v.length - 1 - s)
def oppL (E : Int) (v : List Int) : List Int := if isFn E v then valL (oppV v) v.length else []
theorem opp_fn {E : Int} {v : List Int} (h : isFn E v = true) : isFn E (valL (oppV v) v.length) = true := by
  obtain ⟨N, rfl, hN, hl, ha⟩ := isFn_true h
  simp only [isFn, Bool.and_eq_true, decide_eq_true_eq] at h ⊢
  refine ⟨h.1, by rw [valL_len]; exact h.2.1, ?_⟩
  unfold allIn valL
  rw [List.all_eq_true]
  intro x hx
  simp only [List.mem_map, List.mem_range] at hx
  obtain ⟨s, hs, rfl⟩ := hx
  have := allIn_gv (v := v) (k := v.length - 1 - s) (by omega) ha
  exact decide_eq_true this
def symB (E : Int) (v : List Int) : Bool := isFn E v && decide (v = oppL E v)
set_option maxHeartbeats 1000000 in
theorem oppositeFunction_any (E : Int) (A : Option Addr) (n c : Nat) (v : List Int) (w : World) (hv : Ints w A n v) :
    Calls Try.prog 39 #[.agg #[.int .i64 E, .slice A n c]] w fun e w' => ∃ B r cr, e = .returned (.tuple #[.agg #[.int .i64 (oppE E v), .slice B r cr], .bool (isFn E v)]) ∧ Own w' w.heap.size B r cr (oppL E v) ∧ r ≤ 1048576 ∧ Below w.heap.size w w' := by
  have hF0 := (FB.start w E A n c).step ((Below.refl _ _).alloc (Nat.le_refl _) (.cells #[.int .i64 0, .slice none 0 0] 27))
  obtain ⟨hbel0, hz0, r0, r1⟩ := hF0.parts
  have ht0 := two_start2 w (.int .i64 E) (.slice A n c) (.int .i64 0) (.slice none 0 0)
  have hcall := isFunction_any E A n c v _ (hv.below hbel0 (Nat.le_refl _))
  cases hf : isFn E v
  · have e0 : oppL E v = [] := by simp [oppL, hf]
    have e1 : oppE E v = 0 := by simp [oppE, hf]
    rw [e0, e1]; clear e0 e1
    rw [hf] at hcall
    have HC := hide hcall; clear hcall
    go_enter Try.func39, Try.ntmps39
    go_wp2_with fail
    refine HC.out.mono ?_
    rintro e w1 ⟨rfl, hb1⟩
    have t1 := ht0.below hb1 (by simp)
    have a0 := t1.cell0
    have a1 := t1.cell1
    have a2 := t1.frozen0
    have a3 := t1.frozen
    have y := (t1.set0 (.int .i64 0)).set1 (.slice none 0 0)
    have y0 := y.cell0
    have y1 := y.cell1
    go_wp2
    refine bodyPost_ret (v := .tuple #[.agg #[.int .i64 0, .slice none 0 0], .bool false]) (by simp [results, Try.results39, go_sem, y0, y1]) rfl ⟨none, 0, 0, rfl, own_nil _ _, by omega, ?_⟩
    exact ((hF0.step hb1).1.setCell (by simp) _).setCell (by simp) _
  rw [hf] at hcall
  have HC := hide hcall; clear hcall
  have Hf := hide hf
  have hvl := hv.len
  have hok := opp_fn hf
  have e0 : oppL E v = valL (oppV v) n := by simp [oppL, hf, hvl]
  have e1 : oppE E v = E := by simp [oppE, hf]
  rw [e0, e1]; clear e0 e1
  obtain ⟨N, rfl, fo⟩ := FnOk.of hf hv
  rw [hvl] at hok
  have eV := hide (fun s => (show oppV v s = gv v (n - 1 - s) by simp [oppV, hvl]))
  clear hf hvl
  have hnp := hide fo.hn
  have Hok := hide hok
  clear hok
  have hmf : ∀ (fn : Fn) (first cap : Array Value) (w : World), (Instr.makeFunc fn first cap).run Try.prog w = .ok (.func fn first cap) w := fun _ _ _ _ => rfl
  go_enter Try.func39, Try.ntmps39
  go_wp2_with fail
  refine HC.out.mono ?_
  rintro e w1 ⟨rfl, hb1⟩
  have t1 := ht0.below hb1 (by simp)
  have hF1 := hF0.step hb1
  clear r0 r1
  obtain ⟨hbel1, hz1, r0, r1⟩ := hF1.parts
  have HM := hide (makeOpp_any N (oppV v) (.pointer (some ⟨w.heap.size, 0, none⟩)) w1 fo.hN (by rw [← hnp.out]; exact Hok.out) (fun W hW s hs => by
    rw [eV.out]
    have hFW := hF1.step hW
    exact oppFn_any N A n c v s w.heap.size W (hv.below hFW.1 (Nat.le_refl _)) Hf.out (by rw [hnp.out]; exact hs) hFW.2.2.1 hFW.2.2.2))
  rw [← hnp.out] at HM
  go_wp2_with fail
  refine HM.out.mono ?_
  rintro e w2 ⟨B, r, cr, rfl, hown, hr, hb2⟩
  have hsz1 := hb1.size
  have ht1 := t1.lt
  have t2 := t1.below hb2 t1.lt
  have a0 := t2.cell0
  have a1 := t2.cell1
  have a2 := t2.frozen0
  have a3 := t2.frozen
  have y := (t2.set0 (.int .i64 (N : Int))).set1 (.slice B r cr)
  have y0 := y.cell0
  have y1 := y.cell1
  go_wp2
  refine bodyPost_ret (v := .tuple #[.agg #[.int .i64 (N : Int), .slice B r cr], .bool true]) (by simp [results, Try.results39, go_sem, y0, y1]) rfl ⟨B, r, cr, rfl, ?_, hr, ?_⟩
  · have hl := fun g (hA : B = some ⟨g, 0, none⟩) => row_low hown hA
    exact ((hown.far (fun g hA => by have := hl g hA; simp; omega) _).far (fun g hA => by have := hl g hA; simp; omega) _).less (by simp at hsz1; omega)
  · exact ((hF1.step hb2).1.setCell (by simp) _).setCell (by simp) _
set_option maxHeartbeats 1000000 in
theorem specOppositeFunction_any (E : Int) (A : Option Addr) (n c : Nat) (v : List Int) (w : World) (hv : Ints w A n v) :
    Calls Try.prog 36 #[.agg #[.int .i64 E, .slice A n c]] w fun e w' => ∃ B r cr, e = .returned (.tuple #[.agg #[.int .i64 (oppE E v), .slice B r cr], .bool (isFn E v)]) ∧ Own w' w.heap.size B r cr (oppL E v) ∧ r ≤ 1048576 ∧ Below w.heap.size w w' := by
  have hF0 := (FB.start w E A n c).step ((Below.refl _ _).alloc (Nat.le_refl _) (.cells #[.int .i64 0, .slice none 0 0] 27))
  obtain ⟨hbel0, hz0, r0, r1⟩ := hF0.parts
  have ht0 := two_start2 w (.int .i64 E) (.slice A n c) (.int .i64 0) (.slice none 0 0)
  have hcall := specIsFunction_any E A n c v _ (hv.below hbel0 (Nat.le_refl _))
  cases hf : isFn E v
  · have e0 : oppL E v = [] := by simp [oppL, hf]
    have e1 : oppE E v = 0 := by simp [oppE, hf]
    rw [e0, e1]; clear e0 e1
    rw [hf] at hcall
    have HC := hide hcall; clear hcall
    go_enter Try.func36, Try.ntmps36
    go_wp2_with fail
    refine HC.out.mono ?_
    rintro e w1 ⟨rfl, hb1⟩
    have t1 := ht0.below hb1 (by simp)
    have a0 := t1.cell0
    have a1 := t1.cell1
    have a2 := t1.frozen0
    have a3 := t1.frozen
    have y := (t1.set0 (.int .i64 0)).set1 (.slice none 0 0)
    have y0 := y.cell0
    have y1 := y.cell1
    go_wp2
    refine bodyPost_ret (v := .tuple #[.agg #[.int .i64 0, .slice none 0 0], .bool false]) (by simp [results, Try.results36, go_sem, y0, y1]) rfl ⟨none, 0, 0, rfl, own_nil _ _, by omega, ?_⟩
    exact ((hF0.step hb1).1.setCell (by simp) _).setCell (by simp) _
  rw [hf] at hcall
  have HC := hide hcall; clear hcall
  have hvl := hv.len
  have e0 : oppL E v = valL (oppV v) n := by simp [oppL, hf, hvl]
  have e1 : oppE E v = E := by simp [oppE, hf]
  rw [e0, e1]; clear e0 e1
  obtain ⟨N, rfl, fo⟩ := FnOk.of hf hv
  have eV := hide (fun s => (show oppV v s = gv v (n - 1 - s) by simp [oppV, hvl]))
  clear hf hvl
  obtain ⟨b, off, rfl, hb, hc⟩ := hv.all_ fo.n0
  have HCC := hide hc; clear hc
  have n32 := fo.n32
  have n0 := fo.n0
  go_enter Try.func36, Try.ntmps36
  go_wp2_with fail
  refine HC.out.mono ?_
  rintro e w1 ⟨rfl, hb1⟩
  have hsz1 := hb1.size
  have t1 := ht0.below hb1 (by simp)
  have hF1 := hF0.step hb1
  clear r0 r1
  obtain ⟨hbel1, hz1, r0, r1⟩ := hF1.parts
  have hB1 := (Below.refl w1.heap.size w1).alloc (Nat.le_refl _) (.cells #[] 3)
  have tz1 := t1.lt
  have o1 : Own (w1.alloc (.cells #[] 3)) (w.heap.size + 2) (some ⟨w1.heap.size, 0, none⟩) 0 0 [] := (own_none w1).less (by simp at hsz1; omega)
  have t2 := t1.below hB1 t1.lt
  have hF2 := hF1.step hB1
  clear r0 r1
  go_wp2
  go_loopw [4, 5] (fun l i wr => ∃ (k : Nat) (B : Option Addr) (cr : Nat), k ≤ n ∧ i = .int .i64 k ∧ l = .slice B k cr ∧ Own wr (w.heap.size + 2) B k cr (valL (oppV v) k) ∧ Two wr (w.heap.size + 1) (.int .i64 0) (.slice none 0 0) ∧ FB w wr N (some ⟨b, off, none⟩) n c) (fun _ i _ => n - (intOf i).toNat)
  case atStart => exact ⟨0, _, 0, Nat.zero_le _, rfl, rfl, o1, t2, hF2⟩
  clear o1 t2 hF2 hB1 t1
  case round =>
    obtain ⟨k, B, cr, hk, rfl, rfl, hown, tr, hFBr⟩ := hrel
    obtain ⟨hbelr, hzr, r0, r1⟩ := hFBr.parts
    by_cases hlt : k < n
    · have hs := hide (valL_snoc (oppV v) k)
      have c1 : wr.cell? ⟨b, off + (n - 1 - k), none⟩ = some (.int .i64 (oppV v k)) := by rw [eV.out]; exact (hbelr.cell (p := ⟨b, off + (n - 1 - k), none⟩) hb).trans (HCC.out _ (by omega))
      have i1 : (0 : Int) ≤ ((n - 1 - k : Nat) : Int) := by omega
      have i2 : ((n - 1 - k : Nat) : Int) < (n : Int) := by omega
      have t0 : IntKind.i64.wrap ((n : Int) - 1) = (n : Int) - 1 := IntWalk.i64_in _ (by omega)
      have t1' : (n : Int) - 1 - (k : Int) = ((n - 1 - k : Nat) : Int) := by omega
      have htz := tr.lt
      generalize n - 1 - k = r at *
      go_wp2_with (refine wpl_app (by rfl) _ _ (by rfl) (w.heap.size + 2) B k cr wr.heap.size (valL (oppV v) k) (oppV v k) (by rfl) (by rfl) (hown.alloc _) (cell_new wr _) (by omega) (by simp; omega) ?_; intro g cap w3 hown3 hgrow hat hlt3)
      go_roundw
      case rel => exact ⟨k + 1, _, cap, by omega, by go_num, rfl, by rw [hs.out]; exact hown3, tr.same (app_block hown hgrow rfl (by omega) htz), app_FB hFBr (hown.less (by omega)) hgrow (Below.refl _ _) rfl⟩
      case measure => simp [intOf]; omega
    · obtain rfl : k = n := by omega
      have a0 := tr.cell0
      have a1 := tr.cell1
      have a2 := tr.frozen0
      have a3 := tr.frozen
      have y := (tr.set0 (.int .i64 (N : Int))).set1 (.slice B k cr)
      have y0 := y.cell0
      have y1 := y.cell1
      go_wp2
      refine bodyPost_ret (v := .tuple #[.agg #[.int .i64 (N : Int), .slice B k cr], .bool true]) (by simp [results, Try.results36, go_sem, y0, y1]) rfl ⟨B, k, cr, rfl, ?_, by omega, ?_⟩
      · have hl := fun g (hA : B = some ⟨g, 0, none⟩) => row_low hown hA
        exact ((hown.far (fun g hA => by have := hl g hA; simp; omega) _).far (fun g hA => by have := hl g hA; simp; omega) _).less (by omega)
      · exact (hbelr.setCell (by simp) _).setCell (by simp) _
theorem equalFunctions_any (E E' : Int) (A A' : Option Addr) (n n' c c' : Nat) (xs ys : List Int) (w : World) (hx : Ints w A n xs) (hy : Ints w A' n' ys) :
    Calls Try.prog 40 #[.agg #[.int .i64 E, .slice A n c], .agg #[.int .i64 E', .slice A' n' c']] w fun e w' => e = .returned (.bool (decide (E = E') && decide (xs = ys))) ∧ Below w.heap.size w w' := by
  by_cases hE : E = E'
  · subst hE
    go_enter Try.func40, Try.ntmps40
    go_wp2_with fail
    refine (slicesEqual_any A A' n n' c c' xs ys _ ((hx.alloc _).alloc _) ((hy.alloc _).alloc _)).mono ?_
    rintro e w1 ⟨rfl, hbel⟩
    have hb : Below w.heap.size w w1 := (((Below.refl w.heap.size w).alloc (Nat.le_refl _) _).alloc (by simp) _).trans (hbel.mono (by simp; omega))
    go_wp2
    all_goals go_ret
    all_goals exact ⟨ret_bool (by simp_all), hb⟩
  · have e1 : (E == E') = false := by simp [hE]
    go_enter Try.func40, Try.ntmps40
    go_wp2
    go_ret
    exact ⟨ret_bool (by simp [hE]), ((Below.refl w.heap.size w).alloc (Nat.le_refl _) _).alloc (by simp) _⟩
set_option maxHeartbeats 400000 in
theorem isSymmetricFunction_any (E : Int) (A : Option Addr) (n c : Nat) (v : List Int) (w : World) (hv : Ints w A n v) :
    Calls Try.prog 13 #[.agg #[.int .i64 E, .slice A n c]] w fun e w' => e = .returned (.bool (symB E v)) ∧ Below w.heap.size w w' := by
  have hF0 := FB.start w E A n c
  obtain ⟨hbel0, hz0, r0, r1⟩ := hF0.parts
  have hcall := oppositeFunction_any E A n c v _ (hv.below hbel0 (Nat.le_refl _))
  cases hf : isFn E v
  · have e0 : symB E v = false := by simp [symB, hf]
    rw [e0]; clear e0
    rw [hf] at hcall
    have HC := hide hcall; clear hcall
    go_enter Try.func13, Try.ntmps13
    go_wp2_with fail
    refine HC.out.mono ?_
    rintro e w1 ⟨B, r, cr, rfl, hown, hr, hb1⟩
    go_wp2
    go_ret
    exact ⟨rfl, ((hF0.step hb1).step ((Below.refl _ _).alloc (Nat.le_refl _) _)).1⟩
  · have e0 : symB E v = decide (v = oppL E v) := by simp [symB, hf]
    have e1 : oppE E v = E := by simp [oppE, hf]
    rw [e0]; clear e0
    rw [hf, e1] at hcall
    have HC := hide hcall; clear hcall hf e1
    generalize oppL E v = L at *
    go_enter Try.func13, Try.ntmps13
    go_wp2_with fail
    refine HC.out.mono ?_
    rintro e w1 ⟨B, r, cr, rfl, hown, hr, hb1⟩
    have hF1 := hF0.step hb1
    have hF2 := hF1.step ((Below.refl w1.heap.size w1).alloc (Nat.le_refl _) (.cells #[.int .i64 E, .slice B r cr] 27))
    clear r0 r1
    obtain ⟨hbel2, hz2, r0, r1⟩ := hF2.parts
    have HE := hide (equalFunctions_any E E A B n r c cr v L _ (hv.below hbel2 (Nat.le_refl _)) (hown.alloc _).ints)
    go_wp2_with fail
    refine HE.out.mono ?_
    rintro e w2 ⟨rfl, hb2⟩
    go_wp2
    go_ret
    exact ⟨ret_bool (by simp), (hF2.step hb2).1⟩
set_option maxHeartbeats 400000 in
theorem specIsSymmetricFunction_any (E : Int) (A : Option Addr) (n c : Nat) (v : List Int) (w : World) (hv : Ints w A n v) :
    Calls Try.prog 11 #[.agg #[.int .i64 E, .slice A n c]] w fun e w' => e = .returned (.bool (symB E v)) ∧ Below w.heap.size w w' := by
  have hF0 := FB.start w E A n c
  obtain ⟨hbel0, hz0, r0, r1⟩ := hF0.parts
  have hcall := specOppositeFunction_any E A n c v _ (hv.below hbel0 (Nat.le_refl _))
  cases hf : isFn E v
  · have e0 : symB E v = false := by simp [symB, hf]
    rw [e0]; clear e0
    rw [hf] at hcall
    have HC := hide hcall; clear hcall
    go_enter Try.func11, Try.ntmps11
    go_wp2_with fail
    refine HC.out.mono ?_
    rintro e w1 ⟨B, r, cr, rfl, hown, hr, hb1⟩
    go_wp2
    go_ret
    exact ⟨rfl, ((hF0.step hb1).step ((Below.refl _ _).alloc (Nat.le_refl _) _)).1⟩
  · have e0 : symB E v = decide (v = oppL E v) := by simp [symB, hf]
    have e1 : oppE E v = E := by simp [oppE, hf]
    rw [e0]; clear e0
    rw [hf, e1] at hcall
    have HC := hide hcall; clear hcall hf e1
    generalize oppL E v = L at *
    go_enter Try.func11, Try.ntmps11
    go_wp2_with fail
    refine HC.out.mono ?_
    rintro e w1 ⟨B, r, cr, rfl, hown, hr, hb1⟩
    have hF1 := hF0.step hb1
    have hF2 := hF1.step ((Below.refl w1.heap.size w1).alloc (Nat.le_refl _) (.cells #[.int .i64 E, .slice B r cr] 27))
    clear r0 r1
    obtain ⟨hbel2, hz2, r0, r1⟩ := hF2.parts
    have HE := hide (l2Same_any A B n r c cr v L _ (hv.below hbel2 (Nat.le_refl _)) (hown.alloc _).ints)
    go_wp2_with fail
    refine HE.out.mono ?_
    rintro e w2 ⟨rfl, hb2⟩
    go_wp2
    go_ret
    exact ⟨ret_bool (by simp), (hF2.step hb2).1⟩
end Go.Proofs.Ytfmibekefllhjaa
