/-
  Walks: a function scaled by -1, supermodular, modular functions.
-/
import Derived.Test.YtokeejachclpeaaSymA
import Derived.Test.YtokeejachclpeaaSubM
import Derived.BigQuiet
namespace Go.Proofs.Ytokeejachclpeaa
open Go.RowKit

set_option maxHeartbeats 2000000 in
theorem makeScale_any (N : Nat) (val : Nat → Int) (p0 p1 : Value) (w : World) (hN : N ≤ 5) (hok : isFn N (valL val (2 ^ N)) = true)
    (hcl : ∀ W, Below w.heap.size w W → ∀ s : Nat, s < 2 ^ N → Calls Try.prog 226 #[.int .i64 (s : Int), p0, p1] W fun e w' => e = .returned (.int .i64 (val s)) ∧ Below W.heap.size W w') :
    Calls Try.prog 225 #[.int .i64 (N : Int), .func (.func 226) #[] #[p0, p1]] w fun e w' => ∃ B r cr, e = .returned (.tuple #[.agg #[.int .i64 (N : Int), .slice B r cr], .bool true]) ∧ Own w' w.heap.size B r cr (valL val (2 ^ N)) ∧ r ≤ 1048576 ∧ Below w.heap.size w w' := by
  have HCL := hide hcl
  have HOK := hide hok
  clear hcl hok
  have h32 : p2 N ≤ 32 := Nat.pow_le_pow_right (n := 2) (by omega) hN
  have hN40 : N ≤ 40 := by omega
  have hB0 : Below w.heap.size w (w.alloc (.cells #[.int .i64 0, .slice none 0 0] 26)) := (Below.refl _ _).alloc (Nat.le_refl _) _
  go_enter Try.func225, Try.ntmps225
  go_wp2
  rw [shl_a N hN40]
  go_loopw [13] (fun i wr => ∃ (k : Nat) (B : Option Addr) (cr : Nat), k ≤ p2 N ∧ i = .int .i64 k ∧ Own wr (w.heap.size + 2) B k cr (valL val k) ∧ Two wr w.heap.size (.int .i64 0) (.slice none 0 0) ∧ Two wr (w.heap.size + 1) (.int .i64 (N : Int)) (.slice B k cr) ∧ Below w.heap.size w wr) (fun i _ => p2 N - (intOf i).toNat)
  case atStart => exact ⟨0, none, 0, Nat.zero_le _, rfl, own_nil _ _, two_start w _ _ _ _, two_start2 w _ _ _ _, hB0.alloc (by simp) _⟩
  clear hB0
  case round =>
    obtain ⟨k, B, cr, hk, rfl, hown, ht0, ht1, hbel⟩ := hrel
    have m0 := ht1.cell1
    have hsz1 := ht1.lt
    by_cases hlt : k < p2 N
    · have HV := hide (valL_snoc val k)
      go_wp2
      go_region_law (first
        | (go_simp; go_at_call 226; refine (HCL.out _ hbel.drew k hlt).mono ?_; rintro e w2 ⟨rfl, hb2⟩; have hown2 : Own w2 _ _ _ _ _ := (show Own wr.drew _ _ _ _ _ from hown).below hb2 (Nat.le_refl _); have ht1b := (show Two wr.drew _ _ _ from ht1).below hb2 hsz1; have ht0b := (show Two wr.drew _ _ _ from ht0).below hb2 (by simp; omega); have m2 := ht1b.cell1; have hsz2 := hb2.size; have hsz3 := ht1b.lt)
        | (refine step_app (by rfl) _ _ (by rfl) (w.heap.size + 2) B k cr w2.heap.size (valL val k) (val k) (by rfl) (by rfl) (hown2.alloc _) (cell_new w2 _) (by omega) (by simp; omega) ?_; intro g cap w3 hown3 hgrow hat hlt3; have hbl3 := app_block hown2 hgrow rfl (show w.heap.size + 1 < w.heap.size + 2 by omega) (by omega); have hbl4 := app_block hown2 hgrow rfl (show w.heap.size < w.heap.size + 2 by omega) (by omega); have u1 := ht1b.same hbl3; have u0 := ht0b.same hbl4; have m3 := u1.cell1; have f3 := u1.frozen))
      all_goals
        go_wp2
        go_roundw
        case rel => exact ⟨k + 1, _, cap, by omega, by go_num, by rw [HV.out]; exact hown3.far (app_ne (b := w.heap.size + 1) hown2 hat (by simp; omega) (by omega)) _, u0.far (by simp) _, u1.set1 _, ((hbel.drew.trans (hb2.mono hbel.size)).trans (below_app hown2 hgrow rfl (by omega) (by omega))).setCell (by simp) _⟩
        case measure => simp [intOf]; omega
    · obtain rfl : k = p2 N := by omega
      have z0 := ht0.frozen
      have z1 := ht0.frozen0
      have z2 := ht1.cell0
      go_wp2_with fail
      refine (isFunction_any (N : Int) B _ cr _ _ hown.ints).mono ?_
      rintro e w2 ⟨rfl, hb2⟩
      rw [show isFn (N : Int) (valL val (p2 N)) = true from HOK.out]
      have v0 := (ht0.below hb2 (by omega)).cell0
      have v1 := (ht0.below hb2 (by omega)).cell1
      have v2 := (ht0.below hb2 (by omega)).frozen0
      have v3 := (ht0.below hb2 (by omega)).frozen
      have x0 := (ht1.below hb2 hsz1).cell0
      have x1 := (ht1.below hb2 hsz1).cell1
      have y := ((ht0.below hb2 (by omega)).set0 (.int .i64 (N : Int))).set1 (.slice B (p2 N) cr)
      have y0 := y.cell0
      have y1 := y.cell1
      go_wp2
      refine bodyPost_ret (v := .tuple #[.agg #[.int .i64 (N : Int), .slice B (p2 N) cr], .bool true]) (by simp [results, Try.results225, go_sem, y0, y1]) rfl ⟨B, p2 N, cr, rfl, ?_, by omega, ?_⟩
      · have o2 := hown.below hb2 (Nat.le_refl _)
        have hl := fun g (hA : B = some ⟨g, 0, none⟩) => row_low hown hA
        exact ((o2.far (fun g hA => by have := hl g hA; simp; omega) _).far (fun g hA => by have := hl g hA; simp; omega) _).less (by omega)
      · exact ((hbel.trans (hb2.mono hbel.size)).setCell (Nat.le_refl _) _).setCell (Nat.le_refl _) _
theorem scaleFn_any (E : Int) (A : Option Addr) (n c : Nat) (v : List Int) (s bk bf : Nat) (w : World) (hv : Ints w A n v) (hf : isFn E v = true) (hs : s < n)
    (f0 : w.cell? ⟨bf, 0, none⟩ = some (.int .i64 E)) (f1 : w.cell? ⟨bf, 1, none⟩ = some (.slice A n c)) (k0 : w.cell? ⟨bk, 0, none⟩ = some (.int .i64 (-1))) :
    Calls Try.prog 226 #[.int .i64 (s : Int), .pointer (some ⟨bk, 0, none⟩), .pointer (some ⟨bf, 0, none⟩)] w fun e w' => e = .returned (.int .i64 (-(gv v s))) ∧ Below w.heap.size w w' := by
  obtain ⟨N, rfl, fo⟩ := FnOk.of hf hv
  have n32 := fo.n32
  obtain ⟨b, off, rfl, hb, hc⟩ := hv.at_ hs
  obtain ⟨q1, q2⟩ := fo.bd hs
  have i1 : (0 : Int) ≤ (s : Int) := by omega
  have i2 : (s : Int) < (n : Int) := by omega
  have hm := hide (show IntKind.i64.wrap (-1 * gv v s) = -(gv v s) from (IntWalk.i64_in _ (by omega)).trans (by omega))
  have hm2 := hide (show IntKind.i64.wrap (-(gv v s)) = -(gv v s) from IntWalk.i64_in _ (by omega))
  go_enter Try.func226, Try.ntmps226
  go_wp2
  go_quiet (fail)
  go_wp2
  go_ret
  refine ⟨ret_int ?_, below_drewN (Below.refl _ _) _⟩
  first
    | exact hm.out
    | exact hm2.out
    | (simp; done)
    | (simp; omega)
    | fail
def negV (v : List Int) (s : Nat) : Int := -(gv v s)
def negE (E : Int) (v : List Int) : Int := if isFn E v then E else 0
def negF (E : Int) (v : List Int) : List Int := if isFn E v then valL (negV v) v.length else []
theorem neg_fn {E : Int} {v : List Int} (h : isFn E v = true) : isFn E (valL (negV v) v.length) = true := by
  obtain ⟨N, rfl, hN, hl, ha⟩ := isFn_true h
  simp only [isFn, Bool.and_eq_true, decide_eq_true_eq] at h ⊢
  refine ⟨h.1, by rw [valL_len]; exact h.2.1, ?_⟩
  unfold allIn valL
  rw [List.all_eq_true]
  intro x hx
  simp only [List.mem_map, List.mem_range] at hx
  obtain ⟨s, hs, rfl⟩ := hx
  have := allIn_gv (v := v) (k := s) (by omega) ha
  unfold negV inR
  simp; omega
def supB (E : Int) (v : List Int) : Bool := isFn E v && subB E (valL (negV v) v.length)
def modB (E : Int) (v : List Int) : Bool := subB E v && supB E v
theorem scale_start (w : World) (a b : Value) (k : Int) : Two (((w.alloc (.cells #[a, b] 26)).alloc (.cells #[.int .i64 k] 3)).alloc (.cells #[.int .i64 0, .slice none 0 0] 26)) (w.heap.size + 2) (.int .i64 0) (.slice none 0 0) := by
  have := heap_alloc_new ((w.alloc (.cells #[a, b] 26)).alloc (.cells #[.int .i64 k] 3)) (.cells #[.int .i64 0, .slice none 0 0] 26)
  simpa [Two] using this
theorem scale_k (w : World) (a b : Value) (k : Int) : (((w.alloc (.cells #[a, b] 26)).alloc (.cells #[.int .i64 k] 3)).alloc (.cells #[.int .i64 0, .slice none 0 0] 26)).cell? ⟨w.heap.size + 1, 0, none⟩ = some (.int .i64 k) := by
  rw [World.cell?_alloc_lt _ _ _ (by simp)]
  have h : (w.alloc (.cells #[a, b] 26)).heap.size = w.heap.size + 1 := by simp
  rw [← h, World.cell?_alloc_at _ _ _ _ rfl]; rfl
set_option maxHeartbeats 1000000 in
theorem scaleNeg_any (E : Int) (A : Option Addr) (n c : Nat) (v : List Int) (w : World) (hv : Ints w A n v) :
    Calls Try.prog 221 #[.agg #[.int .i64 E, .slice A n c], .int .i64 (-1)] w fun e w' => ∃ B r cr, e = .returned (.tuple #[.agg #[.int .i64 (negE E v), .slice B r cr], .bool (isFn E v)]) ∧ Own w' w.heap.size B r cr (negF E v) ∧ r ≤ 1048576 ∧ Below w.heap.size w w' := by
  have hF0 := ((FB.start w E A n c).step ((Below.refl _ _).alloc (Nat.le_refl _) (.cells #[.int .i64 (-1)] 3))).step ((Below.refl _ _).alloc (Nat.le_refl _) (.cells #[.int .i64 0, .slice none 0 0] 26))
  obtain ⟨hbel0, hz0, r0, r1⟩ := hF0.parts
  have ht0 := scale_start w (.int .i64 E) (.slice A n c) (-1)
  have hk0 := scale_k w (.int .i64 E) (.slice A n c) (-1)
  have hcall := isFunction_any E A n c v _ (hv.below hbel0 (Nat.le_refl _))
  cases hf : isFn E v
  · have e0 : negF E v = [] := by simp [negF, hf]
    have e1 : negE E v = 0 := by simp [negE, hf]
    rw [e0, e1]; clear e0 e1
    rw [hf] at hcall
    have HC := hide hcall; clear hcall
    go_enter Try.func221, Try.ntmps221
    go_wp2_with fail
    refine HC.out.mono ?_
    rintro e w1 ⟨rfl, hb1⟩
    have t1 := ht0.below hb1 (by simp)
    have a0 := t1.cell0
    have a1 := t1.cell1
    have a2 := t1.frozen0
    have a3 := t1.frozen
    have y := (t1.set0 (.int .i64 0)).set1 (.slice none 0 0)
    have y0 := y.cell0
    have y1 := y.cell1
    go_wp2
    refine bodyPost_ret (v := .tuple #[.agg #[.int .i64 0, .slice none 0 0], .bool false]) (by simp [results, Try.results221, go_sem, y0, y1]) rfl ⟨none, 0, 0, rfl, own_nil _ _, by omega, ?_⟩
    exact ((hF0.step hb1).1.setCell (by simp; omega) _).setCell (by simp; omega) _
  rw [hf] at hcall
  have HC := hide hcall; clear hcall
  have Hf := hide hf
  have hvl := hv.len
  have hok := neg_fn hf
  have e0 : negF E v = valL (negV v) n := by simp [negF, hf, hvl]
  have e1 : negE E v = E := by simp [negE, hf]
  rw [e0, e1]; clear e0 e1
  obtain ⟨N, rfl, fo⟩ := FnOk.of hf hv
  rw [hvl] at hok
  have eV := hide (fun s => (show negV v s = -(gv v s) from rfl))
  clear hf hvl
  have hnp := hide fo.hn
  have Hok := hide hok
  clear hok
  have hmf : ∀ (fn : Fn) (first cap : Array Value) (w : World), (Instr.makeFunc fn first cap).run Try.prog w = .ok (.func fn first cap) w := fun _ _ _ _ => rfl
  go_enter Try.func221, Try.ntmps221
  go_wp2_with fail
  refine HC.out.mono ?_
  rintro e w1 ⟨rfl, hb1⟩
  have t1 := ht0.below hb1 (by simp)
  have k1 := (hb1.cell (p := ⟨w.heap.size + 1, 0, none⟩) (by simp)).trans hk0
  have hF1 := hF0.step hb1
  clear r0 r1
  obtain ⟨hbel1, hz1, r0, r1⟩ := hF1.parts
  have hin : inR (-1) (-1000) 1000 = true := rfl
  have HM := hide (makeScale_any N (negV v) (.pointer (some ⟨w.heap.size + 1, 0, none⟩)) (.pointer (some ⟨w.heap.size, 0, none⟩)) w1 fo.hN (by rw [← hnp.out]; exact Hok.out) (fun W hW s hs => by
    rw [eV.out]
    have hFW := hF1.step hW
    exact scaleFn_any N A n c v s (w.heap.size + 1) w.heap.size W (hv.below hFW.1 (Nat.le_refl _)) Hf.out (by rw [hnp.out]; exact hs) hFW.2.2.1 hFW.2.2.2 ((hW.cell (p := ⟨w.heap.size + 1, 0, none⟩) (by have := t1.lt; simp; omega)).trans k1)))
  rw [← hnp.out] at HM
  go_wp2_with fail
  refine (within_any _ _ _ _).mono ?_
  rintro e w' ⟨rfl, rfl⟩
  rw [hin]
  go_wp2_with fail
  refine HM.out.mono ?_
  rintro e w2 ⟨B, r, cr, rfl, hown, hr, hb2⟩
  have hsz1 := hb1.size
  have ht1 := t1.lt
  have t2 := t1.below hb2 t1.lt
  have a0 := t2.cell0
  have a1 := t2.cell1
  have a2 := t2.frozen0
  have a3 := t2.frozen
  have y := (t2.set0 (.int .i64 (N : Int))).set1 (.slice B r cr)
  have y0 := y.cell0
  have y1 := y.cell1
  go_wp2
  refine bodyPost_ret (v := .tuple #[.agg #[.int .i64 (N : Int), .slice B r cr], .bool true]) (by simp [results, Try.results221, go_sem, y0, y1]) rfl ⟨B, r, cr, rfl, ?_, hr, ?_⟩
  · have hl := fun g (hA : B = some ⟨g, 0, none⟩) => row_low hown hA
    exact ((hown.far (fun g hA => by have := hl g hA; simp; omega) _).far (fun g hA => by have := hl g hA; simp; omega) _).less (by simp at hsz1; omega)
  · exact ((hF1.step hb2).1.setCell (by simp; omega) _).setCell (by simp; omega) _
set_option maxHeartbeats 1000000 in
theorem isSupermodular_any (E : Int) (A : Option Addr) (n c : Nat) (v : List Int) (w : World) (hv : Ints w A n v) :
    Calls Try.prog 207 #[.agg #[.int .i64 E, .slice A n c]] w fun e w' => e = .returned (.bool (supB E v)) ∧ Below w.heap.size w w' := by
  have hF0 := FB.start w E A n c
  obtain ⟨hbel0, hz0, r0, r1⟩ := hF0.parts
  have hvl := hide hv.len
  cases hf : isFn E v
  · have hno := hide (show supB E v = false by simp [supB, hf])
    have HF := hide hf; clear hf
    go_enter Try.func207, Try.ntmps207
    go_wp2_with fail
    refine (scaleNeg_any E A n c v _ (hv.below hbel0 (Nat.le_refl _))).mono ?_
    rintro e w1 ⟨B, r, cr, rfl, hown, hr, hb1⟩
    rw [HF.out]
    go_wp2
    go_ret
    exact ⟨ret_bool hno.out.symm, (hF0.step hb1).1.alloc (hF0.step hb1).1.size _⟩
  · have HF := hide hf
    have e0 := hide (show negF E v = valL (negV v) v.length by simp [negF, hf])
    have e1 := hide (show negE E v = E by simp [negE, hf])
    have e2 := hide (show supB E v = subB E (valL (negV v) v.length) by simp [supB, hf])
    clear hf
    go_enter Try.func207, Try.ntmps207
    go_wp2_with fail
    refine (scaleNeg_any E A n c v _ (hv.below hbel0 (Nat.le_refl _))).mono ?_
    rintro e w1 ⟨B, r, cr, rfl, hown, hr, hb1⟩
    rw [HF.out, e1.out]
    rw [e0.out] at hown
    have hB1 := (hF0.step hb1).1
    have hT : Two (w1.alloc (.cells #[.int .i64 E, .slice B r cr] 26)) w1.heap.size (.int .i64 E) (.slice B r cr) := heap_alloc_new w1 _
    have t0 := hT.cell0
    have t1 := hT.cell1
    clear r0 r1
    go_wp2_with fail
    refine (isSubmodular_any E B r cr _ _ (hown.alloc _).ints).mono ?_
    rintro e w2 ⟨rfl, hb2⟩
    go_wp2
    go_ret
    exact ⟨ret_bool e2.out.symm, (hB1.alloc hB1.size _).trans (hb2.mono (by have := hB1.size; simp; omega))⟩
theorem isModular_any (E : Int) (A : Option Addr) (n c : Nat) (v : List Int) (w : World) (hv : Ints w A n v) :
    Calls Try.prog 120 #[.agg #[.int .i64 E, .slice A n c]] w fun e w' => e = .returned (.bool (modB E v)) ∧ Below w.heap.size w w' := by
  have hF0 := FB.start w E A n c
  obtain ⟨hbel0, hz0, r0, r1⟩ := hF0.parts
  unfold modB
  go_enter Try.func120, Try.ntmps120
  go_wp2_with fail
  refine (isSubmodular_any E A n c v _ (hv.below hbel0 (Nat.le_refl _))).mono ?_
  rintro e w1 ⟨rfl, hb1⟩
  have hF1 := hF0.step hb1
  clear r0 r1
  obtain ⟨hbel1, hz1, r0, r1⟩ := hF1.parts
  cases hs : subB E v
  · have HS := hide hs
    clear hs
    go_wp2
    go_ret
    exact ⟨ret_bool (by rw [HS.out]; rfl), hbel1⟩
  · have HS := hide hs
    clear hs
    go_wp2_with fail
    refine (isSupermodular_any E A n c v _ (hv.below hbel1 (Nat.le_refl _))).mono ?_
    rintro e w2 ⟨rfl, hb2⟩
    go_wp2
    go_ret
    exact ⟨ret_bool (by rw [HS.out]; rfl), (hF1.step hb2).1⟩
end Go.Proofs.Ytokeejachclpeaa
