/-
  Walks: vectors raised; dual vectors.
-/
import Derived.Test.YtboggeipdgimdaaApp
import Derived.Test.YtboggeipdgimdaaSub
import Derived.Test.YtboggeipdgimdaaCap2
namespace Go.Proofs.Ytboggeipdgimdaa
open Go.RowKit

theorem mn_comm (a b : Int) : mn a b = mn b a := by unfold mn; split <;> split <;> omega
theorem gv_set {L : List Int} {e j : Nat} {u : Int} (hj : j < L.length) : gv (L.set e u) j = if e = j then u else gv L j := by
  rw [gv_get (by simpa using hj), List.getElem_set, gv_get hj]
def raiseT (E : Int) (v mo x : List Int) : Nat → List Int
  | 0 => x
  | e + 1 => if gv (raiseT E v mo x e) e < gv mo e then (raiseT E v mo x e).set e (mn (gv (raiseT E v mo x e) e + capV E v (raiseT E v mo x e) (e : Int)) (gv mo e)) else raiseT E v mo x e
theorem raiseT_len (E : Int) (v mo x : List Int) : ∀ e, (raiseT E v mo x e).length = x.length
  | 0 => rfl
  | e + 1 => by
    have ih := raiseT_len E v mo x e
    unfold raiseT; split <;> simp [ih]
theorem capV_bd {E : Int} {v : List Int} (x : List Int) (e : Int) (hf : isFn E v = true) : 0 ≤ capV E v x e ∧ capV E v x e ≤ 26000 := by
  unfold capV
  split
  · rename_i h
    simp only [capOk, Bool.and_eq_true] at h
    obtain ⟨b1, b2, b3, b4, b5⟩ := below_ok h.1
    obtain ⟨N, rfl, hN, hl, ha⟩ := isFn_true hf
    have fo : FnOk N v.length v := ⟨hN, hl, rfl, ha⟩
    cases hm : minW (slk v x) (fun s => hasB s e.toNat) v.length with
    | none => simp
    | some m =>
      have := minW_bd (c := slk v x) (p := fun s => hasB s e.toNat) (a := 0) (b := 26000) (n := v.length) (fun j hj => ⟨b5 j hj, (slk_bd fo b4 hj).2⟩) v.length (Nat.le_refl _) m hm
      simpa using this
  · omega
theorem raiseT_bd {E : Int} {v mo x : List Int} (hf : isFn E v = true) (hx : allIn x (-5000) 5000 = true) (hm : allIn mo (-5000) 5000 = true) (hl : x.length = mo.length) : ∀ e, e ≤ x.length → ∀ j, j < x.length → -5000 ≤ gv (raiseT E v mo x e) j ∧ gv (raiseT E v mo x e) j ≤ 5000
  | 0, _, j, hj => allIn_gv hj hx
  | e + 1, he, j, hj => by
    have ih := raiseT_bd hf hx hm hl e (by omega)
    have h1 := ih j hj
    have h2 := ih e (by omega)
    have h3 := allIn_gv (v := mo) (k := e) (by omega) hm
    have h4 := capV_bd (raiseT E v mo x e) (e : Int) hf
    unfold raiseT
    split
    · rw [gv_set (by rw [raiseT_len]; exact hj)]
      split
      · unfold mn; split <;> omega
      · exact h1
    · exact h1
def raiseOk (E : Int) (v x mo : List Int) : Bool := subB E v && (belowB E v x && longOk E mo)
def raiseL (E : Int) (v x mo : List Int) : List Int := if raiseOk E v x mo then raiseT E v mo x x.length else []
set_option maxHeartbeats 400000 in
theorem clone_any (A : Option Addr) (m c : Nat) (x : List Int) (w : World) (hx : Ints w A m x) (hm : m ≤ 1048576) :
    Calls Try.prog 94 #[.slice A m c] w fun e w' => ∃ B cr, e = .returned (.slice B m cr) ∧ Own w' w.heap.size B m cr x ∧ Below w.heap.size w w' := by
  have q22 : ∀ (w : World) (a : Option Addr) (n c n' c' : Nat), (binOp .eql 22 (.slice a n c) (.slice none n' c')).run Try.prog w = .ok (.bool a.isNone) w := fun w a n c n' c' => Lib.run_eql_slice_nil w _ _ a n c n' c' Try.underlying22
  cases A with
  | none =>
    have h0 : m = 0 := by
      by_cases h : 0 < m
      · obtain ⟨b, off, e, _⟩ := hx.all_ h; cases e
      · omega
    subst h0
    have e : x = [] := List.length_eq_zero_iff.1 hx.len
    subst e
    go_enter Try.func94, Try.ntmps94
    go_wp2
    go_ret
    exact ⟨none, 0, rfl, own_nil _ _, Below.refl _ _⟩
  | some a =>
    have hB1 := (Below.refl w.heap.size w).alloc (Nat.le_refl _) (.cells #[] 3)
    have hO := own_zero w (Nat.le_refl w.heap.size)
    have hI := hx.alloc (.cells #[] 3)
    go_enter Try.func94, Try.ntmps94
    go_wp2_with (refine wpl_apps (by rfl) _ _ (by rfl) w.heap.size _ 0 0 [] (some a) m c x (by rfl) (by rfl) hO hI (by omega) hm (by simp) ?_; intro A' c' w2 hown2 hgrow hat)
    go_ret
    rw [Nat.zero_add] at hown2
    exact ⟨A', c', by simp, hown2, hB1.grown hgrow (by simp) (fun k hk => by simp at hk; omega)⟩
theorem fb_set' {w wr : World} {E : Int} {A : Option Addr} {n c : Nat} (h : FB w wr E A n c) {p : Addr} (hp : w.heap.size < p.block) (u : Value) : FB w (wr.setCell p u) E A n c := by
  have hb := (Below.refl (w.heap.size + 1) wr).setCell (p := p) hp u
  obtain ⟨h1, h2, h3, h4⟩ := h
  refine ⟨h1.setCell (Nat.le_of_lt hp) u, Nat.lt_of_lt_of_le h2 hb.size, ?_, ?_⟩
  · exact (hb.cell (p := ⟨w.heap.size, 0, none⟩) (Nat.lt_succ_self _)).trans h3
  · exact (hb.cell (p := ⟨w.heap.size, 1, none⟩) (Nat.lt_succ_self _)).trans h4
set_option maxHeartbeats 4000000 in
theorem raiseVector_any (E : Int) (A : Option Addr) (n c : Nat) (v : List Int) (A' : Option Addr) (m c' : Nat) (x : List Int) (A2 : Option Addr) (m2 c2 : Nat) (mo : List Int) (w : World) (hv : Ints w A n v) (hx : Ints w A' m x) (hmo : Ints w A2 m2 mo) :
    Calls Try.prog 50 #[.agg #[.int .i64 E, .slice A n c], .slice A' m c', .slice A2 m2 c2] w fun e w' => ∃ B r cr, e = .returned (.tuple #[.slice B r cr, .bool (raiseOk E v x mo)]) ∧ Own w' w.heap.size B r cr (raiseL E v x mo) ∧ r ≤ 1048576 ∧ Below w.heap.size w w' := by
  have hF0 := FB.start w E A n c
  obtain ⟨hbel0, hz0, r0, r1⟩ := hF0.parts
  have hcall := isSubmodular_any E A n c v _ (hv.below hbel0 (Nat.le_refl _))
  have HB := hide (fun W (h : Below w.heap.size w W) => isBelow_any E A n c v A' m c' x W (hv.below h (Nat.le_refl _)) (hx.below h (Nat.le_refl _)))
  cases hs : subB E v
  · have e0 : raiseOk E v x mo = false := by simp [raiseOk, hs]
    have e1 : raiseL E v x mo = [] := by simp [raiseL, e0]
    rw [e0, e1]; clear e0 e1
    rw [hs] at hcall
    have HC := hide hcall; clear hcall
    go_enter Try.func50, Try.ntmps50
    go_wp2_with fail
    refine HC.out.mono ?_
    rintro e w1 ⟨rfl, hb1⟩
    have hF1 := hF0.step hb1
    go_wp2
    go_ret2
    exact ⟨none, 0, 0, rfl, own_nil _ _, by omega, hF1.1⟩
  rw [hs] at hcall
  have HC := hide hcall; clear hcall
  cases hb : belowB E v x
  · have e0 : raiseOk E v x mo = false := by simp [raiseOk, hb]
    have e1 : raiseL E v x mo = [] := by simp [raiseL, e0]
    rw [e0, e1]; clear e0 e1
    rw [hb] at HB
    clear hb hs
    go_enter Try.func50, Try.ntmps50
    go_wp2_with fail
    refine HC.out.mono ?_
    rintro e w1 ⟨rfl, hb1⟩
    have hF1 := hF0.step hb1
    clear r0 r1
    obtain ⟨hbel1, hz1, r0, r1⟩ := hF1.parts
    go_wp2_with fail
    refine (HB.out _ hbel1).mono ?_
    rintro e w2 ⟨rfl, hb2⟩
    have hF2 := hF1.step hb2
    go_wp2
    go_ret2
    exact ⟨none, 0, 0, rfl, own_nil _ _, by omega, hF2.1⟩
  rw [hb] at HB
  obtain ⟨hf, bg0, blen, bvec, _⟩ := below_ok hb
  have hxl := hx.len
  have hml := hmo.len
  obtain ⟨N, rfl, fo⟩ := FnOk.of hf hv
  have hN := fo.hN
  have hmN : m = N := by omega
  have HL := hide (fun W (h : Below w.heap.size w W) => isLongVector_any N A A2 n c m2 c2 mo W (hmo.below h (Nat.le_refl _)))
  cases hl : longOk N mo
  · have e0 : raiseOk N v x mo = false := by simp [raiseOk, hl]
    have e1 : raiseL N v x mo = [] := by simp [raiseL, e0]
    rw [e0, e1]; clear e0 e1
    rw [hl] at HL
    clear hb hs hl hmN hxl hml bg0 blen bvec hf
    go_enter Try.func50, Try.ntmps50
    go_wp2_with fail
    refine HC.out.mono ?_
    rintro e w1 ⟨rfl, hb1⟩
    have hF1 := hF0.step hb1
    clear r0 r1
    obtain ⟨hbel1, hz1, r0, r1⟩ := hF1.parts
    go_wp2_with fail
    refine (HB.out _ hbel1).mono ?_
    rintro e w2 ⟨rfl, hb2⟩
    have hF2 := hF1.step hb2
    clear r0 r1
    obtain ⟨hbel2, hz2, r0, r1⟩ := hF2.parts
    go_wp2_with fail
    refine (HL.out _ hbel2).mono ?_
    rintro e w3 ⟨rfl, hb3⟩
    have hF3 := hF2.step hb3
    go_wp2
    go_ret2
    exact ⟨none, 0, 0, rfl, own_nil _ _, by omega, hF3.1⟩
  rw [hl] at HL
  have e0 : raiseOk N v x mo = true := by simp [raiseOk, hs, hb, hl]
  have e1 : raiseL N v x mo = raiseT N v mo x m := by simp [raiseL, e0, hxl]
  rw [e0, e1]; clear e0 e1
  have hmo2 : mo.length = m := by simp [longOk] at hl; omega
  have HBD := hide (fun e (he : e ≤ m) j (hj : j < m) => raiseT_bd (E := N) (v := v) (mo := mo) (x := x) hf (vecOk_true bvec).2 (by simp [longOk] at hl; exact hl.2) (by omega) e (by omega) j (by omega))
  have HCB := hide (fun L (e : Int) => capV_bd L e hf)
  have HM := hide (fun j (hj : j < m) => allIn_gv (v := mo) (k := j) (by omega) (by simp [longOk] at hl; exact hl.2))
  have m5 : m ≤ 5 := by omega
  have hm2 : m2 = m := by omega
  clear hb hs hl bvec bg0 blen hmN hmo2 hxl hml 
  subst hm2
  clear r0 r1
  go_enter Try.func50, Try.ntmps50
  go_wp2_with fail
  refine HC.out.mono ?_
  rintro e w1 ⟨rfl, hb1⟩
  have hF1 := hF0.step hb1
  obtain ⟨hbel1, hz1, r0, r1⟩ := hF1.parts
  go_wp2_with fail
  refine (HB.out _ hbel1).mono ?_
  rintro e w2 ⟨rfl, hb2⟩
  have hF2 := hF1.step hb2
  clear r0 r1
  obtain ⟨hbel2, hz2, r0, r1⟩ := hF2.parts
  go_wp2_with fail
  refine (HL.out _ hbel2).mono ?_
  rintro e w3 ⟨rfl, hb3⟩
  have hF3 := hF2.step hb3
  clear r0 r1
  obtain ⟨hbel3, hz3, r0, r1⟩ := hF3.parts
  go_wp2_with fail
  refine (clone_any A' m2 c' x _ (hx.below hbel3 (Nat.le_refl _)) (by omega)).mono ?_
  rintro e w4 ⟨B, cr, rfl, hown, hb4⟩
  have hF4 := hF3.step hb4
  replace hown := hown.less (B' := w.heap.size + 1) hz3
  go_wp2
  clear r0 r1
  go_loopw [31] (fun t wr => ∃ k : Nat, k ≤ m2 ∧ t = .int .i64 k ∧ Own wr (w.heap.size + 1) B m2 cr (raiseT N v mo x k) ∧ FB w wr N A n c) (fun t _ => m2 - (intOf t).toNat)
  case atStart => exact ⟨0, Nat.zero_le _, rfl, hown, hF4⟩
  clear hown hF4
  case round =>
    obtain ⟨k, hk, rfl, hown, hFBr⟩ := hrel
    obtain ⟨hbelr, hzr, r0, r1⟩ := hFBr.parts
    by_cases hlt : k < m2
    · obtain ⟨g, rfl, hgB, hgl⟩ := hown.form (by omega)
      obtain ⟨b2, off2, rfl, hbb2, hcc2⟩ := hmo.all_ (by omega)
      have hst := hide (show raiseT N v mo x (k + 1) = if gv (raiseT N v mo x k) k < gv mo k then (raiseT N v mo x k).set k (mn (gv (raiseT N v mo x k) k + capV N v (raiseT N v mo x k) (k : Int)) (gv mo k)) else raiseT N v mo x k from rfl)
      have q1 := HBD.out k hk k hlt
      have q2 := HCB.out (raiseT N v mo x k) (k : Int)
      have q3 := HM.out k hlt
      have c5 : wr.cell? ⟨b2, off2 + k, none⟩ = some (.int .i64 (gv mo k)) := (hbelr.cell (p := ⟨b2, off2 + k, none⟩) hbb2).trans (hcc2 k hlt)
      have HCap := hide (fun W (h1 : Below w.heap.size w W) (h2 : Ints W (some ⟨g, 0, none⟩) m2 (raiseT N v mo x k)) => capacityOf_any N A n c v (some ⟨g, 0, none⟩) m2 cr (raiseT N v mo x k) (k : Int) W (hv.below h1 (Nat.le_refl _)) h2)
      clear hcc2
      generalize raiseT N v mo x k = L at *
      have i1 : (0 : Int) ≤ (k : Int) := by omega
      have i2 : (k : Int) < (m2 : Int) := by omega
      have hne : b2 ≠ g := by omega
      have hne' : g ≠ b2 := by omega
      by_cases hq : gv L k < gv mo k
      · have hs := hide (hst.out.trans (if_pos hq))
        have hd : decide (gv L k < gv mo k) = true := by simp [hq]
        clear hq
        have o1 : Own wr.drew (w.heap.size + 1) (some ⟨g, 0, none⟩) m2 cr L := hown
        have d1 := hown.cell hlt
        go_wp2
        go_quiet (fail)
        go_wp2_with fail
        have hw5 := hFBr.drewN nq
        have ow5 := hown.below (below_drewN (Below.refl wr.heap.size wr) nq) (Nat.le_refl _)
        refine (HCap.out _ hw5.1 ow5.ints).mono ?_
        rintro e w5 ⟨rfl, hb5⟩
        have hF5 := hw5.step hb5
        have o5 := ow5.below hb5 (Nat.le_refl _)
        have d2 := o5.cell hlt
        have d3 := o5.frozen k
        have d4 : w5.cell? ⟨b2, off2 + k, none⟩ = some (.int .i64 (gv mo k)) := (hb5.cell (p := ⟨b2, off2 + k, none⟩) (Nat.lt_of_lt_of_le hbb2 hbelr.size)).trans c5
        clear d1 c5 r0 r1
        obtain ⟨hbel5, hz5, r0, r1⟩ := hF5.parts
        generalize capV N v L (k : Int) = R at *
        have hm : (if gv mo k < gv L k + R then gv mo k else gv L k + R) = mn (gv L k + R) (gv mo k) := rfl
        have t1 : IntKind.i64.wrap (gv L k + R) = gv L k + R := IntWalk.i64_in _ (by omega)
        go_wp2
        go_region
        all_goals
          go_wp2
          go_roundw
          case rel => exact ⟨k + 1, by omega, by go_num, by rw [hs.out]; exact o5.set_ k _, fb_set' hF5.drew (p := ⟨g, k, none⟩) (by simp; omega) _⟩
          case measure => simp [intOf]; omega
      · have hs := hide (hst.out.trans (if_neg hq))
        have hd : decide (gv L k < gv mo k) = false := by simp [hq]
        clear hq
        have d1 := hown.cell hlt
        go_wp2
        go_quiet (fail)
        go_wp2
        go_roundw
        case rel => exact ⟨k + 1, by omega, by go_num, by rw [hs.out]; exact hown, hFBr.drewN _⟩
        case measure => simp [intOf]; omega
    · obtain rfl : k = m2 := by omega
      go_wp2
      go_ret2
      exact ⟨B, k, cr, rfl, hown.less (Nat.le_succ _), by omega, hbelr⟩
set_option maxHeartbeats 4000000 in
theorem specRaiseVector_any (E : Int) (A : Option Addr) (n c : Nat) (v : List Int) (A' : Option Addr) (m c' : Nat) (x : List Int) (A2 : Option Addr) (m2 c2 : Nat) (mo : List Int) (w : World) (hv : Ints w A n v) (hx : Ints w A' m x) (hmo : Ints w A2 m2 mo) :
    Calls Try.prog 49 #[.agg #[.int .i64 E, .slice A n c], .slice A' m c', .slice A2 m2 c2] w fun e w' => ∃ B r cr, e = .returned (.tuple #[.slice B r cr, .bool (raiseOk E v x mo)]) ∧ Own w' w.heap.size B r cr (raiseL E v x mo) ∧ r ≤ 1048576 ∧ Below w.heap.size w w' := by
  have hF0 := FB.start w E A n c
  obtain ⟨hbel0, hz0, r0, r1⟩ := hF0.parts
  have hcall := specIsSubmodular_any E A n c v _ (hv.below hbel0 (Nat.le_refl _))
  have HB := hide (fun W (h : Below w.heap.size w W) => specIsBelow_any E A n c v A' m c' x W (hv.below h (Nat.le_refl _)) (hx.below h (Nat.le_refl _)))
  cases hs : subB E v
  · have e0 : raiseOk E v x mo = false := by simp [raiseOk, hs]
    have e1 : raiseL E v x mo = [] := by simp [raiseL, e0]
    rw [e0, e1]; clear e0 e1
    rw [hs] at hcall
    have HC := hide hcall; clear hcall
    go_enter Try.func49, Try.ntmps49
    go_wp2_with fail
    refine HC.out.mono ?_
    rintro e w1 ⟨rfl, hb1⟩
    have hF1 := hF0.step hb1
    go_wp2
    go_ret2
    exact ⟨_, 0, 0, rfl, (own_none _).less (Nat.le_of_lt hF1.2.1), by omega, (hF1.step ((Below.refl _ _).alloc (Nat.le_refl _) _)).1⟩
  rw [hs] at hcall
  have HC := hide hcall; clear hcall
  cases hb : belowB E v x
  · have e0 : raiseOk E v x mo = false := by simp [raiseOk, hb]
    have e1 : raiseL E v x mo = [] := by simp [raiseL, e0]
    rw [e0, e1]; clear e0 e1
    rw [hb] at HB
    clear hb hs
    go_enter Try.func49, Try.ntmps49
    go_wp2_with fail
    refine HC.out.mono ?_
    rintro e w1 ⟨rfl, hb1⟩
    have hF1 := hF0.step hb1
    clear r0 r1
    obtain ⟨hbel1, hz1, r0, r1⟩ := hF1.parts
    go_wp2_with fail
    refine (HB.out _ hbel1).mono ?_
    rintro e w2 ⟨rfl, hb2⟩
    have hF2 := hF1.step hb2
    go_wp2
    go_ret2
    exact ⟨_, 0, 0, rfl, (own_none _).less (Nat.le_of_lt hF2.2.1), by omega, (hF2.step ((Below.refl _ _).alloc (Nat.le_refl _) _)).1⟩
  rw [hb] at HB
  obtain ⟨hf, bg0, blen, bvec, _⟩ := below_ok hb
  have hxl := hx.len
  have hml := hmo.len
  obtain ⟨N, rfl, fo⟩ := FnOk.of hf hv
  have hN := fo.hN
  have hmN : m = N := by omega
  have HL := hide (fun W (h : Below w.heap.size w W) => l8Vector_any A2 m2 c2 mo W (hmo.below h (Nat.le_refl _)))
  cases hl8 : vecOk 5000 mo
  · have e0 : raiseOk N v x mo = false := by
      have : longOk N mo = false := by
        cases h : longOk (N : Int) mo
        · rfl
        · rw [long_vec hf h] at hl8; cases hl8
      simp [raiseOk, this]
    have e1 : raiseL N v x mo = [] := by simp [raiseL, e0]
    rw [e0, e1]; clear e0 e1
    rw [hl8] at HL
    clear hb hs hl8 hmN hxl hml bg0 blen bvec hf
    go_enter Try.func49, Try.ntmps49
    go_wp2_with fail
    refine HC.out.mono ?_
    rintro e w1 ⟨rfl, hb1⟩
    have hF1 := hF0.step hb1
    clear r0 r1
    obtain ⟨hbel1, hz1, r0, r1⟩ := hF1.parts
    go_wp2_with fail
    refine (HB.out _ hbel1).mono ?_
    rintro e w2 ⟨rfl, hb2⟩
    have hF2 := hF1.step hb2
    go_wp2_with fail
    refine (HL.out _ hF2.1).mono ?_
    rintro e w3 ⟨rfl, rfl⟩
    go_wp2
    go_ret2
    exact ⟨_, 0, 0, rfl, (own_none _).less (Nat.le_of_lt hF2.2.1), by omega, (hF2.step ((Below.refl _ _).alloc (Nat.le_refl _) _)).1⟩
  rw [hl8] at HL
  by_cases hlm : m2 = m
  case neg =>
    have e0 : raiseOk N v x mo = false := by
      have : longOk N mo = false := by simp [longOk]; omega
      simp [raiseOk, this]
    have e1 : raiseL N v x mo = [] := by simp [raiseL, e0]
    have e2 : ((m2 : Int) != (m : Int)) = true := by simp; omega
    rw [e0, e1]; clear e0 e1
    clear hb hs hl8 hmN hxl hml bg0 blen bvec hf
    go_enter Try.func49, Try.ntmps49
    go_wp2_with fail
    refine HC.out.mono ?_
    rintro e w1 ⟨rfl, hb1⟩
    have hF1 := hF0.step hb1
    clear r0 r1
    obtain ⟨hbel1, hz1, r0, r1⟩ := hF1.parts
    go_wp2_with fail
    refine (HB.out _ hbel1).mono ?_
    rintro e w2 ⟨rfl, hb2⟩
    have hF2 := hF1.step hb2
    go_wp2_with fail
    refine (HL.out _ hF2.1).mono ?_
    rintro e w3 ⟨rfl, rfl⟩
    go_wp2
    go_ret2
    exact ⟨_, 0, 0, rfl, (own_none _).less (Nat.le_of_lt hF2.2.1), by omega, (hF2.step ((Below.refl _ _).alloc (Nat.le_refl _) _)).1⟩
  have hl : longOk N mo = true := by simp [longOk, (vecOk_true hl8).2]; omega
  subst hlm
  have e0 : raiseOk N v x mo = true := by simp [raiseOk, hs, hb, hl]
  have e1 : raiseL N v x mo = raiseT N v mo x m2 := by simp [raiseL, e0, hxl]
  rw [e0, e1]; clear e0 e1
  have hmo2 : mo.length = m2 := by simp [longOk] at hl; omega
  have HBD := hide (fun e (he : e ≤ m2) j (hj : j < m2) => raiseT_bd (E := N) (v := v) (mo := mo) (x := x) hf (vecOk_true bvec).2 (by simp [longOk] at hl; exact hl.2) (by omega) e (by omega) j (by omega))
  have HCB := hide (fun L (e : Int) => capV_bd L e hf)
  have HM := hide (fun j (hj : j < m2) => allIn_gv (v := mo) (k := j) (by omega) (by simp [longOk] at hl; exact hl.2))
  have m5 : m2 ≤ 5 := by omega
  have hm2 : m2 = m2 := by omega
  clear hb hs hl bvec bg0 blen hmN hmo2 hxl hml hl8
  clear hm2
  clear r0 r1
  go_enter Try.func49, Try.ntmps49
  go_wp2_with fail
  refine HC.out.mono ?_
  rintro e w1 ⟨rfl, hb1⟩
  have hF1 := hF0.step hb1
  obtain ⟨hbel1, hz1, r0, r1⟩ := hF1.parts
  go_wp2_with fail
  refine (HB.out _ hbel1).mono ?_
  rintro e w2 ⟨rfl, hb2⟩
  have hF2 := hF1.step hb2
  clear r0 r1
  obtain ⟨hbel2, hz2, r0, r1⟩ := hF2.parts
  go_wp2_with fail
  refine (HL.out _ hbel2).mono ?_
  rintro e w3 ⟨rfl, rfl⟩
  have hO := own_zero w2 (B := w.heap.size + 1) hz2
  have hF3 := hF2.step ((Below.refl w2.heap.size w2).alloc (Nat.le_refl _) (.cells #[] 3))
  have hsz2 := hz2
  go_wp2_with (refine wpl_apps (by rfl) _ _ (by rfl) (w.heap.size + 1) _ 0 0 [] A' m2 c' x (by rfl) (by rfl) hO ((hx.below hbel2 (Nat.le_refl _)).alloc _) (by omega) (by omega) (by simp; omega) ?_; intro B cr w4 hown hgrow hat)
  rw [Nat.zero_add] at hown
  have hF4 := hF2.step ((((Below.refl w2.heap.size w2).alloc (Nat.le_refl _) (.cells #[] 3))).grown hgrow (by simp) (fun k hk => by simp at hk; omega))
  clear r0 r1
  go_loopw [9] (fun t wr => ∃ k : Nat, k ≤ m2 ∧ t = .int .i64 k ∧ Own wr (w.heap.size + 1) B m2 cr (raiseT N v mo x k) ∧ FB w wr N A n c) (fun t _ => m2 - (intOf t).toNat)
  case atStart => exact ⟨0, Nat.zero_le _, rfl, hown, hF4⟩
  clear hown hF4
  case round =>
    obtain ⟨k, hk, rfl, hown, hFBr⟩ := hrel
    obtain ⟨hbelr, hzr, r0, r1⟩ := hFBr.parts
    by_cases hlt : k < m2
    · obtain ⟨g, rfl, hgB, hgl⟩ := hown.form (by omega)
      obtain ⟨b2, off2, rfl, hbb2, hcc2⟩ := hmo.all_ (by omega)
      have hst := hide (show raiseT N v mo x (k + 1) = if gv (raiseT N v mo x k) k < gv mo k then (raiseT N v mo x k).set k (mn (gv (raiseT N v mo x k) k + capV N v (raiseT N v mo x k) (k : Int)) (gv mo k)) else raiseT N v mo x k from rfl)
      have q1 := HBD.out k hk k hlt
      have q2 := HCB.out (raiseT N v mo x k) (k : Int)
      have q3 := HM.out k hlt
      have c5 : wr.cell? ⟨b2, off2 + k, none⟩ = some (.int .i64 (gv mo k)) := (hbelr.cell (p := ⟨b2, off2 + k, none⟩) hbb2).trans (hcc2 k hlt)
      have HCap := hide (fun W (h1 : Below w.heap.size w W) (h2 : Ints W (some ⟨g, 0, none⟩) m2 (raiseT N v mo x k)) => specCapacityOf_any N A n c v (some ⟨g, 0, none⟩) m2 cr (raiseT N v mo x k) (k : Int) W (hv.below h1 (Nat.le_refl _)) h2)
      clear hcc2
      generalize raiseT N v mo x k = L at *
      have i1 : (0 : Int) ≤ (k : Int) := by omega
      have i2 : (k : Int) < (m2 : Int) := by omega
      have hne : b2 ≠ g := by omega
      have hne' : g ≠ b2 := by omega
      go_wp2_with fail
      refine (HCap.out _ hbelr hown.ints).mono ?_
      rintro e w5 ⟨rfl, hb5⟩
      have hF5 := hFBr.step hb5
      have o5 := hown.below hb5 (Nat.le_refl _)
      have d2 := o5.cell hlt
      have d3 := o5.frozen k
      have d4 : w5.cell? ⟨b2, off2 + k, none⟩ = some (.int .i64 (gv mo k)) := (hb5.cell (p := ⟨b2, off2 + k, none⟩) (Nat.lt_of_lt_of_le hbb2 hbelr.size)).trans c5
      clear c5 r0 r1
      generalize capV N v L (k : Int) = R at *
      by_cases hq : gv L k < gv mo k
      · have hs := hide (hst.out.trans (if_pos hq))
        have hd : decide (gv L k < gv mo k) = true := by simp [hq]
        clear hq
        have hm : (if gv L k + R < gv mo k then gv L k + R else gv mo k) = mn (gv L k + R) (gv mo k) := mn_comm _ _
        have t1 : IntKind.i64.wrap (gv L k + R) = gv L k + R := IntWalk.i64_in _ (by omega)
        go_wp2
        go_quiet (fail)
        have ow6 := o5.below (below_drewN (Below.refl w5.heap.size w5) nq) (Nat.le_refl _)
        have hF6 := hF5.drewN nq
        have e2 := ow6.cell hlt
        have e3 := ow6.frozen k
        have e4 : (w5.drewN nq).cell? ⟨b2, off2 + k, none⟩ = some (.int .i64 (gv mo k)) := d4
        go_wp2
        go_region
        all_goals
          go_wp2
          go_roundw
          case rel => exact ⟨k + 1, by omega, by go_num, by rw [hs.out]; exact ow6.set_ k _, fb_set' hF6.drew (p := ⟨g, k, none⟩) (by simp; omega) _⟩
          case measure => simp [intOf]; omega
      · have hs := hide (hst.out.trans (if_neg hq))
        have hd : decide (gv L k < gv mo k) = false := by simp [hq]
        clear hq
        go_wp2
        go_quiet (fail)
        go_wp2
        go_roundw
        case rel => exact ⟨k + 1, by omega, by go_num, by rw [hs.out]; exact o5, hF5.drewN _⟩
        case measure => simp [intOf]; omega
    · obtain rfl : k = m2 := by omega
      go_wp2
      go_ret2
      exact ⟨B, k, cr, rfl, hown.less (Nat.le_succ _), by omega, hbelr⟩
end Go.Proofs.Ytboggeipdgimdaa
