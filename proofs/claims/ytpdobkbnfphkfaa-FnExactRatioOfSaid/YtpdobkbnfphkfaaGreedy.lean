/-
  Walks: greed for a size.
-/
import Derived.Test.YtpdobkbnfphkfaaBest
import Derived.Test.YtpdobkbnfphkfaaClass
namespace Go.Proofs.Ytpdobkbnfphkfaa
open Go.RowKit

/-- Is element e a better one to add to s than b? (b below 0: none yet.) -/
def betT (v : List Int) (s e : Nat) (b : Int) : Bool := decide (b < 0) || decide (gv v (insN s b.toNat) < gv v (insN s e))
/-- The first of the elements below e that adds most to s; -1: none. -/
def pickT (v : List Int) (s : Nat) : Nat → Int
  | 0 => -1
  | e + 1 => if (!hasB s e && betT v s e (pickT v s e)) = true then (e : Int) else pickT v s e
def pickN (v : List Int) (s N : Nat) : Nat := (pickT v s N).toNat
theorem pick_form (v : List Int) (s : Nat) : ∀ e, pickT v s e = -1 ∨ ∃ b : Nat, b < e ∧ pickT v s e = (b : Int)
  | 0 => .inl rfl
  | e + 1 => by
    unfold pickT
    split
    · exact .inr ⟨e, by omega, rfl⟩
    · rcases pick_form v s e with h | ⟨b, hb, h⟩
      · exact .inl h
      · exact .inr ⟨b, by omega, h⟩
theorem pick_some (v : List Int) (s : Nat) : ∀ e, (∃ j, j < e ∧ hasB s j = false) → ∃ b : Nat, b < e ∧ pickT v s e = (b : Int)
  | 0, h => by obtain ⟨j, hj, _⟩ := h; omega
  | e + 1, h => by
    unfold pickT
    split
    · exact ⟨e, by omega, rfl⟩
    · rename_i hn
      rcases pick_form v s e with h1 | ⟨b, hb, h1⟩
      · exfalso
        obtain ⟨j, hj, hh⟩ := h
        by_cases he : j = e
        · subst he
          apply hn
          simp [hh, h1, betT]
        · obtain ⟨b, hb, h2⟩ := pick_some v s e ⟨j, by omega, hh⟩
          omega
      · exact ⟨b, by omega, h1⟩
theorem pop_ins : ∀ s : Fin 32, ∀ k : Fin 5, popN (insN s.val k.val) ≤ popN s.val + 1 := by decide +kernel
theorem pop_room : ∀ N : Fin 6, ∀ s : Fin 32, s.val < 2 ^ N.val → popN s.val < N.val → ∃ j : Fin 5, j.val < N.val ∧ hasB s.val j.val = false := by decide +kernel
/-- The list and the set after j rounds. -/
def grN (v : List Int) (N : Nat) : Nat → List Int × Nat
  | 0 => ([], 0)
  | j + 1 => ((grN v N j).1 ++ [((pickN v (grN v N j).2 N : Nat) : Int)], insN (grN v N j).2 (pickN v (grN v N j).2 N))
theorem gr_pick {v : List Int} {N s j : Nat} (hN : N ≤ 5) (hs : s < 2 ^ N) (hp : popN s ≤ j) (hj : j < N) : pickT v s N = ((pickN v s N : Nat) : Int) ∧ pickN v s N < N := by
  have h32 : (2 : Nat) ^ N ≤ 32 := Nat.pow_le_pow_right (by omega) hN
  obtain ⟨i, hi, hh⟩ := pop_room ⟨N, by omega⟩ ⟨s, by omega⟩ hs (show popN s < N by omega)
  obtain ⟨b, hb, h⟩ := pick_some v s N ⟨i.val, hi, hh⟩
  unfold pickN; rw [h]
  exact ⟨by simp, by simpa using hb⟩
theorem gr_inv (v : List Int) {N : Nat} (hN : N ≤ 5) : ∀ j, j ≤ N → (grN v N j).2 < 2 ^ N ∧ popN (grN v N j).2 ≤ j ∧ (grN v N j).1.length = j
  | 0, _ => ⟨Nat.two_pow_pos N, by simp [grN, popN], rfl⟩
  | j + 1, hj => by
    obtain ⟨h1, h2, h3⟩ := gr_inv v hN j (by omega)
    obtain ⟨h4, h5⟩ := gr_pick (v := v) hN h1 h2 (by omega)
    have h32 : (2 : Nat) ^ N ≤ 32 := Nat.pow_le_pow_right (by omega) hN
    refine ⟨insN_lt h1 h5, ?_, by simp [grN, h3]⟩
    have := pop_ins ⟨(grN v N j).2, by omega⟩ ⟨pickN v (grN v N j).2 N, by omega⟩
    simp only [grN]
    simp only at this
    omega
def grL (E : Int) (v : List Int) (k : Int) : List Int := if bestOk E v k then (grN v E.toNat k.toNat).1 else []
def grV (E : Int) (v : List Int) (k : Int) : Int := if bestOk E v k then gv v (grN v E.toNat k.toNat).2 else 0

set_option maxHeartbeats 4000000 in
theorem greedyOfSize_any (E : Int) (A : Option Addr) (n c : Nat) (v : List Int) (k : Int) (w : World) (hv : Ints w A n v) :
    Calls Try.prog 57 #[.agg #[.int .i64 E, .slice A n c], .int .i64 k] w fun e w' => ∃ B r cr, e = .returned (.tuple #[.slice B r cr, .int .i64 (grV E v k), .bool (bestOk E v k)]) ∧ Own w' w.heap.size B r cr (grL E v k) ∧ r ≤ 1048576 ∧ Below w.heap.size w w' := by
  have hF0 := FB.start w E A n c
  obtain ⟨hbel0, hz0, r0, r1⟩ := hF0.parts
  have hcall := isFunction_any E A n c v _ (hv.below hbel0 (Nat.le_refl _))
  cases hf : isFn E v
  · have e0 : bestOk E v k = false := by simp [bestOk, hf]
    have e1 : grL E v k = [] := by simp [grL, e0]
    have e2 : grV E v k = 0 := by simp [grV, e0]
    rw [e0, e1, e2]; clear e0 e1 e2
    rw [hf] at hcall
    have HC := hide hcall; clear hcall
    go_enter Try.func57, Try.ntmps57
    go_wp2_with fail
    refine HC.out.mono ?_
    rintro e w1 ⟨rfl, hb1⟩
    go_wp2
    go_ret3
    exact ⟨none, 0, 0, rfl, own_nil _ _, by omega, (hF0.step hb1).1⟩
  rw [hf] at hcall
  have HC := hide hcall; clear hcall
  cases hr : inR k 0 E
  · have e0 : bestOk E v k = false := by simp [bestOk, hr]
    have e1 : grL E v k = [] := by simp [grL, e0]
    have e2 : grV E v k = 0 := by simp [grV, e0]
    rw [e0, e1, e2]; clear e0 e1 e2 r0 r1
    go_enter Try.func57, Try.ntmps57
    go_wp2_with fail
    refine HC.out.mono ?_
    rintro e w1 ⟨rfl, hb1⟩
    obtain ⟨hbel, hz, r0, r1⟩ := (hF0.step hb1).parts
    go_wp2_with fail
    refine (within_any _ _ _ _).mono ?_
    rintro e w2 ⟨rfl, rfl⟩
    rw [hr]
    go_wp2
    go_ret3
    exact ⟨none, 0, 0, rfl, own_nil _ _, by omega, hbel⟩
  obtain ⟨K, rfl⟩ : ∃ K : Nat, k = (K : Int) := ⟨k.toNat, by have := inR_true hr; omega⟩
  obtain ⟨N, rfl, fo⟩ := FnOk.of hf hv
  have hKN : K ≤ N := by have := inR_true hr; omega
  have e0 : bestOk N v K = true := by simp [bestOk, hr, hf]
  have e1 : grL N v K = (grN v N K).1 := by simp [grL, e0]
  have e2 : grV N v K = gv v (grN v N K).2 := by simp [grV, e0]
  rw [e0, e1, e2]; clear e0 e1 e2 r0 r1
  have Hf := hide hf
  have Hr := hide hr
  have hle := hv.le
  have n32 := fo.n32
  have hN := fo.hN
  have hnp := hide fo.hn
  have HI := hide (fun j (hj : j ≤ N) => gr_inv v hN j hj)
  clear hf hr
  obtain ⟨b, off, rfl, hbb, hc⟩ := hv.all_ fo.n0
  have HCC := hide hc; clear hc
  go_enter Try.func57, Try.ntmps57
  go_wp2_with fail
  refine HC.out.mono ?_
  rintro e w1 ⟨rfl, hb1⟩
  have hFB := hF0.step hb1
  obtain ⟨hbel, hz, r0, r1⟩ := hFB.parts
  go_wp2_with fail
  refine (within_any _ _ _ _).mono ?_
  rintro e w2 ⟨rfl, rfl⟩
  rw [Hr.out]
  go_wp2
  clear r0 r1
  go_loopw [7, 8, 22] (fun l s i wr => ∃ (j r : Nat) (B : Option Addr) (cr : Nat), j ≤ K ∧ i = .int .i64 j ∧ s = .int .i64 ((grN v N j).2 : Nat) ∧ l = .slice B r cr ∧ Own wr (w.heap.size + 1) B r cr (grN v N j).1 ∧ FB w wr N (some ⟨b, off, none⟩) n c) (fun _ _ i _ => K - (intOf i).toNat)
  case atStart => exact ⟨0, 0, none, 0, Nat.zero_le _, rfl, rfl, rfl, own_nil _ _, hFB⟩
  case round =>
    obtain ⟨j, r, B, cr, hj, rfl, rfl, rfl, hown, hFBr⟩ := hrel
    obtain ⟨hbelr, hzr, r0, r1⟩ := hFBr.parts
    obtain ⟨hs, hpop, hlen⟩ := HI.out j (by omega)
    have hrj : r = j := by rw [← hown.len, hlen]
    subst hrj
    rw [← hnp.out] at hs
    by_cases hlt : r < K
    · have hpk := gr_pick (v := v) hN (s := (grN v N r).2) (by rw [← hnp.out]; exact hs) hpop (by omega)
      have hgs1 := hide (show (grN v N (r + 1)).1 = (grN v N r).1 ++ [((pickN v (grN v N r).2 N : Nat) : Int)] from rfl)
      have hgs2 := hide (show (grN v N (r + 1)).2 = insN (grN v N r).2 (pickN v (grN v N r).2 N) from rfl)
      generalize (grN v N r).1 = L at *
      generalize (grN v N r).2 = s at *
      have hs10 : s < 1024 := by omega
      clear hpop
      have HP := hide hpk; clear hpk
      go_wp2
      clear r0 r1
      go_loopw [9, 26] (fun t i wi => ∃ e : Nat, e ≤ N ∧ i = .int .i64 e ∧ t = .int .i64 (pickT v s e) ∧ Own wi (w.heap.size + 1) B r cr L ∧ FB w wi N (some ⟨b, off, none⟩) n c) (fun _ i _ => N - (intOf i).toNat)
      case atStart => exact ⟨0, Nat.zero_le _, rfl, rfl, hown, hFBr⟩
      case round =>
        obtain ⟨e, he, rfl, rfl, howni, hFBi⟩ := hrel
        obtain ⟨hbeli, hzi, r0, r1⟩ := hFBi.parts
        by_cases hle2 : e < N
        · have hvi : Ints wr (some ⟨b, off, none⟩) n v := hv.below hbeli (Nat.le_refl _)
          have q0 := wc_cell r0
          have q1 := wc_cell r1
          have HG := hide (fun (q : Nat) (W : World) (h : Ints W (some ⟨b, off, none⟩) n v) (hq : q < N) => gain_any N (some ⟨b, off, none⟩) n c v s q W h Hf.out hs (by omega))
          have he40 : e ≤ 40 := by omega
          have hp := pick_form v s e
          have hst := hide (show pickT v s (e + 1) = if (!hasB s e && betT v s e (pickT v s e)) = true then (e : Int) else pickT v s e from rfl)
          cases hh : hasB s e
          · rcases hp with hp | ⟨q, hq, hp⟩
            · have hs2 := hide (hst.out.trans (by rw [hp, hh]; rfl) : pickT v s (e + 1) = (e : Int))
              rw [hp]; clear hp
              go_wp2
              go_quiet (fail)
              go_wp2
              go_roundw
              case rel => exact ⟨e + 1, by omega, by go_num, by rw [hs2.out], howni, hFBi.drewN _⟩
              case measure => simp [intOf]; omega
            · have hb0 : betT v s e (q : Int) = decide (gainN v s q < gainN v s e) := by
                have h0 : ¬ ((q : Int) < 0) := by omega
                rw [Bool.eq_iff_iff]
                simp only [betT, h0, decide_false, Bool.false_or, Int.toNat_natCast, decide_eq_true_eq]
                unfold gainN
                omega
              have hs2 := hide (hst.out.trans (by rw [hp, hh, hb0]; rfl) : pickT v s (e + 1) = if decide (gainN v s q < gainN v s e) = true then (e : Int) else (q : Int))
              rw [hp]; clear hp hb0
              have hqN : q < N := by omega
              have hq0 : decide ((q : Int) < 0) = false := by simp
              by_cases hlt3 : gainN v s q < gainN v s e
              · have hs3 := hide (hs2.out.trans (by simp [hlt3]) : pickT v s (e + 1) = (e : Int))
                go_wp2
                refine region_below (by kernel_rfl) (by kernel_rfl) ?_
                repeat (go_big_quiet_step ((go_at_call 76; refine wc_call (HG.out _ _ (wc_ints hvi _) ?_); assumption)))
                refine wpQuiet_nil ?_
                intro _ hw'
                obtain ⟨p, rfl⟩ := hw'
                go_wp2
                go_roundw
                case rel => exact ⟨e + 1, by omega, by go_num, by rw [hs3.out], howni.below p.below (Nat.le_refl _), hFBi.step p.below⟩
                case measure => simp [intOf]; omega
              · have hs3 := hide (hs2.out.trans (by simp [hlt3]) : pickT v s (e + 1) = (q : Int))
                have hlt4 : decide (gainN v s q < gainN v s e) = false := by simpa using hlt3
                go_wp2
                refine region_below (by kernel_rfl) (by kernel_rfl) ?_
                repeat (go_big_quiet_step ((go_at_call 76; refine wc_call (HG.out _ _ (wc_ints hvi _) ?_); assumption)))
                refine wpQuiet_nil ?_
                intro _ hw'
                obtain ⟨p, rfl⟩ := hw'
                go_wp2
                go_roundw
                case rel => exact ⟨e + 1, by omega, by go_num, by rw [hs3.out], howni.below p.below (Nat.le_refl _), hFBi.step p.below⟩
                case measure => simp [intOf]; omega
          · have hs2 := hide (hst.out.trans (by rw [hh]; rfl) : pickT v s (e + 1) = pickT v s e)
            go_wp2
            go_quiet (fail)
            go_wp2
            go_roundw
            case rel => exact ⟨e + 1, by omega, by go_num, by rw [hs2.out], howni, hFBi.drewN _⟩
            case measure => simp [intOf]; omega
        · obtain rfl : e = N := by omega
          obtain ⟨hp1, hp2⟩ := HP.out
          rw [hp1]
          have hq40 : pickN v s e ≤ 40 := by omega
          generalize pickN v s e = q at *
          clear hp1 hs
          have hsz := hFBi.2.1
          go_wp2_with (refine wpl_app (by rfl) _ _ (by rfl) (w.heap.size + 1) B r cr wr.heap.size L (q : Int) (by rfl) (by rfl) (howni.alloc _) (cell_new wr _) (by omega) (by simp; omega) ?_; intro g cap w4 hown4 hgrow hat hlt4)
          go_roundw
          case rel => exact ⟨r + 1, r + 1, _, cap, by omega, by go_num, by rw [hgs2.out], rfl, by rw [hgs1.out]; exact hown4, app_FB hFBi howni hgrow (Below.refl _ _) rfl⟩
          case measure => simp [intOf]; omega
    · obtain rfl : r = K := by omega
      have c2 : wr.cell? ⟨b, off + (grN v N r).2, none⟩ = some (.int .i64 (gv v (grN v N r).2)) := (hbelr.cell (p := ⟨b, off + (grN v N r).2, none⟩) hbb).trans (HCC.out _ hs)
      have i1 : (0 : Int) ≤ ((grN v N r).2 : Nat) := by omega
      have i2 : (((grN v N r).2 : Nat) : Int) < (n : Int) := by omega
      go_wp2
      go_quiet (fail)
      go_wp2
      go_ret3
      exact ⟨B, r, cr, rfl, (show Own _ _ _ _ _ _ from hown).less (Nat.le_succ _), by omega, (hFBr.drewN nq).1⟩
set_option maxHeartbeats 4000000 in
theorem specGreedyOfSize_any (E : Int) (A : Option Addr) (n c : Nat) (v : List Int) (k : Int) (w : World) (hv : Ints w A n v) :
    Calls Try.prog 53 #[.agg #[.int .i64 E, .slice A n c], .int .i64 k] w fun e w' => ∃ B r cr, e = .returned (.tuple #[.slice B r cr, .int .i64 (grV E v k), .bool (bestOk E v k)]) ∧ Own w' w.heap.size B r cr (grL E v k) ∧ r ≤ 1048576 ∧ Below w.heap.size w w' := by
  have hF0 := FB.start w E A n c
  obtain ⟨hbel0, hz0, r0, r1⟩ := hF0.parts
  have hcall := specIsFunction_any E A n c v _ (hv.below hbel0 (Nat.le_refl _))
  cases hf : isFn E v
  · have e0 : bestOk E v k = false := by simp [bestOk, hf]
    have e1 : grL E v k = [] := by simp [grL, e0]
    have e2 : grV E v k = 0 := by simp [grV, e0]
    rw [e0, e1, e2]; clear e0 e1 e2
    rw [hf] at hcall
    have HC := hide hcall; clear hcall
    go_enter Try.func53, Try.ntmps53
    go_wp2_with fail
    refine HC.out.mono ?_
    rintro e w1 ⟨rfl, hb1⟩
    go_wp2
    go_ret3
    have hF1 := hF0.step hb1
    exact ⟨_, 0, 0, rfl, (own_none _).less (Nat.le_of_lt hF1.2.1), by omega, (hF1.step ((Below.refl _ _).alloc (Nat.le_refl _) _)).1⟩
  rw [hf] at hcall
  have HC := hide hcall; clear hcall
  cases hr : inR k 0 E
  · have e0 : bestOk E v k = false := by simp [bestOk, hr]
    have e1 : grL E v k = [] := by simp [grL, e0]
    have e2 : grV E v k = 0 := by simp [grV, e0]
    rw [e0, e1, e2]; clear e0 e1 e2 r0 r1
    go_enter Try.func53, Try.ntmps53
    go_wp2_with fail
    refine HC.out.mono ?_
    rintro e w1 ⟨rfl, hb1⟩
    have hF1 := hF0.step hb1
    obtain ⟨hbel, hz, r0, r1⟩ := hF1.parts
    go_wp2_with fail
    refine (l1In_any _ _ _ _).mono ?_
    rintro e w2 ⟨rfl, rfl⟩
    rw [hr]
    go_wp2
    go_ret3
    exact ⟨_, 0, 0, rfl, (own_none _).less (Nat.le_of_lt hF1.2.1), by omega, (hF1.step ((Below.refl _ _).alloc (Nat.le_refl _) _)).1⟩
  obtain ⟨K, rfl⟩ : ∃ K : Nat, k = (K : Int) := ⟨k.toNat, by have := inR_true hr; omega⟩
  obtain ⟨N, rfl, fo⟩ := FnOk.of hf hv
  have hKN : K ≤ N := by have := inR_true hr; omega
  have e0 : bestOk N v K = true := by simp [bestOk, hr, hf]
  have e1 : grL N v K = (grN v N K).1 := by simp [grL, e0]
  have e2 : grV N v K = gv v (grN v N K).2 := by simp [grV, e0]
  rw [e0, e1, e2]; clear e0 e1 e2 r0 r1
  have Hf := hide hf
  have Hr := hide hr
  have hle := hv.le
  have n32 := fo.n32
  have hN := fo.hN
  have hnp := hide fo.hn
  have HI := hide (fun j (hj : j ≤ N) => gr_inv v hN j hj)
  clear hf hr
  obtain ⟨b, off, rfl, hbb, hc⟩ := hv.all_ fo.n0
  have HCC := hide hc; clear hc
  go_enter Try.func53, Try.ntmps53
  go_wp2_with fail
  refine HC.out.mono ?_
  rintro e w1 ⟨rfl, hb1⟩
  have hFB := hF0.step hb1
  obtain ⟨hbel, hz, r0, r1⟩ := hFB.parts
  go_wp2_with fail
  refine (l1In_any _ _ _ _).mono ?_
  rintro e w2 ⟨rfl, rfl⟩
  rw [Hr.out]
  go_wp2
  clear r0 r1
  have hFB0 := hFB.step ((Below.refl _ _).alloc (Nat.le_refl _) (.cells #[] 3))
  have hOwn0 := (own_none w1).less hz
  clear hFB hb1 hbel HC
  go_loopw [7, 8] (fun l s wr => ∃ (r : Nat) (B : Option Addr) (cr : Nat), r ≤ K ∧ s = .int .i64 ((grN v N r).2 : Nat) ∧ l = .slice B r cr ∧ Own wr (w.heap.size + 1) B r cr (grN v N r).1 ∧ FB w wr N (some ⟨b, off, none⟩) n c) (fun l _ _ => K - (match l with | .slice _ r _ => r | _ => 0))
  case atStart => exact ⟨0, _, 0, Nat.zero_le _, rfl, rfl, hOwn0, hFB0⟩
  clear hOwn0 hFB0
  case round =>
    obtain ⟨r, B, cr, hj, rfl, rfl, hown, hFBr⟩ := hrel
    obtain ⟨hbelr, hzr, r0, r1⟩ := hFBr.parts
    obtain ⟨hs, hpop, hlen⟩ := HI.out r (by omega)
    rw [← hnp.out] at hs
    by_cases hlt : r < K
    · have hpk := gr_pick (v := v) hN (s := (grN v N r).2) (by rw [← hnp.out]; exact hs) hpop (by omega)
      have hgs1 := hide (show (grN v N (r + 1)).1 = (grN v N r).1 ++ [((pickN v (grN v N r).2 N : Nat) : Int)] from rfl)
      have hgs2 := hide (show (grN v N (r + 1)).2 = insN (grN v N r).2 (pickN v (grN v N r).2 N) from rfl)
      generalize (grN v N r).1 = L at *
      generalize (grN v N r).2 = s at *
      have hs10 : s < 1024 := by omega
      clear hpop
      have HP := hide hpk; clear hpk
      go_wp2
      clear r0 r1
      go_loopw [9, 10] (fun t i wi => ∃ e : Nat, e ≤ N ∧ i = .int .i64 e ∧ t = .int .i64 (pickT v s e) ∧ Own wi (w.heap.size + 1) B r cr L ∧ FB w wi N (some ⟨b, off, none⟩) n c) (fun _ i _ => N - (intOf i).toNat)
      case atStart => exact ⟨0, Nat.zero_le _, rfl, rfl, hown, hFBr⟩
      case round =>
        obtain ⟨e, he, rfl, rfl, howni, hFBi⟩ := hrel
        obtain ⟨hbeli, hzi, r0, r1⟩ := hFBi.parts
        by_cases hle2 : e < N
        · have he40 : e ≤ 40 := by omega
          have hie := fo.ins hs hle2
          have c1 : wr.cell? ⟨b, off + insN s e, none⟩ = some (.int .i64 (gv v (insN s e))) := (hbeli.cell (p := ⟨b, off + insN s e, none⟩) hbb).trans (HCC.out _ hie)
          have i1 : (0 : Int) ≤ ((insN s e : Nat) : Int) := by omega
          have i2 : ((insN s e : Nat) : Int) < (n : Int) := by omega
          have hp := pick_form v s e
          have hst := hide (show pickT v s (e + 1) = if (!hasB s e && betT v s e (pickT v s e)) = true then (e : Int) else pickT v s e from rfl)
          have HB := hide hbeli; clear hbeli
          cases hh : hasB s e
          · rcases hp with hp | ⟨q, hq, hp⟩
            · have hs2 := hide (hst.out.trans (by rw [hp, hh]; rfl) : pickT v s (e + 1) = (e : Int))
              rw [hp]; clear hp
              go_wp2
              go_quiet (fail)
              go_wp2
              go_roundw
              case rel => exact ⟨e + 1, by omega, by go_num, by rw [hs2.out], howni, hFBi.drewN _⟩
              case measure => simp [intOf]; omega
            · have hb0 : betT v s e (q : Int) = decide (gv v (insN s q) < gv v (insN s e)) := by
                have h0 : ¬ ((q : Int) < 0) := by omega
                simp only [betT, h0, decide_false, Bool.false_or, Int.toNat_natCast]
              have hs2 := hide (hst.out.trans (by rw [hp, hh, hb0]; rfl) : pickT v s (e + 1) = if decide (gv v (insN s q) < gv v (insN s e)) = true then (e : Int) else (q : Int))
              rw [hp]; clear hp hb0
              have hqN : q < N := by omega
              have hiq := fo.ins hs hqN
              have hq40 : q ≤ 40 := by omega
              have c2 : wr.cell? ⟨b, off + insN s q, none⟩ = some (.int .i64 (gv v (insN s q))) := (HB.out.cell (p := ⟨b, off + insN s q, none⟩) hbb).trans (HCC.out _ hiq)
              have i3 : (0 : Int) ≤ ((insN s q : Nat) : Int) := by omega
              have i4 : ((insN s q : Nat) : Int) < (n : Int) := by omega
              have hq0 : decide ((q : Int) < 0) = false := by simp
              by_cases hlt3 : gv v (insN s q) < gv v (insN s e)
              · have hs3 := hide (hs2.out.trans (by simp [hlt3]) : pickT v s (e + 1) = (e : Int))
                go_wp2
                go_quiet (fail)
                go_wp2
                go_roundw
                case rel => exact ⟨e + 1, by omega, by go_num, by rw [hs3.out], howni, hFBi.drewN _⟩
                case measure => simp [intOf]; omega
              · have hs3 := hide (hs2.out.trans (by simp [hlt3]) : pickT v s (e + 1) = (q : Int))
                have hlt4 : decide (gv v (insN s q) < gv v (insN s e)) = false := by simpa using hlt3
                go_wp2
                go_quiet (fail)
                go_wp2
                go_roundw
                case rel => exact ⟨e + 1, by omega, by go_num, by rw [hs3.out], howni, hFBi.drewN _⟩
                case measure => simp [intOf]; omega
          · have hs2 := hide (hst.out.trans (by rw [hh]; rfl) : pickT v s (e + 1) = pickT v s e)
            go_wp2
            go_quiet (fail)
            go_wp2
            go_roundw
            case rel => exact ⟨e + 1, by omega, by go_num, by rw [hs2.out], howni, hFBi.drewN _⟩
            case measure => simp [intOf]; omega
        · obtain rfl : e = N := by omega
          obtain ⟨hp1, hp2⟩ := HP.out
          rw [hp1]
          have hq40 : pickN v s e ≤ 40 := by omega
          generalize pickN v s e = q at *
          clear hp1 hs
          have hsz := hFBi.2.1
          go_wp2_with (refine wpl_app (by rfl) _ _ (by rfl) (w.heap.size + 1) B r cr wr.heap.size L (q : Int) (by rfl) (by rfl) (howni.alloc _) (cell_new wr _) (by omega) (by simp; omega) ?_; intro g cap w4 hown4 hgrow hat hlt4)
          go_roundw
          case rel => exact ⟨r + 1, _, cap, by omega, by rw [hgs2.out], rfl, by rw [hgs1.out]; exact hown4, app_FB hFBi howni hgrow (Below.refl _ _) rfl⟩
          case measure => simp; omega
    · obtain rfl : r = K := by omega
      have c2 : wr.cell? ⟨b, off + (grN v N r).2, none⟩ = some (.int .i64 (gv v (grN v N r).2)) := (hbelr.cell (p := ⟨b, off + (grN v N r).2, none⟩) hbb).trans (HCC.out _ hs)
      have i1 : (0 : Int) ≤ ((grN v N r).2 : Nat) := by omega
      have i2 : (((grN v N r).2 : Nat) : Int) < (n : Int) := by omega
      go_wp2
      go_quiet (fail)
      go_wp2
      go_ret3
      exact ⟨B, r, cr, rfl, (show Own _ _ _ _ _ _ from hown).less (Nat.le_succ _), by omega, (hFBr.drewN nq).1⟩
end Go.Proofs.Ytpdobkbnfphkfaa
