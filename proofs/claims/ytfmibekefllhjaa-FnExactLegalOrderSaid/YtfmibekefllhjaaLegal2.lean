/-
  Walks: legal orders and the pendant pair, by the program and by the reference.
-/
import Derived.Test.YtfmibekefllhjaaLegal
namespace Go.Proofs.Ytfmibekefllhjaa
open Go.RowKit

set_option maxHeartbeats 4000000 in
theorem specLegalOrder_any (E : Int) (A : Option Addr) (n c : Nat) (v : List Int) (first : Int) (w : World) (hv : Ints w A n v) :
    Calls Try.prog 25 #[.agg #[.int .i64 E, .slice A n c], .int .i64 first] w fun e w' => ∃ B r cr, e = .returned (.tuple #[.slice B r cr, .bool (legOk E v first)]) ∧ Own w' w.heap.size B r cr (legL E v first) ∧ r ≤ 1048576 ∧ Below w.heap.size w w' := by
  have hF0 := FB.start w E A n c
  obtain ⟨hbel0, hz0, r0, r1⟩ := hF0.parts
  have hcall := l14Fit_any E A n c v _ (hv.below hbel0 (Nat.le_refl _))
  cases hp : cutB E v
  · have e0 : legOk E v first = false := by simp [legOk, hp]
    have e1 : legL E v first = [] := by simp [legL, e0]
    rw [e0, e1]; clear e0 e1
    rw [hp] at hcall
    have HC := hide hcall; clear hcall
    go_enter Try.func25, Try.ntmps25
    go_wp2_with fail
    refine HC.out.mono ?_
    rintro e w1 ⟨rfl, hb1⟩
    have hF1 := hF0.step hb1
    go_wp2
    go_ret2
    exact ⟨_, 0, 0, rfl, (own_none _).less (Nat.le_of_lt hF1.2.1), by omega, (hF1.step ((Below.refl _ _).alloc (Nat.le_refl _) _)).1⟩
  obtain ⟨hf, hE⟩ := cut_fn hp
  rw [hp] at hcall
  have HC := hide hcall; clear hcall
  obtain ⟨N, rfl, fo⟩ := FnOk.of hf hv
  have hN := fo.hN
  have hw1 : IntKind.i64.wrap ((N : Int) - 1) = (N : Int) - 1 := IntWalk.i64_in _ (by omega)
  clear hf
  cases hi : inR first 0 ((N : Int) - 1)
  · have e0 : legOk N v first = false := by simp [legOk, hi]
    have e1 : legL N v first = [] := by simp [legL, e0]
    rw [e0, e1]; clear e0 e1 r0 r1
    go_enter Try.func25, Try.ntmps25
    go_wp2_with fail
    refine HC.out.mono ?_
    rintro e w1 ⟨rfl, hb1⟩
    have hF1 := hF0.step hb1
    obtain ⟨hbel1, hz1, r0, r1⟩ := hF1.parts
    go_wp2_with fail
    refine (l1In_any _ _ _ _).mono ?_
    rintro e w2 ⟨rfl, rfl⟩
    rw [hi]
    go_wp2
    go_ret2
    exact ⟨_, 0, 0, rfl, (own_none _).less (Nat.le_of_lt hF1.2.1), by omega, (hF1.step ((Below.refl _ _).alloc (Nat.le_refl _) _)).1⟩
  obtain ⟨F, rfl⟩ : ∃ F : Nat, first = (F : Int) := ⟨first.toNat, by have := inR_true hi; omega⟩
  have hfirst : F < N := by have := inR_true hi; omega
  have e0 : legOk N v F = true := by simp [legOk, hi, hp]
  have e1 : legL N v F = (loN v N F (N - 1)).1 := by simp [legL, e0]
  rw [e0, e1]; clear e0 e1 r0 r1 hp
  have Hi := hide hi; clear hi
  have n32 := fo.n32
  have hnp := hide fo.hn
  have HI := hide (fun j (hj : j + 1 ≤ N) => lo_inv v hN hfirst j hj)
  have f40 : F ≤ 40 := by omega
  obtain ⟨b, off, rfl, hbb, hc⟩ := hv.all_ fo.n0
  have HCC := hide hc; clear hc
  go_enter Try.func25, Try.ntmps25
  go_wp2_with fail
  refine HC.out.mono ?_
  rintro e w1 ⟨rfl, hb1⟩
  have hF1 := hF0.step hb1
  obtain ⟨hbel1, hz1, r0, r1⟩ := hF1.parts
  go_wp2_with fail
  refine (l1In_any _ _ _ _).mono ?_
  rintro e w2 ⟨rfl, rfl⟩
  rw [Hi.out]
  have hO := (own_one w1 (F : Int)).less (B' := w.heap.size + 1) hz1
  have hF2 := hF1.step ((Below.refl w1.heap.size w1).alloc (Nat.le_refl _) (.cells #[.int .i64 (F : Int)] 3))
  go_wp2
  try rw [shl_a F f40]
  clear r0 r1
  go_loopw [6, 7] (fun l t wr => ∃ (j : Nat) (B : Option Addr) (cr : Nat), j + 1 ≤ N ∧ l = .slice B (j + 1) cr ∧ t = .int .i64 ((loN v N F j).2 : Nat) ∧ Own wr (w.heap.size + 1) B (j + 1) cr (loN v N F j).1 ∧ FB w wr N (some ⟨b, off, none⟩) n c) (fun l _ _ => N - lenOf l)
  case atStart => exact ⟨0, _, 1, by omega, rfl, rfl, hO, hF2⟩
  clear hO hF2 hw1
  case round =>
    obtain ⟨j, B, cr, hj, rfl, rfl, hown, hFBr⟩ := hrel
    obtain ⟨hbelr, hzr, r0, r1⟩ := hFBr.parts
    obtain ⟨hs, hpop, hlen⟩ := HI.out j hj
    rw [← hnp.out] at hs
    by_cases hlt : j + 1 < N
    · have hpk := lo_pick (v := v) hN (s := (loN v N F j).2) (by rw [← hnp.out]; exact hs) hpop (by omega)
      have hgs1 := hide (show (loN v N F (j + 1)).1 = (loN v N F j).1 ++ [((pickKN v (loN v N F j).2 N : Nat) : Int)] from rfl)
      have hgs2 := hide (show (loN v N F (j + 1)).2 = insN (loN v N F j).2 (pickKN v (loN v N F j).2 N) from rfl)
      generalize (loN v N F j).1 = L at *
      generalize (loN v N F j).2 = s at *
      have hs10 : s < 1024 := by omega
      clear hpop hlen
      have HP := hide hpk; clear hpk
      have hltI : ((j : Int) + 1) < (N : Int) := by omega
      go_wp2
      clear r0 r1 hltI
      go_loopw [8, 9] (fun t i wi => ∃ e : Nat, e ≤ N ∧ i = .int .i64 e ∧ t = .int .i64 (pickK v s e) ∧ Own wi (w.heap.size + 1) B (j + 1) cr L ∧ FB w wi N (some ⟨b, off, none⟩) n c) (fun _ i _ => N - (intOf i).toNat)
      case atStart => exact ⟨0, Nat.zero_le _, rfl, rfl, hown, hFBr⟩
      case round =>
        obtain ⟨e, he, rfl, rfl, howni, hFBi⟩ := hrel
        obtain ⟨hbeli, hzi, r0, r1⟩ := hFBi.parts
        by_cases hle2 : e < N
        · have he40 : e ≤ 40 := by omega
          have hp := pickK_form v s e
          have hst := hide (show pickK v s (e + 1) = if (!hasB s e && betK v s e (pickK v s e)) = true then (e : Int) else pickK v s e from rfl)
          cases hh : hasB s e
          · rcases hp with hp | ⟨q, hq, hp⟩
            · have hs2 := hide (hst.out.trans (by rw [hp, hh]; rfl) : pickK v s (e + 1) = (e : Int))
              rw [hp]; clear hp
              go_wp2
              go_quiet (fail)
              go_wp2
              go_roundw
              case rel => exact ⟨e + 1, by omega, by go_num, by rw [hs2.out], howni, hFBi.drewN _⟩
              case measure => simp [intOf]; omega
            · have hb0 : betK v s e (q : Int) = decide (keyN v s e < keyN v s q) := by
                have h0 : ¬ ((q : Int) < 0) := by omega
                simp only [betK, h0, decide_false, Bool.false_or, Int.toNat_natCast]
              have hs2 := hide (hst.out.trans (by rw [hp, hh, hb0]; rfl) : pickK v s (e + 1) = if decide (keyN v s e < keyN v s q) = true then (e : Int) else (q : Int))
              rw [hp]; clear hp hb0
              have hqN : q < N := by omega
              have q40 : q ≤ 40 := by omega
              have hq0 : decide ((q : Int) < 0) = false := by simp
              have p1 := fo.ins hs hle2
              have p2' := fo.ins hs hqN
              have p3 := fo.p2 hle2
              have p4 := fo.p2 hqN
              have g1 := fo.bd p1
              have g2 := fo.bd p2'
              have g3 := fo.bd p3
              have g4 := fo.bd p4
              have hcr : ∀ j, j < n → wr.cell? ⟨b, off + j, none⟩ = some (.int .i64 (gv v j)) := fun j hj => (hbeli.cell (p := ⟨b, off + j, none⟩) hbb).trans (HCC.out j hj)
              have c1 := hcr _ p1
              have c2 := hcr _ p2'
              have c3 := hcr _ p3
              have c4 := hcr _ p4
              clear hcr
              have i1 : (0 : Int) ≤ ((insN s e : Nat) : Int) := by omega
              have i2 : ((insN s e : Nat) : Int) < (n : Int) := by omega
              have i3 : (0 : Int) ≤ ((insN s q : Nat) : Int) := by omega
              have i4 : ((insN s q : Nat) : Int) < (n : Int) := by omega
              have i5 : (0 : Int) ≤ ((p2 e : Nat) : Int) := by omega
              have i6 : ((p2 e : Nat) : Int) < (n : Int) := by omega
              have i7 : (0 : Int) ≤ ((p2 q : Nat) : Int) := by omega
              have i8 : ((p2 q : Nat) : Int) < (n : Int) := by omega
              have i9 : (0 : Int) ≤ (q : Int) := by omega
              have t1 : IntKind.i64.wrap (gv v (insN s e) - gv v (p2 e)) = keyN v s e := IntWalk.i64_in _ (by omega)
              have t2 : IntKind.i64.wrap (gv v (insN s q) - gv v (p2 q)) = keyN v s q := IntWalk.i64_in _ (by omega)
              by_cases hlt3 : keyN v s e < keyN v s q
              · have hs3 := hide (hs2.out.trans (by simp [hlt3]) : pickK v s (e + 1) = (e : Int))
                have hd3 : decide (keyN v s e < keyN v s q) = true := by simp [hlt3]
                clear hlt3
                go_wp2
                go_quiet (fail)
                clear t1 t2
                go_wp2
                go_roundw
                case rel => exact ⟨e + 1, by omega, by go_num, by rw [hs3.out], howni, hFBi.drewN _⟩
                case measure => simp [intOf]; omega
              · have hs3 := hide (hs2.out.trans (by simp [hlt3]) : pickK v s (e + 1) = (q : Int))
                have hd3 : decide (keyN v s e < keyN v s q) = false := by simpa using hlt3
                clear hlt3
                go_wp2
                go_quiet (fail)
                clear t1 t2
                go_wp2
                go_roundw
                case rel => exact ⟨e + 1, by omega, by go_num, by rw [hs3.out], howni, hFBi.drewN _⟩
                case measure => simp [intOf]; omega
          · have hs2 := hide (hst.out.trans (by rw [hh]; rfl) : pickK v s (e + 1) = pickK v s e)
            go_wp2
            go_quiet (fail)
            go_wp2
            go_roundw
            case rel => exact ⟨e + 1, by omega, by go_num, by rw [hs2.out], howni, hFBi.drewN _⟩
            case measure => simp [intOf]; omega
        · obtain rfl : e = N := by omega
          obtain ⟨hp1, hp2⟩ := HP.out
          rw [hp1]
          have hq40 : pickKN v s e ≤ 40 := by omega
          generalize pickKN v s e = q at *
          clear hp1 hs
          have hsz := hFBi.2.1
          go_wp2_with (refine wpl_app (by rfl) _ _ (by rfl) (w.heap.size + 1) B (j + 1) cr wr.heap.size L (q : Int) (by rfl) (by rfl) (howni.alloc _) (cell_new wr _) (by omega) (by simp; omega) ?_; intro g cap w4 hown4 hgrow hat hlt4)
          go_roundw
          case rel => exact ⟨j + 1, _, cap, by omega, rfl, by rw [hgs2.out], by rw [hgs1.out]; exact hown4, app_FB hFBi howni hgrow (Below.refl _ _) rfl⟩
          case measure => simp [lenOf]; omega
    · have hjN : j = N - 1 := by omega
      have HJ := hide (show (loN v N F j).1 = (loN v N F (N - 1)).1 by rw [hjN])
      have hltI : ¬ ((j : Int) + 1) < (N : Int) := by omega
      clear hjN
      go_wp2
      go_ret2
      exact ⟨B, j + 1, cr, rfl, by rw [← HJ.out]; exact hown.less (Nat.le_succ _), by omega, hbelr⟩
set_option maxHeartbeats 1000000 in
theorem implLegalOrder_any (E : Int) (A : Option Addr) (n c : Nat) (v : List Int) (first : Int) (w : World) (hv : Ints w A n v) :
    Calls Try.prog 26 #[.agg #[.int .i64 E, .slice A n c], .int .i64 first] w fun e w' => ∃ B r cr, e = .returned (.tuple #[.slice B r cr, .bool (legOk E v first)]) ∧ Own w' w.heap.size B r cr (legL E v first) ∧ r ≤ 1048576 ∧ Below w.heap.size w w' := by
  have hF0 := FB.start w E A n c
  obtain ⟨hbel0, hz0, r0, r1⟩ := hF0.parts
  have hcall := canCut_any E A n c v _ (hv.below hbel0 (Nat.le_refl _))
  cases hp : cutB E v
  · have e0 : legOk E v first = false := by simp [legOk, hp]
    have e1 : legL E v first = [] := by simp [legL, e0]
    rw [e0, e1]; clear e0 e1
    rw [hp] at hcall
    have HC := hide hcall; clear hcall
    go_enter Try.func26, Try.ntmps26
    go_wp2_with fail
    refine HC.out.mono ?_
    rintro e w1 ⟨rfl, hb1⟩
    go_wp2
    go_ret2
    exact ⟨none, 0, 0, rfl, own_nil _ _, by omega, (hF0.step hb1).1⟩
  obtain ⟨hf, hE⟩ := cut_fn hp
  rw [hp] at hcall
  have HC := hide hcall; clear hcall
  obtain ⟨N, rfl, fo⟩ := FnOk.of hf hv
  have hN := fo.hN
  clear hf
  cases hi : inR first 0 ((N : Int) - 1)
  · have e0 : legOk N v first = false := by simp [legOk, hi]
    have e1 : legL N v first = [] := by simp [legL, e0]
    rw [e0, e1]; clear e0 e1 r0 r1
    go_enter Try.func26, Try.ntmps26
    go_wp2_with fail
    refine HC.out.mono ?_
    rintro e w1 ⟨rfl, hb1⟩
    have hF1 := hF0.step hb1
    obtain ⟨hbel1, hz1, r0, r1⟩ := hF1.parts
    go_wp2_with fail
    refine (isElement_any _ _ _).mono ?_
    rintro e w2 ⟨rfl, rfl⟩
    rw [hi]
    go_wp2
    go_ret2
    exact ⟨none, 0, 0, rfl, own_nil _ _, by omega, hbel1⟩
  obtain ⟨F, rfl⟩ : ∃ F : Nat, first = (F : Int) := ⟨first.toNat, by have := inR_true hi; omega⟩
  have hfirst : F < N := by have := inR_true hi; omega
  have e0 : legOk N v F = true := by simp [legOk, hi, hp]
  have e1 : legL N v F = (loN v N F (N - 1)).1 := by simp [legL, e0]
  rw [e0, e1]; clear e0 e1 r0 r1 hp
  have Hi := hide hi; clear hi
  have HL := hide (fun W (h : Below w.heap.size w W) => legalOrder_any N A n c v F W (hv.below h (Nat.le_refl _)) fo hfirst)
  generalize (loN v N F (N - 1)).1 = L at *
  go_enter Try.func26, Try.ntmps26
  go_wp2_with fail
  refine HC.out.mono ?_
  rintro e w1 ⟨rfl, hb1⟩
  have hF1 := hF0.step hb1
  obtain ⟨hbel1, hz1, r0, r1⟩ := hF1.parts
  go_wp2_with fail
  refine (isElement_any _ _ _).mono ?_
  rintro e w2 ⟨rfl, rfl⟩
  rw [Hi.out]
  go_wp2_with fail
  refine (HL.out _ hbel1).mono ?_
  rintro e w3 ⟨B, cr, rfl, hown, hb3⟩
  go_wp2
  go_ret2
  exact ⟨B, N, cr, rfl, hown.less hbel1.size, by omega, (hF1.step hb3).1⟩
set_option maxHeartbeats 1000000 in
theorem pendantPair_any (E : Int) (A : Option Addr) (n c : Nat) (v : List Int) (w : World) (hv : Ints w A n v) :
    Calls Try.prog 24 #[.agg #[.int .i64 E, .slice A n c]] w fun e w' => e = .returned (.tuple #[.int .i64 (ppT E v), .int .i64 (ppU E v), .bool (cutB E v)]) ∧ Below w.heap.size w w' := by
  have hF0 := FB.start w E A n c
  obtain ⟨hbel0, hz0, r0, r1⟩ := hF0.parts
  have hcall := canCut_any E A n c v _ (hv.below hbel0 (Nat.le_refl _))
  cases hp : cutB E v
  · have e0 : ppT E v = 0 := by simp [ppT, hp]
    have e1 : ppU E v = 0 := by simp [ppU, hp]
    rw [e0, e1]; clear e0 e1
    rw [hp] at hcall
    have HC := hide hcall; clear hcall
    go_enter Try.func24, Try.ntmps24
    go_wp2_with fail
    refine HC.out.mono ?_
    rintro e w1 ⟨rfl, hb1⟩
    go_wp2
    go_ret3
    exact ⟨rfl, (hF0.step hb1).1⟩
  obtain ⟨hf, hE⟩ := cut_fn hp
  rw [hp] at hcall
  have HC := hide hcall; clear hcall
  obtain ⟨N, rfl, fo⟩ := FnOk.of hf hv
  have hN := fo.hN
  clear hf
  have e0 : ppT N v = gv (loN v N 0 (N - 1)).1 (N - 2) := by simp [ppT, hp]
  have e1 : ppU N v = gv (loN v N 0 (N - 1)).1 (N - 1) := by simp [ppU, hp]
  rw [e0, e1]; clear e0 e1 r0 r1 hp
  have HL := hide (fun W (h : Below w.heap.size w W) => legalOrder_any N A n c v 0 W (hv.below h (Nat.le_refl _)) fo (by omega))
  generalize (loN v N 0 (N - 1)).1 = L at *
  go_enter Try.func24, Try.ntmps24
  go_wp2_with fail
  refine HC.out.mono ?_
  rintro e w1 ⟨rfl, hb1⟩
  have hF1 := hF0.step hb1
  obtain ⟨hbel1, hz1, r0, r1⟩ := hF1.parts
  go_wp2_with fail
  refine (HL.out _ hbel1).mono ?_
  rintro e w3 ⟨B, cr, rfl, hown, hb3⟩
  obtain ⟨b, off, rfl, hbb, hc⟩ := hown.ints.all_ (by omega)
  have c1 := hc (N - 2) (by omega)
  have c2 := hc (N - 1) (by omega)
  clear hc
  have d1 : IntKind.i64.wrap ((N : Int) - 2) = ((N - 2 : Nat) : Int) := by rw [IntWalk.i64_in _ (by omega)]; omega
  have d2 : IntKind.i64.wrap ((N : Int) - 1) = ((N - 1 : Nat) : Int) := by rw [IntWalk.i64_in _ (by omega)]; omega
  have i1 : (0 : Int) ≤ ((N - 2 : Nat) : Int) := by omega
  have i2 : ((N - 2 : Nat) : Int) < (N : Int) := by omega
  have i3 : (0 : Int) ≤ ((N - 1 : Nat) : Int) := by omega
  have i4 : ((N - 1 : Nat) : Int) < (N : Int) := by omega
  clear r0 r1
  go_wp2
  go_quiet (fail)
  go_wp2
  go_ret3
  exact ⟨rfl, ((hF1.step hb3).drewN _).1⟩
set_option maxHeartbeats 1000000 in
theorem specPendantPair_any (E : Int) (A : Option Addr) (n c : Nat) (v : List Int) (w : World) (hv : Ints w A n v) :
    Calls Try.prog 23 #[.agg #[.int .i64 E, .slice A n c]] w fun e w' => e = .returned (.tuple #[.int .i64 (ppT E v), .int .i64 (ppU E v), .bool (cutB E v)]) ∧ Below w.heap.size w w' := by
  have hF0 := FB.start w E A n c
  obtain ⟨hbel0, hz0, r0, r1⟩ := hF0.parts
  have hcall := specLegalOrder_any E A n c v 0 _ (hv.below hbel0 (Nat.le_refl _))
  cases hp : cutB E v
  · have e0 : ppT E v = 0 := by simp [ppT, hp]
    have e1 : ppU E v = 0 := by simp [ppU, hp]
    have e2 : legOk E v 0 = false := by simp [legOk, hp]
    rw [e0, e1]; clear e0 e1
    rw [e2] at hcall
    have HC := hide hcall; clear hcall e2
    go_enter Try.func23, Try.ntmps23
    go_wp2_with fail
    refine HC.out.mono ?_
    rintro e w1 ⟨B, r, cr, rfl, hown, hr, hb1⟩
    go_wp2
    go_ret3
    exact ⟨rfl, (hF0.step hb1).1⟩
  obtain ⟨hf, hE⟩ := cut_fn hp
  obtain ⟨N, rfl, fo⟩ := FnOk.of hf hv
  have hN := fo.hN
  clear hf
  have e0 : ppT N v = gv (loN v N 0 (N - 1)).1 (N - 2) := by simp [ppT, hp]
  have e1 : ppU N v = gv (loN v N 0 (N - 1)).1 (N - 1) := by simp [ppU, hp]
  have e2 : legOk N v 0 = true := by simp [legOk, hp, inR]; omega
  have e3 : legL N v 0 = (loN v N 0 (N - 1)).1 := by simp [legL, e2]
  have hlen := (lo_inv v hN (first := 0) (by omega) (N - 1) (by omega)).2.2
  rw [e2, e3] at hcall
  have HC := hide hcall; clear hcall e2 e3
  rw [e0, e1]; clear e0 e1 r0 r1 hp
  generalize (loN v N 0 (N - 1)).1 = L at *
  have Hlen := hide hlen
  clear hlen
  go_enter Try.func23, Try.ntmps23
  go_wp2_with fail
  refine HC.out.mono ?_
  rintro e w1 ⟨B, r, cr, rfl, hown, hr, hb1⟩
  have hF1 := hF0.step hb1
  have hrN : r = N := by have := hown.len; have := Hlen.out; omega
  subst hrN
  obtain ⟨b, off, rfl, hbb, hc⟩ := hown.ints.all_ (by omega)
  have c1 := hc (r - 2) (by omega)
  have c2 := hc (r - 1) (by omega)
  clear hc
  have d1 : IntKind.i64.wrap ((r : Int) - 2) = ((r - 2 : Nat) : Int) := by rw [IntWalk.i64_in _ (by omega)]; omega
  have d2 : IntKind.i64.wrap ((r : Int) - 1) = ((r - 1 : Nat) : Int) := by rw [IntWalk.i64_in _ (by omega)]; omega
  have i1 : (0 : Int) ≤ ((r - 2 : Nat) : Int) := by omega
  have i2 : ((r - 2 : Nat) : Int) < (r : Int) := by omega
  have i3 : (0 : Int) ≤ ((r - 1 : Nat) : Int) := by omega
  have i4 : ((r - 1 : Nat) : Int) < (r : Int) := by omega
  go_wp2
  go_quiet (fail)
  go_wp2
  go_ret3
  exact ⟨rfl, (hF1.drewN _).1⟩
end Go.Proofs.Ytfmibekefllhjaa
