/-
  Walks: legal orders, the pendant pair.
-/
import Derived.Test.YtfmibekefllhjaaPend
import Derived.OneCell
namespace Go.Proofs.Ytfmibekefllhjaa
open Go.RowKit

def keyN (v : List Int) (s e : Nat) : Int := gv v (insN s e) - gv v (p2 e)
def betK (v : List Int) (s e : Nat) (b : Int) : Bool := decide (b < 0) || decide (keyN v s e < keyN v s b.toNat)
/-- The first of the elements below e, not in s, with the least key; -1: none. -/
def pickK (v : List Int) (s : Nat) : Nat → Int
  | 0 => -1
  | e + 1 => if (!hasB s e && betK v s e (pickK v s e)) = true then (e : Int) else pickK v s e
def pickKN (v : List Int) (s N : Nat) : Nat := (pickK v s N).toNat
theorem pickK_form (v : List Int) (s : Nat) : ∀ e, pickK v s e = -1 ∨ ∃ b : Nat, b < e ∧ pickK v s e = (b : Int)
  | 0 => .inl rfl
  | e + 1 => by
    unfold pickK
    split
    · exact .inr ⟨e, by omega, rfl⟩
    · rcases pickK_form v s e with h | ⟨b, hb, h⟩
      · exact .inl h
      · exact .inr ⟨b, by omega, h⟩
theorem pickK_some (v : List Int) (s : Nat) : ∀ e, (∃ j, j < e ∧ hasB s j = false) → ∃ b : Nat, b < e ∧ pickK v s e = (b : Int)
  | 0, h => by obtain ⟨j, hj, _⟩ := h; omega
  | e + 1, h => by
    unfold pickK
    split
    · exact ⟨e, by omega, rfl⟩
    · rename_i hn
      rcases pickK_form v s e with h1 | ⟨b, hb, h1⟩
      · exfalso
        obtain ⟨j, hj, hh⟩ := h
        by_cases he : j = e
        · subst he
          apply hn
          simp [hh, h1, betK]
        · obtain ⟨b, hb, h2⟩ := pickK_some v s e ⟨j, by omega, hh⟩
          omega
      · exact ⟨b, by omega, h1⟩
/-- The list and the set after j rounds. -/
def loN (v : List Int) (N first : Nat) : Nat → List Int × Nat
  | 0 => ([(first : Int)], p2 first)
  | j + 1 => ((loN v N first j).1 ++ [((pickKN v (loN v N first j).2 N : Nat) : Int)], insN (loN v N first j).2 (pickKN v (loN v N first j).2 N))
theorem lo_pick {v : List Int} {N s j : Nat} (hN : N ≤ 5) (hs : s < 2 ^ N) (hp : popN s ≤ j) (hj : j < N) : pickK v s N = ((pickKN v s N : Nat) : Int) ∧ pickKN v s N < N := by
  have h32 : (2 : Nat) ^ N ≤ 32 := Nat.pow_le_pow_right (by omega) hN
  obtain ⟨i, hi, hh⟩ := pop_room ⟨N, by omega⟩ ⟨s, by omega⟩ hs (show popN s < N by omega)
  obtain ⟨b, hb, h⟩ := pickK_some v s N ⟨i.val, hi, hh⟩
  unfold pickKN; rw [h]
  exact ⟨by simp, by simpa using hb⟩
theorem pop_one : ∀ k : Fin 5, popN (2 ^ k.val) = 1 := by decide +kernel
theorem lo_inv (v : List Int) {N first : Nat} (hN : N ≤ 5) (hfirst : first < N) : ∀ j, j + 1 ≤ N → (loN v N first j).2 < 2 ^ N ∧ popN (loN v N first j).2 ≤ j + 1 ∧ (loN v N first j).1.length = j + 1
  | 0, _ => ⟨Nat.pow_lt_pow_right (by omega) hfirst, by have := pop_one ⟨first, by omega⟩; simp only [loN, p2]; simp only at this; omega, rfl⟩
  | j + 1, hj => by
    obtain ⟨h1, h2, h3⟩ := lo_inv v hN hfirst j (by omega)
    obtain ⟨h4, h5⟩ := lo_pick (v := v) hN h1 h2 (by omega)
    have h32 : (2 : Nat) ^ N ≤ 32 := Nat.pow_le_pow_right (by omega) hN
    refine ⟨insN_lt h1 h5, ?_, by simp [loN, h3]⟩
    have := pop_ins ⟨(loN v N first j).2, by omega⟩ ⟨pickKN v (loN v N first j).2 N, by omega⟩
    simp only [loN]
    simp only at this
    omega
def legOk (E : Int) (v : List Int) (first : Int) : Bool := cutB E v && inR first 0 (E - 1)
def legL (E : Int) (v : List Int) (first : Int) : List Int := if legOk E v first then (loN v E.toNat first.toNat (E.toNat - 1)).1 else []
def ppT (E : Int) (v : List Int) : Int := if cutB E v then gv (loN v E.toNat 0 (E.toNat - 1)).1 (E.toNat - 2) else 0
def ppU (E : Int) (v : List Int) : Int := if cutB E v then gv (loN v E.toNat 0 (E.toNat - 1)).1 (E.toNat - 1) else 0
def lenOf (v : Value) : Nat := match v with | .slice _ r _ => r | _ => 0
theorem own_one (w : World) (y : Int) : Own (w.alloc (.cells #[.int .i64 y] 3)) w.heap.size (some ⟨w.heap.size, 0, none⟩) 1 1 [y] := by
  have h := World.ownsRow_lit (e := 3) (size := 1) w #[.int .i64 y] 1 (Nat.le_refl w.heap.size) (by simp [maxLen]) rfl
  exact h
theorem one_new (w : World) (y : Int) : One (w.alloc (.cells #[.int .i64 y] 3)) w.heap.size y := heap_alloc_new w _
theorem One.same {w w' : World} {b : Nat} {m : Int} (h : One w b m) (he : w'.heap[b]? = w.heap[b]?) : One w' b m := he.trans h

theorem own_at {w : World} {B n c : Nat} {A : Option Addr} {xs : List Int} {g : Addr} (h : Own w B A n c xs) (hA : A = some g) : ∃ b : Nat, g = ⟨b, 0, none⟩ ∧ B ≤ b := by
  rcases h.where_ with e | ⟨g', e, h1, _⟩
  · rw [e] at hA; cases hA
  · rw [e] at hA; injection hA with hA; exact ⟨g', hA.symm, h1⟩
theorem one_app {wr W w1 : World} {o : Obj} {A : Option Addr} {b : Nat} (hg : W.grownBy w1 (A.map (·.block))) (hW : W.heap = (wr.alloc o).heap) (hb : b < wr.heap.size) (hne : ∀ g, A = some g → g.block ≠ b) : w1.heap[b]? = wr.heap[b]? := by
  rw [hg.block b (by rw [hW]; simp; omega) (fun he => by
    cases A with
    | none => cases he
    | some g => simp at he; exact hne g rfl he.symm), hW]
  exact Below.heap_alloc wr o b hb
theorem fb_set {w wr : World} {E : Int} {A : Option Addr} {n c : Nat} (h : FB w wr E A n c) {p : Addr} (hp : w.heap.size < p.block) (u : Value) : FB w (wr.setCell p u) E A n c := by
  have hb := (Below.refl (w.heap.size + 1) wr).setCell (p := p) hp u
  obtain ⟨h1, h2, h3, h4⟩ := h
  refine ⟨h1.setCell (Nat.le_of_lt hp) u, Nat.lt_of_lt_of_le h2 hb.size, ?_, ?_⟩
  · exact (hb.cell (p := ⟨w.heap.size, 0, none⟩) (Nat.lt_succ_self _)).trans h3
  · exact (hb.cell (p := ⟨w.heap.size, 1, none⟩) (Nat.lt_succ_self _)).trans h4
set_option maxHeartbeats 1000000 in
theorem keyFn_any (N : Nat) (A : Option Addr) (n c : Nat) (v : List Int) (s e bf bs : Nat) (w : World) (hv : Ints w A n v) (fo : FnOk N n v) (hs : s < n) (he : e < N)
    (_f0 : w.cell? ⟨bf, 0, none⟩ = some (.int .i64 (N : Int))) (f1 : w.cell? ⟨bf, 1, none⟩ = some (.slice A n c)) (hb : w.cell? ⟨bs, 0, none⟩ = some (.int .i64 (s : Int))) :
    Calls Try.prog 70 #[.int .i64 (e : Int), .pointer (some ⟨bf, 0, none⟩), .pointer (some ⟨bs, 0, none⟩)] w fun r w' => r = .returned (.int .i64 (keyN v s e)) ∧ ∃ m, w' = w.drewN m := by
  obtain ⟨b, off, rfl, hbb, hc⟩ := hv.all_ fo.n0
  have hN := fo.hN
  have n32 := fo.n32
  have h1 := fo.ins hs he
  have h2 := fo.p2 he
  have g1 := fo.bd h1
  have g2 := fo.bd h2
  have s10 : s < 1024 := by omega
  have e40 : e ≤ 40 := by omega
  have x1 := hc _ h1
  have x2 := hc _ h2
  have i1 : (0 : Int) ≤ ((insN s e : Nat) : Int) := by omega
  have i2 : ((insN s e : Nat) : Int) < (n : Int) := by omega
  have i3 : (0 : Int) ≤ ((p2 e : Nat) : Int) := by omega
  have i4 : ((p2 e : Nat) : Int) < (n : Int) := by omega
  have t1 : IntKind.i64.wrap (gv v (insN s e) - gv v (p2 e)) = keyN v s e := IntWalk.i64_in _ (by omega)
  clear hc
  go_enter Try.func70, Try.ntmps70
  go_wp2
  go_quiet (fail)
  go_wp2
  go_ret
  exact ⟨rfl, _, rfl⟩
set_option maxHeartbeats 4000000 in
theorem legalOrder_any (N : Nat) (A : Option Addr) (n c : Nat) (v : List Int) (first : Nat) (w : World) (hv : Ints w A n v) (fo : FnOk N n v) (hfirst : first < N) :
    Calls Try.prog 54 #[.agg #[.int .i64 (N : Int), .slice A n c], .int .i64 (first : Int)] w fun e w' => ∃ B cr, e = .returned (.slice B N cr) ∧ Own w' w.heap.size B N cr (loN v N first (N - 1)).1 ∧ Below w.heap.size w w' := by
  have hN := fo.hN
  have n32 := fo.n32
  have hnp := hide fo.hn
  have HI := hide (fun j (hj : j + 1 ≤ N) => lo_inv v hN hfirst j hj)
  have f40 : first ≤ 40 := by omega
  have hmf : ∀ (fn : Fn) (first cap : Array Value) (w : World), (Instr.makeFunc fn first cap).run Try.prog w = .ok (.func fn first cap) w := fun _ _ _ _ => rfl
  have hF0 := FB.start w N A n c
  have z0 : (w.alloc (.cells #[.int .i64 (N : Int), .slice A n c] 27)).heap.size = w.heap.size + 1 := by simp
  have hO := own_one (w.alloc (.cells #[.int .i64 (N : Int), .slice A n c] 27)) (first : Int)
  have hS := one_new ((w.alloc (.cells #[.int .i64 (N : Int), .slice A n c] 27)).alloc (.cells #[.int .i64 (first : Int)] 3)) ((p2 first : Nat) : Int)
  have hF1 := (hF0.step ((Below.refl _ _).alloc (Nat.le_refl _) (.cells #[.int .i64 (first : Int)] 3))).step ((Below.refl _ _).alloc (Nat.le_refl _) (.cells #[.int .i64 ((p2 first : Nat) : Int)] 3))
  rw [z0] at hO
  have z1 : ((w.alloc (.cells #[.int .i64 (N : Int), .slice A n c] 27)).alloc (.cells #[.int .i64 (first : Int)] 3)).heap.size = w.heap.size + 2 := by simp
  rw [z1] at hS
  clear z0 z1 hF0
  go_enter Try.func54, Try.ntmps54
  go_wp2
  rw [shl_a first f40]
  go_loopw [5] (fun l wr => ∃ (j : Nat) (B : Option Addr) (cr : Nat), j + 1 ≤ N ∧ l = .slice B (j + 1) cr ∧ Own wr (w.heap.size + 1) B (j + 1) cr (loN v N first j).1 ∧ One wr (w.heap.size + 2) ((loN v N first j).2 : Nat) ∧ (∀ g, B = some ⟨g, 0, none⟩ → g ≠ w.heap.size + 2) ∧ FB w wr N A n c) (fun l _ => N - lenOf l)
  case atStart => exact ⟨0, _, 1, by omega, rfl, hO.alloc _, hS, (fun g hg => by injection hg with hg; injection hg with hg _; omega), hF1⟩
  clear hO hS hF1
  case round =>
    obtain ⟨j, B, cr, hj, rfl, hown, hone, hne, hFBr⟩ := hrel
    obtain ⟨hbelr, hzr, r0, r1⟩ := hFBr.parts
    obtain ⟨hs, hpop, hlen⟩ := HI.out j hj
    rw [← hnp.out] at hs
    have Hne := hide hne; clear hne
    by_cases hlt : j + 1 < N
    · have hpk := lo_pick (v := v) hN (s := (loN v N first j).2) (by rw [← hnp.out]; exact hs) hpop (by omega)
      have hgs1 := hide (show (loN v N first (j + 1)).1 = (loN v N first j).1 ++ [((pickKN v (loN v N first j).2 N : Nat) : Int)] from rfl)
      have hgs2 := hide (show (loN v N first (j + 1)).2 = insN (loN v N first j).2 (pickKN v (loN v N first j).2 N) from rfl)
      generalize (loN v N first j).1 = L at *
      generalize (loN v N first j).2 = s at *
      have hs10 : s < 1024 := by omega
      clear hpop hlen
      have HP := hide hpk; clear hpk
      have hltI : ((j : Int) + 1) < (N : Int) := by omega
      go_wp2
      clear r0 r1 hltI
      go_loopw [8, 23] (fun t i wi => ∃ e : Nat, e ≤ N ∧ i = .int .i64 e ∧ t = .int .i64 (pickK v s e) ∧ Own wi (w.heap.size + 1) B (j + 1) cr L ∧ One wi (w.heap.size + 2) (s : Nat) ∧ FB w wi N A n c) (fun _ i _ => N - (intOf i).toNat)
      case atStart => exact ⟨0, Nat.zero_le _, rfl, rfl, hown, hone, hFBr⟩
      case round =>
        obtain ⟨e, he, rfl, rfl, howni, honei, hFBi⟩ := hrel
        obtain ⟨hbeli, hzi, r0, r1⟩ := hFBi.parts
        have m0 := honei.cell
        by_cases hle2 : e < N
        · have HG := hide (fun (q : Nat) (W : World) (hW : FB w W N A n c) (h1 : One W (w.heap.size + 2) (s : Nat)) (hq : q < N) => keyFn_any N A n c v s q w.heap.size (w.heap.size + 2) W (hv.below hW.1 (Nat.le_refl _)) fo hs hq hW.2.2.1 hW.2.2.2 h1.cell)
          have he40 : e ≤ 40 := by omega
          have hp := pickK_form v s e
          have hst := hide (show pickK v s (e + 1) = if (!hasB s e && betK v s e (pickK v s e)) = true then (e : Int) else pickK v s e from rfl)
          cases hh : hasB s e
          · rcases hp with hp | ⟨q, hq, hp⟩
            · have hs2 := hide (hst.out.trans (by rw [hp, hh]; rfl) : pickK v s (e + 1) = (e : Int))
              rw [hp]; clear hp
              go_wp2
              go_roundw
              case rel => exact ⟨e + 1, by omega, by go_num, by rw [hs2.out], howni, honei, hFBi⟩
              case measure => simp [intOf]; omega
            · have hb0 : betK v s e (q : Int) = decide (keyN v s e < keyN v s q) := by
                have h0 : ¬ ((q : Int) < 0) := by omega
                simp only [betK, h0, decide_false, Bool.false_or, Int.toNat_natCast]
              have hs2 := hide (hst.out.trans (by rw [hp, hh, hb0]; rfl) : pickK v s (e + 1) = if decide (keyN v s e < keyN v s q) = true then (e : Int) else (q : Int))
              rw [hp]; clear hp hb0
              have hqN : q < N := by omega
              have hq0 : decide ((q : Int) < 0) = false := by simp
              have h1c := hide (HG.out e _ hFBi honei hle2)
              by_cases hlt3 : keyN v s e < keyN v s q
              · have hs3 := hide (hs2.out.trans (by simp [hlt3]) : pickK v s (e + 1) = (e : Int))
                have hd3 : decide (keyN v s e < keyN v s q) = true := by simp [hlt3]
                clear hlt3
                go_wp2_with fail
                refine h1c.out.mono ?_
                rintro r w1 ⟨rfl, m, rfl⟩
                have hFB1 := hFBi.drewN m
                have ho1 := honei.below (below_drewN (Below.refl wr.heap.size wr) m) honei.lt
                go_wp2_with fail
                refine (HG.out q _ hFB1 ho1 hqN).mono ?_
                rintro r w2 ⟨rfl, m2, rfl⟩
                have ho2 := ho1.below (below_drewN (Below.refl _ (wr.drewN m)) m2) ho1.lt
                go_wp2
                go_roundw
                case rel => exact ⟨e + 1, by omega, by go_num, by rw [hs3.out], howni.below (below_drewN (Below.refl _ _) _) (Nat.le_refl _), honei.below (below_drewN (Below.refl wr.heap.size wr) _) honei.lt, hFBi.drewN _⟩
                case measure => simp [intOf]; omega
              · have hs3 := hide (hs2.out.trans (by simp [hlt3]) : pickK v s (e + 1) = (q : Int))
                have hd3 : decide (keyN v s e < keyN v s q) = false := by simpa using hlt3
                clear hlt3
                go_wp2_with fail
                refine h1c.out.mono ?_
                rintro r w1 ⟨rfl, m, rfl⟩
                have hFB1 := hFBi.drewN m
                have ho1 := honei.below (below_drewN (Below.refl wr.heap.size wr) m) honei.lt
                go_wp2_with fail
                refine (HG.out q _ hFB1 ho1 hqN).mono ?_
                rintro r w2 ⟨rfl, m2, rfl⟩
                have ho2 := ho1.below (below_drewN (Below.refl _ (wr.drewN m)) m2) ho1.lt
                go_wp2
                go_roundw
                case rel => exact ⟨e + 1, by omega, by go_num, by rw [hs3.out], howni.below (below_drewN (Below.refl _ _) _) (Nat.le_refl _), honei.below (below_drewN (Below.refl wr.heap.size wr) _) honei.lt, hFBi.drewN _⟩
                case measure => simp [intOf]; omega
          · have hs2 := hide (hst.out.trans (by rw [hh]; rfl) : pickK v s (e + 1) = pickK v s e)
            go_wp2
            go_roundw
            case rel => exact ⟨e + 1, by omega, by go_num, by rw [hs2.out], howni, honei, hFBi⟩
            case measure => simp [intOf]; omega
        · obtain rfl : e = N := by omega
          obtain ⟨hp1, hp2⟩ := HP.out
          rw [hp1]
          have hq40 : pickKN v s e ≤ 40 := by omega
          generalize pickKN v s e = q at *
          clear hp1 hs
          have hsz := hFBi.2.1
          have hzs := honei.lt
          go_wp2_with (refine wpl_app (by rfl) _ _ (by rfl) (w.heap.size + 1) B (j + 1) cr wr.heap.size L (q : Int) (by rfl) (by rfl) (howni.alloc _) (cell_new wr _) (by omega) (by simp; omega) ?_; intro g cap w4 hown4 hgrow hat hlt4; have hbl := one_app (b := w.heap.size + 2) hgrow rfl hzs (fun g' hg' => by obtain ⟨gb, h1, _⟩ := own_at howni hg'; rw [h1] at hg' ⊢; exact Hne.out gb hg'); have ho4 := honei.same hbl; have n0 := ho4.cell; have n1 := ho4.frozen)
          have hg2 : g ≠ w.heap.size + 2 := by
            rcases hat with h | h
            · exact Hne.out g h
            · simp at h; omega
          go_roundw
          case rel => exact ⟨j + 1, _, cap, by omega, rfl, by rw [hgs1.out]; exact hown4.far (fun g' hg' => by injection hg' with hg'; injection hg' with hg' _; subst hg'; exact hg2) _, by rw [hgs2.out]; exact ho4.set_ _, (fun g' hg' => by injection hg' with hg'; injection hg' with hg' _; subst hg'; exact hg2), fb_set (app_FB hFBi howni hgrow (Below.refl _ _) rfl) (by simp; omega) _⟩
          case measure => simp [lenOf]; omega
    · have hjN : j = N - 1 := by omega
      have HJ := hide (show (loN v N first j).1 = (loN v N first (N - 1)).1 by rw [hjN])
      have hN1 := hide (show j + 1 = N by omega)
      have hltI : ¬ ((j : Int) + 1) < (N : Int) := by omega
      clear hjN
      go_wp2
      go_ret
      exact ⟨B, cr, by rw [← hN1.out]; rfl, by have h := hown.less (Nat.le_succ w.heap.size); rw [HJ.out, hN1.out] at h; exact h, hbelr⟩
end Go.Proofs.Ytfmibekefllhjaa
