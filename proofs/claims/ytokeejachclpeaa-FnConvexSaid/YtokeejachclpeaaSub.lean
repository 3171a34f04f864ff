/-
  Walks: is a function submodular.
-/
import Derived.Test.YtokeejachclpeaaGap
namespace Go.Proofs.Ytokeejachclpeaa
open Go.RowKit

/-- No triple of the list exceeds. -/
def okL (v : List Int) (l : List T3) : Bool := l.all fun t => decide (excN v t.1 t.2.1 t.2.2 ≤ 0)
theorem okL_snoc (v : List Int) (l : List T3) (s i k : Nat) : okL v (l ++ [(s, i, k)]) = (okL v l && decide (excN v s i k ≤ 0)) := by
  unfold okL; simp
theorem okL_no {v : List Int} {N n s i k : Nat} (hs : s < n) (h1 : i < k) (h2 : k < N) (h3 : offB s i k = true) (he : ¬ excN v s i k ≤ 0) : okL v (allP N n) = false := by
  unfold okL
  rw [List.all_eq_false]
  exact ⟨(s, i, k), mem_allP.2 ⟨hs, h1, h2, h3⟩, by simpa using he⟩
def subB (E : Int) (v : List Int) : Bool := isFn E v && okL v (allP E.toNat v.length)
/-- A block of one row. -/
def OneS (w : World) (b : Nat) (V : Value) : Prop := w.heap[b]? = some (.cells #[V] 24 (0, 0))
theorem OneS.cell {w : World} {b : Nat} {V : Value} (h : OneS w b V) : w.cell? ⟨b, 0, none⟩ = some V := by
  unfold OneS at h; simp [World.cell?, h]
theorem OneS.frozen {w : World} {b : Nat} {V : Value} (h : OneS w b V) : w.frozen? ⟨b, 0, none⟩ = false := frozen_of_row w b 0 _ _ h
theorem OneS.lt {w : World} {b : Nat} {V : Value} (h : OneS w b V) : b < w.heap.size := World.block_lt_of_cell? _ _ h.cell
theorem OneS.set_ {w : World} {b : Nat} {V : Value} (h : OneS w b V) (u : Value) : OneS (w.setCell ⟨b, 0, none⟩ u) b u := by
  unfold OneS at *
  simp [World.setCell, Array.getElem?_modify, h]
theorem OneS.below {w w' : World} {b B : Nat} {V : Value} (h : OneS w b V) (hb : Below B w w') (hB : b < B) : OneS w' b V := (hb.block b hB).trans h

set_option maxHeartbeats 400000 in
theorem violFn_ok (E : Int) (A : Option Addr) (n c : Nat) (v : List Int) (s i k bo bf : Nat) (w : World) (hv : Ints w A n v) (hf : isFn E v = true) (hs : s < n) (hi : (i : Int) < E) (hk : (k : Int) < E)
    (ho : OneS w bo (.slice none 0 0)) (f0 : w.cell? ⟨bf, 0, none⟩ = some (.int .i64 E)) (f1 : w.cell? ⟨bf, 1, none⟩ = some (.slice A n c)) (hx : excN v s i k ≤ 0) :
    Calls Try.prog 135 #[.int .i64 s, .int .i64 i, .int .i64 k, .pointer (some ⟨bf, 0, none⟩), .pointer (some ⟨bo, 0, none⟩)] w fun e w' => e = .returned (.bool true) ∧ Below w.heap.size w w' := by
  go_enter Try.func135, Try.ntmps135
  go_wp2_with fail
  refine (excess_any E A n c v s i k _ hv hf hs hi hk).mono ?_
  rintro e w1 ⟨rfl, hb1⟩
  have m1 := (ho.below hb1 ho.lt).cell
  go_wp2
  go_ret
  exact ⟨rfl, hb1⟩
set_option maxHeartbeats 400000 in
theorem violFn_no (E : Int) (A : Option Addr) (n c : Nat) (v : List Int) (s i k bo bf : Nat) (w : World) (hv : Ints w A n v) (hf : isFn E v = true) (hs : s < n) (hi : (i : Int) < E) (hk : (k : Int) < E)
    (ho : OneS w bo (.slice none 0 0)) (f0 : w.cell? ⟨bf, 0, none⟩ = some (.int .i64 E)) (f1 : w.cell? ⟨bf, 1, none⟩ = some (.slice A n c)) (hx : ¬ excN v s i k ≤ 0) :
    Calls Try.prog 135 #[.int .i64 s, .int .i64 i, .int .i64 k, .pointer (some ⟨bf, 0, none⟩), .pointer (some ⟨bo, 0, none⟩)] w fun e w' => e = .returned (.bool false) ∧ w.grownBy w' (some bo) ∧ ∃ g, w'.cell? ⟨bo, 0, none⟩ = some (.slice (some g) 3 3) := by
  have hx' : 0 < excN v s i k := by omega
  have hlt := ho.lt
  go_enter Try.func135, Try.ntmps135
  go_wp2_with fail
  refine (excess_any E A n c v s i k _ hv hf hs hi hk).mono ?_
  rintro e w1 ⟨rfl, hb1⟩
  have h1 := ho.below hb1 hlt
  have m1 := h1.cell
  have mf := h1.frozen
  have hlt1 := h1.lt
  go_wp2
  go_ret
  have h2 := h1.set_ (.slice (some ⟨w1.heap.size, 0, none⟩) 3 3)
  have hg2 := grown_set2 (k := 0) (grown_of_below hb1 (some bo)) (.slice (some ⟨w1.heap.size, 0, none⟩) 3 3)
  exact ⟨rfl, grown_trans2 hg2 (grown_of_below ((Below.refl _ _).alloc (Nat.le_refl _) _) _), _, (h2.below ((Below.refl _ _).alloc (Nat.le_refl _) _) h2.lt).cell⟩
set_option maxHeartbeats 1000000 in
theorem visitViol_any (E : Int) (A : Option Addr) (n c : Nat) (v : List Int) (bo bf : Nat) (w : World) (hv : Ints w A n v) (hf : isFn E v = true)
    (hm : OneS w bo (.slice none 0 0)) (f0 : w.cell? ⟨bf, 0, none⟩ = some (.int .i64 E)) (f1 : w.cell? ⟨bf, 1, none⟩ = some (.slice A n c)) :
    Calls Try.prog 134 #[.agg #[.int .i64 E, .slice A n c], .func (.func 135) #[] #[.pointer (some ⟨bf, 0, none⟩), .pointer (some ⟨bo, 0, none⟩)]] w fun e w' => e = .returned (.tuple #[]) ∧
      ((okL v (allP E.toNat n) = true ∧ Below w.heap.size w w') ∨ (okL v (allP E.toNat n) = false ∧ w.grownBy w' (some bo) ∧ ∃ g, w'.cell? ⟨bo, 0, none⟩ = some (.slice (some g) 3 3))) := by
  have Hf := hide hf
  obtain ⟨N, rfl, fo⟩ := FnOk.of hf hv
  clear hf
  have hN := fo.hN
  have n32 := fo.n32
  have hbm := hm.lt
  have hbf := World.block_lt_of_cell? _ _ f0
  rw [Int.toNat_natCast]
  go_enter Try.func134, Try.ntmps134
  go_wp2
  go_loopw [10] (fun t wr => ∃ s : Nat, s ≤ n ∧ t = .int .i64 s ∧ okL v (allP N s) = true ∧ FB w wr N A n c) (fun t _ => n - (intOf t).toNat)
  case atStart => exact ⟨0, Nat.zero_le _, rfl, rfl, FB.start w N A n c⟩
  case round =>
    obtain ⟨s, hs, rfl, hall, hFBo⟩ := hrel
    obtain ⟨hg, hz, r0, r1⟩ := hFBo.parts
    have Hall := hide hall; clear hall
    by_cases hlt : s < n
    · have hs10 : s < 1024 := by omega
      go_wp2
      clear r0 r1
      go_loopw [15] (fun t wr => ∃ i : Nat, i ≤ N ∧ t = .int .i64 i ∧ okL v (allP N s ++ colP N s i) = true ∧ FB w wr N A n c) (fun t _ => N - (intOf t).toNat)
      case atStart => exact ⟨0, Nat.zero_le _, rfl, by simpa [colP] using Hall.out, hFBo⟩
      case round =>
        obtain ⟨i, hi, rfl, halli, hFBi⟩ := hrel
        obtain ⟨hgi, hzi, r0, r1⟩ := hFBi.parts
        have Halli := hide halli; clear halli
        by_cases hlti : i < N
        · go_wp2
          clear r0 r1
          go_loopw [6] (fun t wr => ∃ k : Nat, i < k ∧ k ≤ N ∧ t = .int .i64 k ∧ okL v (allP N s ++ colP N s i ++ rowP s i k) = true ∧ FB w wr N A n c) (fun t _ => N - (intOf t).toNat)
          case atStart => exact ⟨i + 1, by omega, by omega, by go_num, by rw [rowP_start, List.append_nil]; exact Halli.out, hFBi⟩
          case round =>
            obtain ⟨k, hk1, hk, rfl, hallk, hFBk⟩ := hrel
            obtain ⟨hgk, hzk, r0, r1⟩ := hFBk.parts
            have Hallk := hide hallk; clear hallk
            by_cases hltk : k < N
            · have hsn := hide (rowP_snoc (s := s) hk1)
              cases h1 : hasB s i
              · cases h2 : hasB s k
                · have e0 := (hgk.cell (p := ⟨bf, 0, none⟩) hbf).trans f0
                  have e1 := (hgk.cell (p := ⟨bf, 1, none⟩) hbf).trans f1
                  by_cases hx : excN v s i k ≤ 0
                  · have HG := hide (violFn_ok N A n c v s i k bo bf wr (hv.below hgk (Nat.le_refl _)) Hf.out hlt (by omega) (by omega) (hm.below hgk hbm) e0 e1 hx)
                    have hnx := hide (show okL v (allP N s ++ colP N s i ++ rowP s i (k + 1)) = true by rw [hsn.out, show offB s i k = true by simp [offB, h1, h2], if_pos rfl, ← List.append_assoc, okL_snoc, Hallk.out]; simpa using hx)
                    clear e0 e1
                    go_wp2_with fail
                    refine HG.out.mono ?_
                    rintro e w2 ⟨rfl, hb2⟩
                    go_wp2
                    go_roundw
                    case rel => exact ⟨k + 1, by omega, by omega, by go_num, hnx.out, hFBk.step hb2⟩
                    case measure => simp [intOf]; omega
                  · have HG := hide (violFn_no N A n c v s i k bo bf wr (hv.below hgk (Nat.le_refl _)) Hf.out hlt (by omega) (by omega) (hm.below hgk hbm) e0 e1 hx)
                    have hno := hide (okL_no (N := N) hlt hk1 hltk (show offB s i k = true by simp [offB, h1, h2]) hx)
                    clear e0 e1
                    go_wp2_with fail
                    refine HG.out.mono ?_
                    rintro e w2 ⟨rfl, hg2, hc2⟩
                    go_wp2
                    refine bodyPost_ret (results_none rfl _ _ _) rfl ?_
                    exact ⟨rfl, .inr ⟨hno.out, grown_trans2 (grown_of_below hgk _) hg2, hc2⟩⟩
                · have hnx := hide (show okL v (allP N s ++ colP N s i ++ rowP s i (k + 1)) = true by rw [hsn.out, show offB s i k = false by simp [offB, h2]]; simpa using Hallk.out)
                  go_wp2
                  go_roundw
                  case rel => exact ⟨k + 1, by omega, by omega, by go_num, hnx.out, hFBk⟩
                  case measure => simp [intOf]; omega
              · have hnx := hide (show okL v (allP N s ++ colP N s i ++ rowP s i (k + 1)) = true by rw [hsn.out, show offB s i k = false by simp [offB, h1]]; simpa using Hallk.out)
                go_wp2
                go_roundw
                case rel => exact ⟨k + 1, by omega, by omega, by go_num, hnx.out, hFBk⟩
                case measure => simp [intOf]; omega
            · obtain rfl : k = N := by omega
              have hnx := hide (show okL v (allP k s ++ colP k s (i + 1)) = true by rw [colP_snoc, ← List.append_assoc]; exact Hallk.out)
              go_wp2
              go_roundw
              case rel => exact ⟨i + 1, by omega, by go_num, hnx.out, hFBk⟩
              case measure => simp [intOf]; omega
        · obtain rfl : i = N := by omega
          have hnx := hide (show okL v (allP i (s + 1)) = true by rw [allP_snoc]; exact Halli.out)
          go_wp2
          go_roundw
          case rel => exact ⟨s + 1, by omega, by go_num, hnx.out, hFBi⟩
          case measure => simp [intOf]; omega
    · obtain rfl : s = n := by omega
      go_wp2
      go_end0
      exact ⟨rfl, .inl ⟨Hall.out, hg⟩⟩
def violB (E : Int) (v : List Int) : Bool := isFn E v && !okL v (allP E.toNat v.length)
theorem violationOf_any (E : Int) (A : Option Addr) (n c : Nat) (v : List Int) (w : World) (hv : Ints w A n v) :
    Calls Try.prog 12 #[.agg #[.int .i64 E, .slice A n c]] w fun e w' => (∃ V : Value, e = .returned (.tuple #[V, .bool (violB E v)])) ∧ Below w.heap.size w w' := by
  cases hf : isFn E v
  · have e0 : violB E v = false := by simp [violB, hf]
    rw [e0]; clear e0
    go_enter Try.func12, Try.ntmps12
    go_wp2_with fail
    refine (isFunction_any _ _ _ _ v _ (hv.alloc _)).mono ?_
    rintro e w1 ⟨rfl, hb1⟩
    rw [hf]
    go_wp2
    go_ret2
    exact ⟨⟨_, rfl⟩, ((FB.start w E A n c).step hb1).1⟩
  · have Hf := hide hf
    have hvl := hv.len
    have e0 : violB E v = !okL v (allP E.toNat n) := by simp [violB, hf, hvl]
    rw [e0]; clear e0 hf hvl
    have hmf : ∀ (fn : Fn) (first cap : Array Value) (w : World), (Instr.makeFunc fn first cap).run Try.prog w = .ok (.func fn first cap) w := fun _ _ _ _ => rfl
    go_enter Try.func12, Try.ntmps12
    go_wp2_with fail
    refine (isFunction_any _ _ _ _ v _ (hv.alloc _)).mono ?_
    rintro e w1 ⟨rfl, hb1⟩
    have hFB := (FB.start w E A n c).step hb1
    obtain ⟨hbel, hz, r0, r1⟩ := hFB.parts
    rw [Hf.out]
    have hB1 := (Below.refl w1.heap.size w1).alloc (Nat.le_refl _) (.cells #[.slice none 0 0] 24)
    have hG := visitViol_any E A n c v w1.heap.size w.heap.size (w1.alloc (.cells #[.slice none 0 0] 24)) ((hv.below hbel (Nat.le_refl _)).alloc _) Hf.out (heap_alloc_new w1 _) ((hB1.cell (p := ⟨w.heap.size, 0, none⟩) hz).trans r0) ((hB1.cell (p := ⟨w.heap.size, 1, none⟩) hz).trans r1)
    have HG := hide hG; clear hG
    go_wp2_with fail
    refine HG.out.mono ?_
    rintro e w2 ⟨rfl, ⟨hok, hb2⟩ | ⟨hok, hg2, g, hc2⟩⟩
    · have Hok := hide hok; clear hok
      have m2 := (hb2.cell (p := ⟨w1.heap.size, 0, none⟩) (by simp)).trans (OneS.cell (heap_alloc_new w1 _))
      go_wp2
      go_quiet (fail)
      go_wp2
      go_ret2
      exact ⟨⟨_, by rw [Hok.out]; rfl⟩, below_drewN (hbel.trans ((hB1.trans (hb2.mono (by simp))).mono hbel.size)) _⟩
    · have Hok := hide hok; clear hok
      go_wp2
      go_quiet (fail)
      go_wp2
      go_ret2
      exact ⟨⟨_, by rw [Hok.out]; rfl⟩, below_drewN ((hbel.alloc hbel.size _).grown hg2 (by simp; have := hbel.size; omega) (fun k hk => by injection hk with hk; have := hbel.size; omega)) _⟩
theorem isSubmodular_any (E : Int) (A : Option Addr) (n c : Nat) (v : List Int) (w : World) (hv : Ints w A n v) :
    Calls Try.prog 14 #[.agg #[.int .i64 E, .slice A n c]] w fun e w' => e = .returned (.bool (subB E v)) ∧ Below w.heap.size w w' := by
  have hF0 := FB.start w E A n c
  obtain ⟨hbel0, hz0, r0, r1⟩ := hF0.parts
  have HV := hide (violationOf_any E A n c v _ (hv.below hbel0 (Nat.le_refl _)))
  have hq : ∀ b, violB E v = b → isFn E v = true → subB E v = !b := by rintro b rfl hf; simp [violB, subB, hf]
  have hn : isFn E v = false → subB E v = false := by intro hf; simp [subB, hf]
  cases hf : isFn E v
  · have e0 := hide (hn hf)
    clear hq hn
    go_enter Try.func14, Try.ntmps14
    go_wp2_with fail
    refine HV.out.mono ?_
    rintro e w1 ⟨⟨V, rfl⟩, hb1⟩
    have hF1 := hF0.step hb1
    clear r0 r1
    obtain ⟨hbel1, hz1, r0, r1⟩ := hF1.parts
    go_wp2_with fail
    refine (isFunction_any _ _ _ _ v _ (hv.below hbel1 (Nat.le_refl _))).mono ?_
    rintro e w2 ⟨rfl, hb2⟩
    rw [hf]
    go_wp2
    go_ret
    exact ⟨by rw [e0.out]; rfl, (hF1.step hb2).1⟩
  cases hv2 : violB E v
  all_goals
    have e0 := hide (hq _ hv2 hf)
    clear hq hn
    rw [hv2] at HV
    go_enter Try.func14, Try.ntmps14
    go_wp2_with fail
    refine HV.out.mono ?_
    rintro e w1 ⟨⟨V, rfl⟩, hb1⟩
    have hF1 := hF0.step hb1
    clear r0 r1
    obtain ⟨hbel1, hz1, r0, r1⟩ := hF1.parts
    go_wp2_with fail
    refine (isFunction_any _ _ _ _ v _ (hv.below hbel1 (Nat.le_refl _))).mono ?_
    rintro e w2 ⟨rfl, hb2⟩
    rw [hf]
    go_wp2
    go_ret
    exact ⟨by rw [e0.out]; rfl, (hF1.step hb2).1⟩
theorem l3Bad_any (N : Nat) (A : Option Addr) (n c : Nat) (v : List Int) (s i k : Nat) (w : World) (hv : Ints w A n v) (fo : FnOk N n v) (hs : s < n) (hi' : i < N) (hk' : k < N) :
    Calls Try.prog 137 #[.slice A n c, .int .i64 s, .int .i64 i, .int .i64 k] w fun e w' => e = .returned (.bool (!decide (excN v s i k ≤ 0))) ∧ ∃ m, w' = w.drewN m := by
  obtain ⟨b, off, rfl, hb, hc⟩ := hv.all_ fo.n0
  have hN := fo.hN
  have n32 := fo.n32
  have h1 := fo.ins hs hi'
  have h2 := fo.ins hs hk'
  have h3 := fo.ins h1 hk'
  have g0 := fo.bd hs
  have g1 := fo.bd h1
  have g2 := fo.bd h2
  have g3 := fo.bd h3
  have hs10 : s < 1024 := by omega
  have hi10 : insN s i < 1024 := by omega
  have hi40 : i ≤ 40 := by omega
  have hk40 : k ≤ 40 := by omega
  have x0 := hc _ hs
  have x1 := hc _ h1
  have x2 := hc _ h2
  have x3 := hc _ h3
  have i1 : (0 : Int) ≤ (s : Int) := by omega
  have i2 : (s : Int) < (n : Int) := by omega
  have i3 : (0 : Int) ≤ (insN s i : Int) := by omega
  have i4 : (insN s i : Int) < (n : Int) := by omega
  have i5 : (0 : Int) ≤ (insN s k : Int) := by omega
  have i6 : (insN s k : Int) < (n : Int) := by omega
  have i7 : (0 : Int) ≤ (insN (insN s i) k : Int) := by omega
  have i8 : (insN (insN s i) k : Int) < (n : Int) := by omega
  have t1 : IntKind.i64.wrap (gv v (insN (insN s i) k) + gv v s) = gv v (insN (insN s i) k) + gv v s := IntWalk.i64_in _ (by omega)
  have t2 : IntKind.i64.wrap (gv v (insN s i) + gv v (insN s k)) = gv v (insN s i) + gv v (insN s k) := IntWalk.i64_in _ (by omega)
  clear hc
  go_enter Try.func137, Try.ntmps137
  go_wp2
  go_quiet (fail)
  clear t1 t2
  go_wp2
  go_ret
  exact ⟨ret_bool (by rw [Bool.eq_iff_iff]; simp only [decide_eq_true_eq, Bool.not_eq_true', decide_eq_false_iff_not]; unfold excN; omega), _, rfl⟩
set_option maxHeartbeats 1000000 in
theorem specViolationOf_any (E : Int) (A : Option Addr) (n c : Nat) (v : List Int) (w : World) (hv : Ints w A n v) :
    Calls Try.prog 13 #[.agg #[.int .i64 E, .slice A n c]] w fun e w' => (∃ V : Value, e = .returned (.tuple #[V, .bool (violB E v)])) ∧ Below w.heap.size w w' := by
  have hF0 := FB.start w E A n c
  cases hf : isFn E v
  · have e0 : violB E v = false := by simp [violB, hf]
    rw [e0]; clear e0
    go_enter Try.func13, Try.ntmps13
    go_wp2
    go_loopw [4] (fun i wr => i = .int .i64 0 ∧ FB w wr E A n c) (fun _ _ => 0)
    case atStart => exact ⟨rfl, hF0⟩
    case round =>
      obtain ⟨rfl, hFBr⟩ := hrel
      obtain ⟨hbelr, hzr, r0, r1⟩ := hFBr.parts
      go_wp2_with fail
      refine (specIsFunction_any _ _ _ _ v _ (hv.below hbelr (Nat.le_refl _))).mono ?_
      rintro e w1 ⟨rfl, hb1⟩
      rw [hf]
      have hFB1 := hFBr.step hb1
      go_wp2
      go_ret2
      exact ⟨⟨_, rfl⟩, (hFB1.step ((Below.refl _ _).alloc (Nat.le_refl _) _)).1⟩
  · have Hf := hide hf
    have hvl := hv.len
    have e0 : violB E v = !okL v (allP E.toNat n) := by simp [violB, hf, hvl]
    rw [e0]; clear e0 hf hvl
    obtain ⟨N, rfl, fo⟩ := FnOk.of Hf.out hv
    have hN := fo.hN
    have n32 := fo.n32
    rw [Int.toNat_natCast]
    go_enter Try.func13, Try.ntmps13
    go_wp2
    go_loopw [4] (fun t wr => ∃ s : Nat, s ≤ n ∧ t = .int .i64 s ∧ okL v (allP N s) = true ∧ FB w wr N A n c) (fun t _ => n - (intOf t).toNat)
    case atStart => exact ⟨0, Nat.zero_le _, rfl, rfl, hF0⟩
    case round =>
      obtain ⟨s, hs, rfl, hall, hFBo⟩ := hrel
      have Hall := hide hall; clear hall
      obtain ⟨hbelo, hzo, r0, r1⟩ := hFBo.parts
      go_wp2_with fail
      refine (specIsFunction_any _ _ _ _ v _ (hv.below hbelo (Nat.le_refl _))).mono ?_
      rintro e w1 ⟨rfl, hb1⟩
      rw [Hf.out]
      have hFB1 := hFBo.step hb1
      clear r0 r1
      obtain ⟨hbel1, hz1, r0, r1⟩ := hFB1.parts
      by_cases hlt : s < n
      · have hs10 : s < 1024 := by omega
        go_wp2
        clear r0 r1
        go_loopw [5] (fun t wr => ∃ i : Nat, i ≤ N ∧ t = .int .i64 i ∧ okL v (allP N s ++ colP N s i) = true ∧ FB w wr N A n c) (fun t _ => N - (intOf t).toNat)
        case atStart => exact ⟨0, Nat.zero_le _, rfl, by simpa [colP] using Hall.out, hFB1⟩
        case round =>
          obtain ⟨i, hi, rfl, halli, hFBi⟩ := hrel
          obtain ⟨hgi, hzi, r0, r1⟩ := hFBi.parts
          have Halli := hide halli; clear halli
          by_cases hlti : i < N
          · go_wp2
            clear r0 r1
            go_loopw [6] (fun t wr => ∃ k : Nat, i < k ∧ k ≤ N ∧ t = .int .i64 k ∧ okL v (allP N s ++ colP N s i ++ rowP s i k) = true ∧ FB w wr N A n c) (fun t _ => N - (intOf t).toNat)
            case atStart => exact ⟨i + 1, by omega, by omega, by go_num, by rw [rowP_start, List.append_nil]; exact Halli.out, hFBi⟩
            case round =>
              obtain ⟨k, hk1, hk, rfl, hallk, hFBk⟩ := hrel
              obtain ⟨hgk, hzk, r0, r1⟩ := hFBk.parts
              have Hallk := hide hallk; clear hallk
              by_cases hltk : k < N
              · have hsn := hide (rowP_snoc (s := s) hk1)
                cases h1 : hasB s i
                · cases h2 : hasB s k
                  · have hG := l3Bad_any N A n c v s i k wr (hv.below hgk (Nat.le_refl _)) fo hlt hlti hltk
                    by_cases hx : excN v s i k ≤ 0
                    · have hnx := hide (show okL v (allP N s ++ colP N s i ++ rowP s i (k + 1)) = true by rw [hsn.out, show offB s i k = true by simp [offB, h1, h2], if_pos rfl, ← List.append_assoc, okL_snoc, Hallk.out]; simpa using hx)
                      rw [show (!decide (excN v s i k ≤ 0)) = false by simp [hx]] at hG
                      have HG := hide hG; clear hG hx
                      go_wp2_with fail
                      refine HG.out.mono ?_
                      rintro e w2 ⟨rfl, m, rfl⟩
                      go_wp2
                      go_roundw
                      case rel => exact ⟨k + 1, by omega, by omega, by go_num, hnx.out, hFBk.drewN _⟩
                      case measure => simp [intOf]; omega
                    · have hno := hide (okL_no (N := N) hlt hk1 hltk (show offB s i k = true by simp [offB, h1, h2]) hx)
                      rw [show (!decide (excN v s i k ≤ 0)) = true by simp; omega] at hG
                      have HG := hide hG; clear hG hx
                      go_wp2_with fail
                      refine HG.out.mono ?_
                      rintro e w2 ⟨rfl, m, rfl⟩
                      go_wp2
                      go_ret2
                      exact ⟨⟨_, by rw [hno.out]; rfl⟩, ((hFBk.drewN m).step ((Below.refl _ _).alloc (Nat.le_refl _) _)).1⟩
                  · have hnx := hide (show okL v (allP N s ++ colP N s i ++ rowP s i (k + 1)) = true by rw [hsn.out, show offB s i k = false by simp [offB, h2]]; simpa using Hallk.out)
                    go_wp2
                    go_roundw
                    case rel => exact ⟨k + 1, by omega, by omega, by go_num, hnx.out, hFBk⟩
                    case measure => simp [intOf]; omega
                · have hnx := hide (show okL v (allP N s ++ colP N s i ++ rowP s i (k + 1)) = true by rw [hsn.out, show offB s i k = false by simp [offB, h1]]; simpa using Hallk.out)
                  go_wp2
                  go_roundw
                  case rel => exact ⟨k + 1, by omega, by omega, by go_num, hnx.out, hFBk⟩
                  case measure => simp [intOf]; omega
              · obtain rfl : k = N := by omega
                have hnx := hide (show okL v (allP k s ++ colP k s (i + 1)) = true by rw [colP_snoc, ← List.append_assoc]; exact Hallk.out)
                go_wp2
                go_roundw
                case rel => exact ⟨i + 1, by omega, by go_num, hnx.out, hFBk⟩
                case measure => simp [intOf]; omega
          · obtain rfl : i = N := by omega
            have hnx := hide (show okL v (allP i (s + 1)) = true by rw [allP_snoc]; exact Halli.out)
            go_wp2
            go_roundw
            case rel => exact ⟨s + 1, by omega, by go_num, hnx.out, hFBi⟩
            case measure => simp [intOf]; omega
      · obtain rfl : s = n := by omega
        go_wp2
        go_ret2
        exact ⟨⟨_, by rw [Hall.out]; rfl⟩, (hFB1.step ((Below.refl _ _).alloc (Nat.le_refl _) _)).1⟩
theorem specIsSubmodular_any (E : Int) (A : Option Addr) (n c : Nat) (v : List Int) (w : World) (hv : Ints w A n v) :
    Calls Try.prog 16 #[.agg #[.int .i64 E, .slice A n c]] w fun e w' => e = .returned (.bool (subB E v)) ∧ Below w.heap.size w w' := by
  have hF0 := FB.start w E A n c
  obtain ⟨hbel0, hz0, r0, r1⟩ := hF0.parts
  have HV := hide (specViolationOf_any E A n c v _ (hv.below hbel0 (Nat.le_refl _)))
  have hq : ∀ b, violB E v = b → isFn E v = true → subB E v = !b := by rintro b rfl hf; simp [violB, subB, hf]
  have hn : isFn E v = false → subB E v = false := by intro hf; simp [subB, hf]
  cases hf : isFn E v
  · have e0 := hide (hn hf)
    clear hq hn
    go_enter Try.func16, Try.ntmps16
    go_wp2_with fail
    refine HV.out.mono ?_
    rintro e w1 ⟨⟨V, rfl⟩, hb1⟩
    have hF1 := hF0.step hb1
    clear r0 r1
    obtain ⟨hbel1, hz1, r0, r1⟩ := hF1.parts
    go_wp2_with fail
    refine (specIsFunction_any _ _ _ _ v _ (hv.below hbel1 (Nat.le_refl _))).mono ?_
    rintro e w2 ⟨rfl, hb2⟩
    rw [hf]
    go_wp2
    go_ret
    exact ⟨by rw [e0.out]; rfl, (hF1.step hb2).1⟩
  cases hv2 : violB E v
  all_goals
    have e0 := hide (hq _ hv2 hf)
    clear hq hn
    rw [hv2] at HV
    go_enter Try.func16, Try.ntmps16
    go_wp2_with fail
    refine HV.out.mono ?_
    rintro e w1 ⟨⟨V, rfl⟩, hb1⟩
    have hF1 := hF0.step hb1
    clear r0 r1
    obtain ⟨hbel1, hz1, r0, r1⟩ := hF1.parts
    go_wp2_with fail
    refine (specIsFunction_any _ _ _ _ v _ (hv.below hbel1 (Nat.le_refl _))).mono ?_
    rintro e w2 ⟨rfl, hb2⟩
    rw [hf]
    go_wp2
    go_ret
    exact ⟨by rw [e0.out]; rfl, (hF1.step hb2).1⟩
end Go.Proofs.Ytokeejachclpeaa
