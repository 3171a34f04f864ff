/-
  Walks: the submodularity gap.
-/
import Derived.Test.YtokeejachclpeaaPairs
import Derived.OneCell
import Derived.Deep.RegionWith
namespace Go.Proofs.Ytokeejachclpeaa
open Go.RowKit

theorem excess_any (E : Int) (A : Option Addr) (n c : Nat) (v : List Int) (s i k : Nat) (w : World) (hv : Ints w A n v) (hf : isFn E v = true) (hs : s < n) (hi : (i : Int) < E) (hk : (k : Int) < E) :
    Calls Try.prog 136 #[.agg #[.int .i64 E, .slice A n c], .int .i64 s, .int .i64 i, .int .i64 k] w fun e w' => e = .returned (.int .i64 (excN v s i k)) ∧ Below w.heap.size w w' := by
  obtain ⟨N, rfl, fo⟩ := FnOk.of hf hv
  obtain ⟨b, off, rfl, hb, hc⟩ := hv.all_ fo.n0
  have hN := fo.hN
  have n32 := fo.n32
  have n0 := fo.n0
  have j1 : w.heap.size ≠ b := by omega
  clear hf
  have hi' : i < N := by omega
  have hk' : k < N := by omega
  have h1 := fo.ins hs hi'
  have h2 := fo.ins hs hk'
  have h3 := fo.ins h1 hk'
  have g0 := fo.bd hs
  have g1 := fo.bd h1
  have g2 := fo.bd h2
  have g3 := fo.bd h3
  have hs10 : s < 1024 := by omega
  have hi10 : insN s i < 1024 := by omega
  have hk10 : insN s k < 1024 := by omega
  have hi40 : i ≤ 40 := by omega
  have hk40 : k ≤ 40 := by omega
  have eo := orN_ins s i k
  have x0 := hc _ hs
  have x1 := hc _ h1
  have x2 := hc _ h2
  have x3 := hc _ h3
  have i1 : (0 : Int) ≤ (s : Int) := by omega
  have i2 : (s : Int) < (n : Int) := by omega
  have i3 : (0 : Int) ≤ (insN s i : Int) := by omega
  have i4 : (insN s i : Int) < (n : Int) := by omega
  have i5 : (0 : Int) ≤ (insN s k : Int) := by omega
  have i6 : (insN s k : Int) < (n : Int) := by omega
  have i7 : (0 : Int) ≤ (insN (insN s i) k : Int) := by omega
  have i8 : (insN (insN s i) k : Int) < (n : Int) := by omega
  have t1 : IntKind.i64.wrap (gv v (insN (insN s i) k) + gv v s) = gv v (insN (insN s i) k) + gv v s := IntWalk.i64_in _ (by omega)
  have t2 : IntKind.i64.wrap (gv v (insN (insN s i) k) + gv v s - gv v (insN s i)) = gv v (insN (insN s i) k) + gv v s - gv v (insN s i) := IntWalk.i64_in _ (by omega)
  have t3 : IntKind.i64.wrap (gv v (insN (insN s i) k) + gv v s - gv v (insN s i) - gv v (insN s k)) = gv v (insN (insN s i) k) + gv v s - gv v (insN s i) - gv v (insN s k) := IntWalk.i64_in _ (by omega)
  clear hc
  go_enter Try.func136, Try.ntmps136
  go_wp2
  go_quiet (fail)
  clear t1 t2 t3
  go_wp2
  go_ret
  exact ⟨rfl, below_drewN ((Below.refl _ _).alloc (Nat.le_refl _) _) _⟩

/-- A block of one int. -/
def One (w : World) (b : Nat) (m : Int) : Prop := w.heap[b]? = some (.cells #[.int .i64 m] 3 (0, 0))
theorem One.cell {w : World} {b : Nat} {m : Int} (h : One w b m) : w.cell? ⟨b, 0, none⟩ = some (.int .i64 m) := by
  rw [cell_of_row w b 0 _ _ (0, 0) h]; rfl
theorem One.frozen {w : World} {b : Nat} {m : Int} (h : One w b m) : w.frozen? ⟨b, 0, none⟩ = false := frozen_of_row w b 0 _ _ h
theorem One.lt {w : World} {b : Nat} {m : Int} (h : One w b m) : b < w.heap.size := World.block_lt_of_cell? _ _ h.cell
theorem One.set_ {w : World} {b : Nat} {m : Int} (h : One w b m) (u : Int) : One (w.setCell ⟨b, 0, none⟩ (.int .i64 u)) b u := by
  unfold One at *
  simp [World.setCell, Array.getElem?_modify, h]
theorem One.below {w w' : World} {b B : Nat} {m : Int} (h : One w b m) (hb : Below B w w') (hB : b < B) : One w' b m := (hb.block b hB).trans h
theorem grown_of_below {w w' : World} (h : Below w.heap.size w w') (row : Option Nat) : w.grownBy w' row := ⟨h.os, h.tape, h.output, h.size, fun i hi _ => h.block i hi⟩
theorem grown_trans2 {a b c : World} {row : Option Nat} (h : a.grownBy b row) (k : b.grownBy c row) : a.grownBy c row :=
  ⟨k.os.trans h.os, k.tape.trans h.tape, k.output.trans h.output, Nat.le_trans h.size k.size, fun i hi hne => (k.block i (Nat.lt_of_lt_of_le hi h.size) hne).trans (h.block i hi hne)⟩
theorem grown_set2 {w wr : World} {g k : Nat} (h : w.grownBy wr (some g)) (u : Value) : w.grownBy (wr.setCell ⟨g, k, none⟩ u) (some g) :=
  ⟨h.os, h.tape, h.output, by simpa [World.setCell] using h.size, fun i hi hne => (Below.heap_setCell wr ⟨g, k, none⟩ u i (by
    rintro rfl
    exact hne rfl)).trans (h.block i hi hne)⟩
theorem grown_cell {w w' : World} {g b o : Nat} {x : Value} (h : w.grownBy w' (some g)) (hne : b ≠ g) (hb : b < w.heap.size) (hc : w.cell? ⟨b, o, none⟩ = some x) : w'.cell? ⟨b, o, none⟩ = some x := by
  rw [World.cell?_of_block (w := w) (h.block b hb (fun e => hne (by injection e)))]; exact hc
theorem Ints.grown {w w' : World} {g n : Nat} {A : Option Addr} {v : List Int} (hv : Ints w A n v) (h : w.grownBy w' (some g)) (hne : ∀ b off, A = some ⟨b, off, none⟩ → b ≠ g) : Ints w' A n v :=
  ⟨hv.1, hv.2.1, fun hn => by
    obtain ⟨b, off, rfl, hb, hc⟩ := hv.all_ hn
    exact ⟨b, off, rfl, fun j hj => grown_cell h (hne b off rfl) hb (hc j hj)⟩⟩

/-- Inside the visit: only the block bm (one int, m) has changed, and the visitor's own box stands. -/
def VP (w wr : World) (bm : Nat) (m E : Int) (A : Option Addr) (n c : Nat) : Prop :=
  w.grownBy wr (some bm) ∧ w.heap.size < wr.heap.size ∧ wr.cell? ⟨w.heap.size, 0, none⟩ = some (.int .i64 E) ∧ wr.cell? ⟨w.heap.size, 1, none⟩ = some (.slice A n c) ∧ One wr bm m
theorem VP.parts {w wr : World} {bm n c : Nat} {m E : Int} {A : Option Addr} (h : VP w wr bm m E A n c) :
  w.grownBy wr (some bm) ∧ w.heap.size < wr.heap.size ∧ wr.cell? ⟨w.heap.size, 0, none⟩ = some (.int .i64 E) ∧ wr.cell? ⟨w.heap.size, 1, none⟩ = some (.slice A n c) ∧ One wr bm m := h
theorem VP.start {w : World} {bm n c : Nat} {m E : Int} {A : Option Addr} (h : One w bm m) : VP w (w.alloc (.cells #[.int .i64 E, .slice A n c] 26)) bm m E A n c :=
  ⟨World.grownBy_alloc _ _ _, by simp, by rw [World.cell?_alloc_at _ _ _ _ rfl]; rfl, by rw [World.cell?_alloc_at _ _ _ _ rfl]; rfl, h.below ((Below.refl _ _).alloc (Nat.le_refl _) _) h.lt⟩
theorem VP.step {w wr w2 : World} {bm n c : Nat} {m m' E : Int} {A : Option Addr} (h : VP w wr bm m E A n c) (hb : bm < w.heap.size) (hg : wr.grownBy w2 (some bm)) (h1 : One w2 bm m') : VP w w2 bm m' E A n c :=
  ⟨grown_trans2 h.1 hg, Nat.lt_of_lt_of_le h.2.1 hg.size, grown_cell hg (by omega) h.2.1 h.2.2.1, grown_cell hg (by omega) h.2.1 h.2.2.2.1, h1⟩

set_option maxHeartbeats 400000 in
theorem gapFn_any (E : Int) (A : Option Addr) (n c : Nat) (v : List Int) (s i k bm bf : Nat) (m : Int) (w : World) (hv : Ints w A n v) (hf : isFn E v = true) (hs : s < n) (hi : (i : Int) < E) (hk : (k : Int) < E)
    (hm : One w bm m) (f0 : w.cell? ⟨bf, 0, none⟩ = some (.int .i64 E)) (f1 : w.cell? ⟨bf, 1, none⟩ = some (.slice A n c)) :
    Calls Try.prog 208 #[.int .i64 s, .int .i64 i, .int .i64 k, .pointer (some ⟨bm, 0, none⟩), .pointer (some ⟨bf, 0, none⟩)] w fun e w' => e = .returned (.bool true) ∧ w.grownBy w' (some bm) ∧ One w' bm (mx m (excN v s i k)) := by
  have m0 := hm.cell
  have mf := hm.frozen
  have hbf := World.block_lt_of_cell? _ _ f0
  have hbm := hm.lt
  have hmx : (if m < excN v s i k then excN v s i k else m) = mx m (excN v s i k) := rfl
  go_enter Try.func208, Try.ntmps208
  go_wp2
  go_region_with (go_at_call 136; refine (excess_any E A n c v s i k _ hv.drew hf hs hi hk).mono ?_; rintro e w1 ⟨rfl, hb1⟩; have m1 := (hb1.cell (p := ⟨bm, 0, none⟩) hbm).trans m0; have mf1 := (hb1.frozen (p := ⟨bm, 0, none⟩) hbm).trans mf)
  all_goals
    have hbw := (Below.refl w.heap.size w).drew.trans hb1
    go_wp2
    go_ret
    exact ⟨rfl, grown_set2 (grown_of_below hbw _) _, (hm.below hbw hbm).set_ _⟩
set_option maxHeartbeats 1000000 in
theorem visitGap_any (E : Int) (A : Option Addr) (n c : Nat) (v : List Int) (bm bf : Nat) (w : World) (hv : Ints w A n v) (hf : isFn E v = true)
    (hm : One w bm 0) (f0 : w.cell? ⟨bf, 0, none⟩ = some (.int .i64 E)) (f1 : w.cell? ⟨bf, 1, none⟩ = some (.slice A n c)) (hne : bf ≠ bm) (hnA : ∀ b off, A = some ⟨b, off, none⟩ → b ≠ bm) :
    Calls Try.prog 134 #[.agg #[.int .i64 E, .slice A n c], .func (.func 208) #[] #[.pointer (some ⟨bm, 0, none⟩), .pointer (some ⟨bf, 0, none⟩)]] w fun e w' => e = .returned (.tuple #[]) ∧ w.grownBy w' (some bm) ∧ One w' bm (gapN v E.toNat n) := by
  have Hf := hide hf
  obtain ⟨N, rfl, fo⟩ := FnOk.of hf hv
  clear hf
  have hN := fo.hN
  have n32 := fo.n32
  have hbm := hm.lt
  have hbf := World.block_lt_of_cell? _ _ f0
  rw [Int.toNat_natCast]
  go_enter Try.func134, Try.ntmps134
  go_wp2
  go_loopw [10] (fun t wr => ∃ s : Nat, s ≤ n ∧ t = .int .i64 s ∧ VP w wr bm (gapL v (allP N s)) N A n c) (fun t _ => n - (intOf t).toNat)
  case atStart => exact ⟨0, Nat.zero_le _, rfl, VP.start hm⟩
  case round =>
    obtain ⟨s, hs, rfl, hVP⟩ := hrel
    obtain ⟨wo, rfl⟩ : ∃ wo : World, wo = wr := ⟨_, rfl⟩
    obtain ⟨hg, hz, r0, r1, ho⟩ := hVP.parts
    by_cases hlt : s < n
    · have hs10 : s < 1024 := by omega
      go_wp2
      clear r0 r1
      have hV0 : VP w wo bm (gapL v (allP N s ++ colP N s 0)) N A n c := by simpa [colP] using hVP
      go_loopw [15] (fun t wr => ∃ i : Nat, i ≤ N ∧ t = .int .i64 i ∧ VP w wr bm (gapL v (allP N s ++ colP N s i)) N A n c) (fun t _ => N - (intOf t).toNat)
      case atStart => exact ⟨0, Nat.zero_le _, rfl, hV0⟩
      case round =>
        obtain ⟨i, hi, rfl, hVPi⟩ := hrel
        obtain ⟨wi, rfl⟩ : ∃ wi : World, wi = wr := ⟨_, rfl⟩
        obtain ⟨hgi, hzi, r0, r1, hoi⟩ := hVPi.parts
        by_cases hlti : i < N
        · go_wp2
          clear r0 r1
          have hV1 : VP w wi bm (gapL v (allP N s ++ colP N s i ++ rowP s i (i + 1))) N A n c := by rw [rowP_start, List.append_nil]; exact hVPi
          go_loopw [6] (fun t wr => ∃ k : Nat, i < k ∧ k ≤ N ∧ t = .int .i64 k ∧ VP w wr bm (gapL v (allP N s ++ colP N s i ++ rowP s i k)) N A n c) (fun t _ => N - (intOf t).toNat)
          case atStart => exact ⟨i + 1, by omega, by omega, by go_num, hV1⟩
          case round =>
            obtain ⟨k, hk1, hk, rfl, hVPk⟩ := hrel
            obtain ⟨hgk, hzk, r0, r1, hok⟩ := hVPk.parts
            by_cases hltk : k < N
            · have hsn := hide (rowP_snoc (s := s) hk1)
              cases h1 : hasB s i
              · cases h2 : hasB s k
                · have hG := gapFn_any N A n c v s i k bm bf _ wr (hv.grown hgk hnA) Hf.out hlt (by omega) (by omega) hok (grown_cell hgk hne hbf f0) (grown_cell hgk hne hbf f1)
                  have HG := hide hG; clear hG
                  go_wp2_with fail
                  refine HG.out.mono ?_
                  rintro e w2 ⟨rfl, hg2, ho2⟩
                  go_wp2
                  go_roundw
                  case rel => exact ⟨k + 1, by omega, by omega, by go_num, by
                    have := hVPk.step hbm hg2 ho2
                    rw [← gapL_snoc] at this
                    rw [hsn.out]
                    simpa [offB, h1, h2] using this⟩
                  case measure => simp [intOf]; omega
                · go_wp2
                  go_roundw
                  case rel => exact ⟨k + 1, by omega, by omega, by go_num, by rw [hsn.out]; simpa [offB, h2] using hVPk⟩
                  case measure => simp [intOf]; omega
              · go_wp2
                go_roundw
                case rel => exact ⟨k + 1, by omega, by omega, by go_num, by rw [hsn.out]; simpa [offB, h1] using hVPk⟩
                case measure => simp [intOf]; omega
            · obtain rfl : k = N := by omega
              go_wp2
              go_roundw
              case rel => exact ⟨i + 1, by omega, by go_num, by rw [colP_snoc, ← List.append_assoc]; exact hVPk⟩
              case measure => simp [intOf]; omega
        · obtain rfl : i = N := by omega
          go_wp2
          go_roundw
          case rel => exact ⟨s + 1, by omega, by go_num, by rw [allP_snoc]; exact hVPi⟩
          case measure => simp [intOf]; omega
    · obtain rfl : s = n := by omega
      go_wp2
      go_end0
      exact ⟨rfl, hg, ho⟩
theorem submodularityGap_any (E : Int) (A : Option Addr) (n c : Nat) (v : List Int) (w : World) (hv : Ints w A n v) :
    Calls Try.prog 125 #[.agg #[.int .i64 E, .slice A n c]] w fun e w' => e = .returned (.tuple #[.int .i64 (gapR E v), .bool (isFn E v)]) ∧ Below w.heap.size w w' := by
  cases hf : isFn E v
  · have e0 : gapR E v = 0 := by simp [gapR, hf]
    rw [e0]; clear e0
    go_enter Try.func125, Try.ntmps125
    go_wp2_with fail
    refine (isFunction_any _ _ _ _ v _ (hv.alloc _)).mono ?_
    rintro e w1 ⟨rfl, hb1⟩
    go_wp2
    go_ret2
    exact ⟨rfl, ((Below.refl _ _).alloc (Nat.le_refl _) _).trans (hb1.mono (by simp))⟩
  · have Hf := hide hf
    have e0 : gapR E v = gapN v E.toNat n := by simp [gapR, hf, hv.len]
    rw [e0]; clear e0
    have hmf : ∀ (fn : Fn) (first cap : Array Value) (w : World), (Instr.makeFunc fn first cap).run Try.prog w = .ok (.func fn first cap) w := fun _ _ _ _ => rfl
    go_enter Try.func125, Try.ntmps125
    go_wp2_with fail
    refine (isFunction_any _ _ _ _ v _ (hv.alloc _)).mono ?_
    rintro e w1 ⟨rfl, hb1⟩
    have hFB := (FB.start w E A n c).step hb1
    obtain ⟨hbel, hz, r0, r1⟩ := hFB.parts
    rw [Hf.out]
    clear hf
    obtain ⟨N, rfl, fo⟩ := FnOk.of Hf.out hv
    have hA : ∀ b off, A = some ⟨b, off, none⟩ → b ≠ w1.heap.size := by
      intro b off e
      obtain ⟨b', off', e', hb', _⟩ := hv.all_ fo.n0
      rw [e] at e'
      injection e' with e'
      injection e' with e1 _ _
      omega
    have hB1 := (Below.refl w1.heap.size w1).alloc (Nat.le_refl _) (.cells #[.int .i64 0] 3)
    have hG := visitGap_any N A n c v w1.heap.size w.heap.size (w1.alloc (.cells #[.int .i64 0] 3)) ((hv.below hbel (Nat.le_refl _)).alloc _) Hf.out (heap_alloc_new w1 _) ((hB1.cell (p := ⟨w.heap.size, 0, none⟩) hz).trans r0) ((hB1.cell (p := ⟨w.heap.size, 1, none⟩) hz).trans r1) (by omega) hA
    have HG := hide hG; clear hG
    go_wp2_with fail
    refine HG.out.mono ?_
    rintro e w2 ⟨rfl, hg2, ho2⟩
    have m2 := ho2.cell
    go_wp2
    go_ret2
    exact ⟨rfl, (hbel.alloc hbel.size _).grown hg2 (by simp; have := hbel.size; omega) (fun k hk => by injection hk with hk; have := hbel.size; omega)⟩
set_option maxHeartbeats 1000000 in
theorem specSubmodularityGap_any (E : Int) (A : Option Addr) (n c : Nat) (v : List Int) (w : World) (hv : Ints w A n v) :
    Calls Try.prog 126 #[.agg #[.int .i64 E, .slice A n c]] w fun e w' => e = .returned (.tuple #[.int .i64 (gapR E v), .bool (isFn E v)]) ∧ Below w.heap.size w w' := by
  cases hf : isFn E v
  · have e0 : gapR E v = 0 := by simp [gapR, hf]
    rw [e0]; clear e0
    go_enter Try.func126, Try.ntmps126
    go_wp2_with fail
    refine (specIsFunction_any _ _ _ _ v _ (hv.alloc _)).mono ?_
    rintro e w1 ⟨rfl, hb1⟩
    go_wp2
    go_ret2
    exact ⟨rfl, ((Below.refl _ _).alloc (Nat.le_refl _) _).trans (hb1.mono (by simp))⟩
  · have Hf := hide hf
    obtain ⟨N, rfl, fo⟩ := FnOk.of hf hv
    have e0 : gapR N v = gapL v (allQ N n) := by rw [gap_same]; simp [gapR, hf, hv.len]
    rw [e0]; clear e0
    clear hf
    obtain ⟨b, off, rfl, hb, hc⟩ := hv.all_ fo.n0
    have HC := hide hc; clear hc
    have hN := fo.hN
    have n32 := fo.n32
    go_enter Try.func126, Try.ntmps126
    go_wp2_with fail
    refine (specIsFunction_any _ _ _ _ v _ (hv.alloc _)).mono ?_
    rintro e w1 ⟨rfl, hb1⟩
    have hFB := (FB.start w N (some ⟨b, off, none⟩) n c).step hb1
    obtain ⟨hbel, hz, r0, r1⟩ := hFB.parts
    rw [Hf.out]
    go_wp2
    clear r0 r1
    go_loopw [4, 6] (fun m t wr => ∃ s : Nat, s ≤ n ∧ t = .int .i64 s ∧ m = .int .i64 (gapL v (allQ N s)) ∧ FB w wr N (some ⟨b, off, none⟩) n c) (fun _ t _ => n - (intOf t).toNat)
    case atStart => exact ⟨0, Nat.zero_le _, rfl, rfl, hFB⟩
    case round =>
      obtain ⟨s, hs, rfl, rfl, hFBs⟩ := hrel
      obtain ⟨wo, rfl⟩ : ∃ wo : World, wo = wr := ⟨_, rfl⟩
      by_cases hlt : s < n
      · have hs10 : s < 1024 := by omega
        have hm0 := hide (show gapL v (allQ N s) = gapL v (allQ N s ++ colQ s 0) by simp [colQ])
        go_wp2
        rw [hm0.out]
        go_loopw [4, 7] (fun m t wr => ∃ i : Nat, i ≤ N ∧ t = .int .i64 i ∧ m = .int .i64 (gapL v (allQ N s ++ colQ s i)) ∧ FB w wr N (some ⟨b, off, none⟩) n c) (fun _ t _ => N - (intOf t).toNat)
        case atStart => exact ⟨0, Nat.zero_le _, rfl, rfl, hFBs⟩
        case round =>
          obtain ⟨i, hi, rfl, rfl, hFBi⟩ := hrel
          obtain ⟨wi, rfl⟩ : ∃ wi : World, wi = wr := ⟨_, rfl⟩
          obtain ⟨hbi, hzi, r0, r1⟩ := hFBi.parts
          by_cases hlti : i < N
          · have hm1 := hide (show gapL v (allQ N s ++ colQ s i) = gapL v (allQ N s ++ colQ s i ++ rowQ s i 0) by simp [rowQ])
            go_wp2
            rw [hm1.out]
            clear r0 r1
            go_loopw [4, 8] (fun m t wr => ∃ k : Nat, k ≤ i ∧ t = .int .i64 k ∧ m = .int .i64 (gapL v (allQ N s ++ colQ s i ++ rowQ s i k)) ∧ FB w wr N (some ⟨b, off, none⟩) n c) (fun _ t _ => i - (intOf t).toNat)
            case atStart => exact ⟨0, Nat.zero_le _, rfl, rfl, hFBi⟩
            case round =>
              obtain ⟨k, hk, rfl, rfl, hFBk⟩ := hrel
              obtain ⟨hbk, hzk, r0, r1⟩ := hFBk.parts
              by_cases hltk : k < i
              · have hsn := hide (rowQ_snoc s i k)
                have hi40 : i ≤ 40 := by omega
                have hk40 : k ≤ 40 := by omega
                cases h1 : hasB s i
                · cases h2 : hasB s k
                  · have hkN : k < N := by omega
                    have p1 := fo.ins hlt hlti
                    have p2' := fo.ins hlt hkN
                    have p3 := fo.ins p1 hkN
                    have g0 := fo.bd hlt
                    have g1 := fo.bd p1
                    have g2 := fo.bd p2'
                    have g3 := fo.bd p3
                    have hi10 : insN s i < 1024 := by omega
                    have hcr : ∀ j, j < n → wr.cell? ⟨b, off + j, none⟩ = some (.int .i64 (gv v j)) := fun j hj => (hbk.cell (p := ⟨b, off + j, none⟩) hb).trans (HC.out j hj)
                    have x0 := hcr _ hlt
                    have x1 := hcr _ p1
                    have x2 := hcr _ p2'
                    have x3 := hcr _ p3
                    clear hcr
                    have i1 : (0 : Int) ≤ (s : Int) := by omega
                    have i2 : (s : Int) < (n : Int) := by omega
                    have i3 : (0 : Int) ≤ (insN s i : Int) := by omega
                    have i4 : (insN s i : Int) < (n : Int) := by omega
                    have i5 : (0 : Int) ≤ (insN s k : Int) := by omega
                    have i6 : (insN s k : Int) < (n : Int) := by omega
                    have i7 : (0 : Int) ≤ (insN (insN s i) k : Int) := by omega
                    have i8 : (insN (insN s i) k : Int) < (n : Int) := by omega
                    have i9 : (0 : Int) ≤ (i : Int) := by omega
                    have i10 : (0 : Int) ≤ (k : Int) := by omega
                    have t1 : IntKind.i64.wrap (gv v (insN (insN s i) k) + gv v s) = gv v (insN (insN s i) k) + gv v s := IntWalk.i64_in _ (by omega)
                    have t2 : IntKind.i64.wrap (gv v (insN (insN s i) k) + gv v s - gv v (insN s i)) = gv v (insN (insN s i) k) + gv v s - gv v (insN s i) := IntWalk.i64_in _ (by omega)
                    have t3 : IntKind.i64.wrap (gv v (insN (insN s i) k) + gv v s - gv v (insN s i) - gv v (insN s k)) = excN v s i k := IntWalk.i64_in _ (by omega)
                    have hsn2 := hide (show gapL v (allQ N s ++ colQ s i ++ rowQ s i (k + 1)) = mx (gapL v (allQ N s ++ colQ s i ++ rowQ s i k)) (excN v s i k) by
                      rw [hsn.out, ← gapL_snoc]; simp [offB, h1, h2])
                    generalize gapL v (allQ N s ++ colQ s i ++ rowQ s i k) = m at *
                    have hmx : (if m < excN v s i k then excN v s i k else m) = mx m (excN v s i k) := rfl
                    have HB := hide hbk; clear hbk
                    go_wp2
                    go_quiet (fail)
                    clear t1 t2 t3 hmx
                    go_wp2
                    go_roundw
                    case rel => exact ⟨k + 1, by omega, by go_num, by rw [hsn2.out], hFBk.drewN _⟩
                    case measure => simp [intOf]; omega
                  · go_wp2
                    go_roundw
                    case rel => exact ⟨k + 1, by omega, by go_num, by rw [hsn.out]; simp [offB, h2], hFBk⟩
                    case measure => simp [intOf]; omega
                · go_wp2
                  go_roundw
                  case rel => exact ⟨k + 1, by omega, by go_num, by rw [hsn.out]; simp [offB, h1], hFBk⟩
                  case measure => simp [intOf]; omega
              · obtain rfl : k = i := by omega
                go_wp2
                go_roundw
                case rel => exact ⟨k + 1, by omega, by go_num, by rw [colQ_snoc, ← List.append_assoc], hFBk⟩
                case measure => simp [intOf]; omega
          · obtain rfl : i = N := by omega
            go_wp2
            go_roundw
            case rel => exact ⟨s + 1, by omega, by go_num, by rw [allQ_snoc], hFBi⟩
            case measure => simp [intOf]; omega
      · obtain rfl : s = n := by omega
        go_wp2
        go_ret2
        exact ⟨rfl, hFBs.1⟩
end Go.Proofs.Ytokeejachclpeaa
