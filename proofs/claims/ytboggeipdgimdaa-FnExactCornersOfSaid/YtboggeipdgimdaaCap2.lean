/-
  Walks: CapacityOf, ExchangeCapacity.
-/
import Derived.Test.YtboggeipdgimdaaCap
namespace Go.Proofs.Ytboggeipdgimdaa
open Go.RowKit

set_option maxHeartbeats 1000000 in
theorem capacityOf_any (E : Int) (A : Option Addr) (n c : Nat) (v : List Int) (A' : Option Addr) (m c' : Nat) (x : List Int) (e : Int) (w : World) (hv : Ints w A n v) (hx : Ints w A' m x) :
    Calls Try.prog 95 #[.agg #[.int .i64 E, .slice A n c], .slice A' m c', .int .i64 e] w fun e0 w' => e0 = .returned (.tuple #[.int .i64 (capV E v x e), .bool (capOk E v x e)]) ∧ Below w.heap.size w w' := by
  have hmf : ∀ (fn : Fn) (first cap : Array Value) (w : World), (Instr.makeFunc fn first cap).run Try.prog w = .ok (.func fn first cap) w := fun _ _ _ _ => rfl
  have hF0 : FB w ((w.alloc (.cells #[.int .i64 E, .slice A n c] 26)).alloc (.cells #[.int .i64 e] 3)) E A n c := (FB.start w E A n c).step ((Below.refl _ _).alloc (Nat.le_refl _) _)
  have qe : ((w.alloc (.cells #[.int .i64 E, .slice A n c] 26)).alloc (.cells #[.int .i64 e] 3)).cell? ⟨w.heap.size + 1, 0, none⟩ = some (.int .i64 e) := by
    rw [World.cell?_alloc_at _ _ _ _ (by simp)]; rfl
  have he0 : w.heap.size + 1 < ((w.alloc (.cells #[.int .i64 E, .slice A n c] 26)).alloc (.cells #[.int .i64 e] 3)).heap.size := by simp
  generalize hW : ((w.alloc (.cells #[.int .i64 E, .slice A n c] 26)).alloc (.cells #[.int .i64 e] 3)) = W0 at hF0 qe he0 
  have HW := hide hW; clear hW
  cases hb : belowB E v x
  · have e0 : capOk E v x e = false := by simp [capOk, hb]
    have e1 : capV E v x e = 0 := by simp [capV, e0]
    rw [e0, e1]; clear e0 e1
    go_enter Try.func95, Try.ntmps95
    go_wp2_with fail
    rw [HW.out]
    refine (isBelow_any E A n c v A' m c' x _ (hv.below hF0.1 (Nat.le_refl _)) (hx.below hF0.1 (Nat.le_refl _))).mono ?_
    rintro e0 w1 ⟨rfl, hb1⟩
    rw [hb]
    go_wp2
    go_ret2
    exact ⟨rfl, (hF0.step hb1).1⟩
  obtain ⟨bfn, bg0, blen, bvec, ball⟩ := below_ok hb
  have Hb := hide hb
  have Hf := hide bfn
  clear bfn bg0 blen ball hb
  have eOk : capOk E v x e = inR e 0 (E - 1) := by simp [capOk, Hb.out]
  obtain ⟨N, rfl, fo⟩ := FnOk.of Hf.out hv
  have hN := fo.hN
  have hn := hide fo.hn
  have hnl := hide fo.hl
  cases h1 : inR e 0 ((N : Int) - 1)
  · have e0 : capOk N v x e = false := by rw [eOk]; simp [*]
    have e1 : capV N v x e = 0 := by simp [capV, e0]
    rw [e0, e1]; clear e0 e1 eOk
    go_enter Try.func95, Try.ntmps95
    go_wp2_with fail
    rw [HW.out]
    refine (isBelow_any N A n c v A' m c' x _ (hv.below hF0.1 (Nat.le_refl _)) (hx.below hF0.1 (Nat.le_refl _))).mono ?_
    rintro e0 w1 ⟨rfl, hb1⟩
    have hF1 := hF0.step hb1
    obtain ⟨hbel, hz, r0, r1⟩ := hF1.parts
    have qe1 := (hb1.cell (p := ⟨w.heap.size + 1, 0, none⟩) he0).trans qe
    rw [Hb.out]
    go_wp2_with fail
    refine (isElement_any _ _ _).mono ?_
    rintro e0 w' ⟨rfl, rfl⟩
    rw [h1]
    go_wp2
    go_ret2
    exact ⟨rfl, hbel⟩
  have Hk := hide (show capOk N v x e = true by rw [eOk]; simp [*])
  obtain ⟨e1, e2⟩ := inR_true h1
  obtain ⟨en, rfl⟩ := Int.eq_ofNat_of_zero_le e1
  have heN : en < N := by omega
  have eV : capV N v x en = (minW (slk v x) (fun s => hasB s en) n).getD 0 := by simp [capV, Hk.out, hnl.out]
  rw [eV, Hk.out]; clear eV eOk
  go_enter Try.func95, Try.ntmps95
  go_wp2_with fail
  rw [HW.out]
  refine (isBelow_any N A n c v A' m c' x _ (hv.below hF0.1 (Nat.le_refl _)) (hx.below hF0.1 (Nat.le_refl _))).mono ?_
  rintro e0 w1 ⟨rfl, hb1⟩
  have hF1 := hF0.step hb1
  obtain ⟨hbel, hz, r0, r1⟩ := hF1.parts
  have qe1 := (hb1.cell (p := ⟨w.heap.size + 1, 0, none⟩) he0).trans qe
  rw [Hb.out]
  go_wp2_with fail
  refine (isElement_any _ _ _).mono ?_
  rintro e0 w' ⟨rfl, rfl⟩
  rw [h1]
  have hL := capVLeast_any N A n c v A' m c' x en (w.heap.size + 1) w1 (hv.below hbel (Nat.le_refl _)) Hf.out (hx.below hbel (Nat.le_refl _)) bvec (by omega) qe1
  have HL := hide hL; clear hL
  go_wp2_with fail
  refine HL.out.mono ?_
  rintro e0 w2 ⟨rfl, hb2⟩
  go_wp2
  go_ret2
  exact ⟨rfl, (hF1.step hb2).1⟩
set_option maxHeartbeats 1000000 in
theorem specCapacityOf_any (E : Int) (A : Option Addr) (n c : Nat) (v : List Int) (A' : Option Addr) (m c' : Nat) (x : List Int) (e : Int) (w : World) (hv : Ints w A n v) (hx : Ints w A' m x) :
    Calls Try.prog 91 #[.agg #[.int .i64 E, .slice A n c], .slice A' m c', .int .i64 e] w fun e0 w' => e0 = .returned (.tuple #[.int .i64 (capV E v x e), .bool (capOk E v x e)]) ∧ Below w.heap.size w w' := by
  cases hb : belowB E v x
  · have e0 : capOk E v x e = false := by simp [capOk, hb]
    have e1 : capV E v x e = 0 := by simp [capV, e0]
    rw [e0, e1]; clear e0 e1
    go_enter Try.func91, Try.ntmps91
    go_wp2_with fail
    refine (specIsBelow_any E A n c v A' m c' x _ (hv.alloc _) (hx.alloc _)).mono ?_
    rintro e0 w1 ⟨rfl, hb1⟩
    rw [hb]
    go_wp2
    go_ret2
    exact ⟨rfl, ((FB.start w E A n c).step hb1).1⟩
  obtain ⟨bfn, bg0, blen, bvec, ball⟩ := below_ok hb
  have Hb := hide hb
  have Hf := hide bfn
  clear bfn bg0 blen ball hb
  have eOk : capOk E v x e = inR e 0 (E - 1) := by simp [capOk, Hb.out]
  obtain ⟨N, rfl, fo⟩ := FnOk.of Hf.out hv
  have hN := fo.hN
  have hn := hide fo.hn
  have hnl := hide fo.hl
  have n32 := fo.n32
  cases h1 : inR e 0 ((N : Int) - 1)
  · have e0 : capOk N v x e = false := by rw [eOk]; simp [*]
    have e1 : capV N v x e = 0 := by simp [capV, e0]
    rw [e0, e1]; clear e0 e1 eOk
    go_enter Try.func91, Try.ntmps91
    go_wp2_with fail
    refine (specIsBelow_any N A n c v A' m c' x _ (hv.alloc _) (hx.alloc _)).mono ?_
    rintro e0 w1 ⟨rfl, hb1⟩
    have hF1 := (FB.start w N A n c).step hb1
    obtain ⟨hbel, hz, r0, r1⟩ := hF1.parts
    rw [Hb.out]
    go_wp2_with fail
    refine (l1In_any _ _ _ _).mono ?_
    rintro e0 w' ⟨rfl, rfl⟩
    rw [h1]
    go_wp2
    go_ret2
    exact ⟨rfl, hbel⟩
  have Hk := hide (show capOk N v x e = true by rw [eOk]; simp [*])
  obtain ⟨e1, e2⟩ := inR_true h1
  obtain ⟨en, rfl⟩ := Int.eq_ofNat_of_zero_le e1
  have heN : en < N := by omega
  have eV : capV N v x en = (minW (slk v x) (fun s => hasB s en) n).getD 100000 := by
    have hs : (minW (slk v x) (fun s => hasB s en) n).isSome = true := minW_some (p := fun s => hasB s en) (j := 2 ^ en) (hasB_self) n (by rw [hn.out]; exact Nat.pow_lt_pow_right (by omega) heN)
    simp [capV, Hk.out, hnl.out]
    cases hm : minW (slk v x) (fun s => hasB s en) n with
    | none => rw [hm] at hs; cases hs
    | some m0 => rfl
  rw [eV, Hk.out]; clear eV eOk
  obtain ⟨b, off, rfl, hb, hc⟩ := hv.all_ fo.n0
  have HC := hide hc; clear hc
  go_enter Try.func91, Try.ntmps91
  go_wp2_with fail
  refine (specIsBelow_any N _ n c v A' m c' x _ (hv.alloc _) (hx.alloc _)).mono ?_
  rintro e0 w1 ⟨rfl, hb1⟩
  have hF1 := (FB.start w N (some ⟨b, off, none⟩) n c).step hb1
  obtain ⟨hbel, hz, r0, r1⟩ := hF1.parts
  rw [Hb.out]
  go_wp2_with fail
  refine (l1In_any _ _ _ _).mono ?_
  rintro e0 w' ⟨rfl, rfl⟩
  rw [h1]
  go_wp2
  clear r0 r1 
  have he40 : en ≤ 40 := by omega

  go_loopw [8, 9] (fun t i wr => ∃ k : Nat, k ≤ n ∧ i = .int .i64 k ∧ t = .int .i64 ((minW (slk v x) (fun s => hasB s en) k).getD 100000) ∧ FB w wr N (some ⟨b, off, none⟩) n c) (fun _ i _ => n - (intOf i).toNat)
  case atStart => exact ⟨0, Nat.zero_le _, rfl, rfl, hF1⟩
  case round =>
    obtain ⟨k, hk, rfl, rfl, hFBr⟩ := hrel
    obtain ⟨hbelr, hzr, r0, r1⟩ := hFBr.parts
    by_cases hlt : k < n
    · have c1 : wr.cell? ⟨b, off + k, none⟩ = some (.int .i64 (gv v k)) := (hbelr.cell (p := ⟨b, off + k, none⟩) hb).trans (HC.out _ hlt)
      have hk10 : k < 1024 := by omega
      have hxr := hide (hx.below hbelr (Nat.le_refl _))
      have i1 : (0 : Int) ≤ (k : Int) := by omega
      have i2 : (k : Int) < (n : Int) := by omega
      have g0 := fo.bd hlt
      have g1 := weigh_bd bvec k
      have t1 : IntKind.i64.wrap (gv v k - weigh x k) = slk v x k := IntWalk.i64_in _ (by omega)
      have hsb := slk_bd fo bvec hlt
      have HB := hide hbelr; clear hbelr
      cases h5 : hasB k en
      · have hs := hide (show minW (slk v x) (fun s => hasB s en) (k + 1) = minW (slk v x) (fun s => hasB s en) k by show (if hasB k en then _ else _) = _; rw [h5]; rfl)
        clear t1
        go_wp2
        go_roundw
        case rel => exact ⟨k + 1, by omega, by go_num, by rw [hs.out], hFBr⟩
        case measure => simp [intOf]; omega
      · have hs := hide (show (minW (slk v x) (fun s => hasB s en) (k + 1)).getD 100000 = mn ((minW (slk v x) (fun s => hasB s en) k).getD 100000) (slk v x k) by
          have e : minW (slk v x) (fun s => hasB s en) (k + 1) = (match minW (slk v x) (fun s => hasB s en) k with | none => some (slk v x k) | some m => some (mn m (slk v x k))) := by
            show (if hasB k en then _ else _) = _; rw [h5]; rfl
          rw [e]
          cases minW (slk v x) (fun s => hasB s en) k with
          | none => show slk v x k = mn 100000 (slk v x k); unfold mn; rw [if_pos (by omega)]
          | some m0 => rfl)
        generalize hM : (minW (slk v x) (fun s => hasB s en) k).getD 100000 = M at *
        have hmn : (if slk v x k < M then slk v x k else M) = mn M (slk v x k) := rfl
        clear hM


        go_wp2
        go_quiet ((go_at_call 112; exact quiet_left (l3Weigh_any _ _ _ x k _ hxr.out bvec hk10)))
        clear t1 hmn
        go_wp2
        go_roundw
        case rel => exact ⟨k + 1, by omega, by go_num, by rw [hs.out], hFBr.drewN _⟩
        case measure => simp [intOf]; omega
    · obtain rfl : k = n := by omega
      go_wp2
      go_ret2
      exact ⟨rfl, hbelr⟩
end Go.Proofs.Ytboggeipdgimdaa
