/-
  Walks: how much an element can still get; how much it can get from another one.
  Walks: CapacityOf, ExchangeCapacity.
  Walks: vectors raised; dual vectors.
  Walks: dual vectors made.
-/
import Derived.Test.YtokeejachclpeaaBelM
import Derived.Test.YtokeejachclpeaaCore
import Derived.Test.YtokeejachclpeaaSubM
namespace Go.Proofs.Ytokeejachclpeaa
open Go.RowKit

/-- The least of the wanted values among the first k. -/
def minW (c : Nat → Int) (p : Nat → Bool) : Nat → Option Int
  | 0 => none
  | k + 1 => if p k then (match minW c p k with | none => some (c k) | some m => some (mn m (c k))) else minW c p k
theorem minW_some {c : Nat → Int} {p : Nat → Bool} {j : Nat} (hp : p j = true) : ∀ k, j < k → (minW c p k).isSome = true
  | 0, h => absurd h (by omega)
  | k + 1, h => by
    unfold minW
    by_cases hk : j = k
    · subst hk; rw [if_pos hp]; cases minW c p j <;> rfl
    · have := minW_some (c := c) hp k (by omega)
      split
      · cases minW c p k <;> rfl
      · exact this
theorem minW_bd {c : Nat → Int} {p : Nat → Bool} {a b : Int} {n : Nat} (h : ∀ j, j < n → a ≤ c j ∧ c j ≤ b) : ∀ k, k ≤ n → ∀ m, minW c p k = some m → a ≤ m ∧ m ≤ b
  | 0, _, m, e => by simp [minW] at e
  | k + 1, hk, m, e => by
    have h1 := minW_bd (p := p) h k (by omega)
    have h2 := h k (by omega)
    unfold minW at e
    split at e
    · cases hc : minW c p k with
      | none => rw [hc] at e; simp at e; omega
      | some m' =>
        rw [hc] at e; simp at e
        have := h1 m' hc
        unfold mn at e; split at e <;> omega
    · exact h1 m e
theorem hasB_self {e : Nat} : hasB (2 ^ e) e = true := by unfold hasB; simp
theorem hasB_two {e d : Nat} (h : e ≠ d) : hasB (2 ^ e) d = false := by unfold hasB; rw [Nat.testBit_two_pow]; simp; exact h

def capOk (E : Int) (v x : List Int) (e : Int) : Bool := belowB E v x && inR e 0 (E - 1)
def capV (E : Int) (v x : List Int) (e : Int) : Int := if capOk E v x e then (minW (slk v x) (fun s => hasB s e.toNat) v.length).getD 0 else 0
theorem capVFn_any (s e be : Nat) (w : World) (hs : s < 1024) (le : e ≤ 40) (he : w.cell? ⟨be, 0, none⟩ = some (.int .i64 (e : Nat))) :
    Calls Try.prog 161 #[.int .i64 s, .pointer (some ⟨be, 0, none⟩)] w fun r w' => r = .returned (.bool (hasB s e)) ∧ w = w' := by
  go_enter Try.func161, Try.ntmps161
  go_wp2
  go_ret
  exact ⟨rfl, rfl⟩
set_option maxHeartbeats 1000000 in
theorem capVLeast_any (E : Int) (A : Option Addr) (n c : Nat) (v : List Int) (A' : Option Addr) (m c' : Nat) (x : List Int) (e be : Nat) (w : World) (hv : Ints w A n v) (hf : isFn E v = true) (hx : Ints w A' m x) (hxo : vecOk 5000 x = true) (le : e ≤ 40) (he : w.cell? ⟨be, 0, none⟩ = some (.int .i64 (e : Nat))) :
    Calls Try.prog 160 #[.agg #[.int .i64 E, .slice A n c], .slice A' m c', .func (.func 161) #[] #[.pointer (some ⟨be, 0, none⟩)]] w fun r w' => r = .returned (.int .i64 ((minW (slk v x) (fun s => hasB s e) n).getD 0)) ∧ Below w.heap.size w w' := by
  have Hf := hide hf
  obtain ⟨N, rfl, fo⟩ := FnOk.of hf hv
  clear hf
  have n32 := fo.n32
  have ke := World.block_lt_of_cell? _ _ he
  go_enter Try.func160, Try.ntmps160
  go_wp2
  go_loopw [7, 8, 13] (fun t b i wr => ∃ k : Nat, k ≤ n ∧ i = .int .i64 k ∧ t = .int .i64 ((minW (slk v x) (fun s => hasB s e) k).getD 0) ∧ b = .bool (minW (slk v x) (fun s => hasB s e) k).isSome ∧ FB w wr N A n c) (fun _ _ i _ => n - (intOf i).toNat)
  case atStart => exact ⟨0, Nat.zero_le _, rfl, rfl, rfl, FB.start _ _ _ _ _⟩
  case round =>
    obtain ⟨k, hk, rfl, rfl, rfl, hFBr⟩ := hrel
    obtain ⟨hbelr, hzr, r0, r1⟩ := hFBr.parts
    by_cases hlt : k < n
    · have hk10 : k < 1024 := by omega
      have qe : wr.cell? ⟨be, 0, none⟩ = some (.int .i64 (e : Nat)) := (hbelr.cell (p := ⟨be, 0, none⟩) ke).trans he
      have hF := hide (capVFn_any k e be wr hk10 le qe)
      have hS := hide (fun W (hb : Below w.heap.size w W) => slack_any N A n c v A' m c' x k W (hv.below hb (Nat.le_refl _)) Hf.out (hx.below hb (Nat.le_refl _)) hxo hlt)
      clear qe
      cases h1 : hasB k e
      · have hs := hide (show minW (slk v x) (fun s => hasB s e) (k + 1) = minW (slk v x) (fun s => hasB s e) k by show (if hasB k e then _ else _) = _; rw [h1]; rfl)
        go_wp2_with fail
        refine hF.out.mono ?_
        rintro e w2 ⟨rfl, rfl⟩
        rw [h1]
        go_wp2
        go_roundw
        case rel => exact ⟨k + 1, by omega, by go_num, by rw [hs.out], by rw [hs.out], hFBr⟩
        case measure => simp [intOf]; omega
      · cases ho : minW (slk v x) (fun s => hasB s e) k with
        | none =>
          have hs := hide (show minW (slk v x) (fun s => hasB s e) (k + 1) = some (slk v x k) by show (if hasB k e then _ else _) = _; rw [h1, ho]; rfl)
          have e0 : (none : Option Int).isSome = false := rfl
          go_wp2_with fail
          refine hF.out.mono ?_
          rintro e w2 ⟨rfl, rfl⟩
          rw [h1]
          go_wp2_with fail
          refine (hS.out _ hbelr).mono ?_
          rintro e w2 ⟨rfl, hb2⟩
          go_wp2
          go_roundw
          case rel => exact ⟨k + 1, by omega, by go_num, by rw [hs.out]; rfl, by rw [hs.out]; rfl, hFBr.step hb2⟩
          case measure => simp [intOf]; omega
        | some m0 =>
          have hs := hide (show minW (slk v x) (fun s => hasB s e) (k + 1) = some (mn m0 (slk v x k)) by show (if hasB k e then _ else _) = _; rw [h1, ho]; rfl)
          by_cases hq : slk v x k < m0
          · have e1 : decide (slk v x k < m0) = true := by simp [hq]
            have hmn := hide (show mn m0 (slk v x k) = slk v x k by unfold mn; rw [if_pos hq])
            go_wp2_with fail
            refine hF.out.mono ?_
            rintro e w2 ⟨rfl, rfl⟩
            rw [h1]
            go_wp2_with fail
            refine (hS.out _ hbelr).mono ?_
            rintro e w2 ⟨rfl, hb2⟩
            have hFB2 := hFBr.step hb2
            obtain ⟨hbel2, hz2, u0, u1⟩ := hFB2.parts
            go_wp2_with fail
            refine (hS.out _ hbel2).mono ?_
            rintro e w3 ⟨rfl, hb3⟩
            go_wp2
            go_roundw
            case rel => exact ⟨k + 1, by omega, by go_num, by rw [hs.out, hmn.out]; rfl, by rw [hs.out]; rfl, hFB2.step hb3⟩
            case measure => simp [intOf]; omega
          · have e1 : decide (slk v x k < m0) = false := by simp; omega
            have hmn := hide (show mn m0 (slk v x k) = m0 by unfold mn; rw [if_neg hq])
            go_wp2_with fail
            refine hF.out.mono ?_
            rintro e w2 ⟨rfl, rfl⟩
            rw [h1]
            go_wp2_with fail
            refine (hS.out _ hbelr).mono ?_
            rintro e w2 ⟨rfl, hb2⟩
            have hFB2 := hFBr.step hb2
            go_wp2
            go_roundw
            case rel => exact ⟨k + 1, by omega, by go_num, by rw [hs.out, hmn.out]; rfl, by rw [hs.out]; rfl, hFB2⟩
            case measure => simp [intOf]; omega
    · obtain rfl : k = n := by omega
      go_wp2
      go_ret
      exact ⟨rfl, hbelr⟩

def excOk (E : Int) (v x : List Int) (e d : Int) : Bool := belowB E v x && (inR e 0 (E - 1) && (inR d 0 (E - 1) && !decide (e = d)))
def excV (E : Int) (v x : List Int) (e d : Int) : Int := if excOk E v x e d then (minW (slk v x) (fun s => hasB s e.toNat && !hasB s d.toNat) v.length).getD 0 else 0
theorem excVFn_any (s e d be bd : Nat) (w : World) (hs : s < 1024) (le : e ≤ 40) (ld : d ≤ 40) (he : w.cell? ⟨be, 0, none⟩ = some (.int .i64 (e : Nat))) (hd : w.cell? ⟨bd, 0, none⟩ = some (.int .i64 (d : Nat))) :
    Calls Try.prog 162 #[.int .i64 s, .pointer (some ⟨be, 0, none⟩), .pointer (some ⟨bd, 0, none⟩)] w fun r w' => r = .returned (.bool (hasB s e && !hasB s d)) ∧ w = w' := by
  cases h1 : hasB s e <;> cases h2 : hasB s d
  all_goals
    go_enter Try.func162, Try.ntmps162
    go_wp2
    go_ret
    exact ⟨rfl, rfl⟩
set_option maxHeartbeats 1000000 in
theorem excVLeast_any (E : Int) (A : Option Addr) (n c : Nat) (v : List Int) (A' : Option Addr) (m c' : Nat) (x : List Int) (e d be bd : Nat) (w : World) (hv : Ints w A n v) (hf : isFn E v = true) (hx : Ints w A' m x) (hxo : vecOk 5000 x = true) (le : e ≤ 40) (ld : d ≤ 40) (he : w.cell? ⟨be, 0, none⟩ = some (.int .i64 (e : Nat))) (hd : w.cell? ⟨bd, 0, none⟩ = some (.int .i64 (d : Nat))) :
    Calls Try.prog 160 #[.agg #[.int .i64 E, .slice A n c], .slice A' m c', .func (.func 162) #[] #[.pointer (some ⟨be, 0, none⟩), .pointer (some ⟨bd, 0, none⟩)]] w fun r w' => r = .returned (.int .i64 ((minW (slk v x) (fun s => hasB s e && !hasB s d) n).getD 0)) ∧ Below w.heap.size w w' := by
  have Hf := hide hf
  obtain ⟨N, rfl, fo⟩ := FnOk.of hf hv
  clear hf
  have n32 := fo.n32
  have ke := World.block_lt_of_cell? _ _ he
  have kd := World.block_lt_of_cell? _ _ hd
  go_enter Try.func160, Try.ntmps160
  go_wp2
  go_loopw [7, 8, 13] (fun t b i wr => ∃ k : Nat, k ≤ n ∧ i = .int .i64 k ∧ t = .int .i64 ((minW (slk v x) (fun s => hasB s e && !hasB s d) k).getD 0) ∧ b = .bool (minW (slk v x) (fun s => hasB s e && !hasB s d) k).isSome ∧ FB w wr N A n c) (fun _ _ i _ => n - (intOf i).toNat)
  case atStart => exact ⟨0, Nat.zero_le _, rfl, rfl, rfl, FB.start _ _ _ _ _⟩
  case round =>
    obtain ⟨k, hk, rfl, rfl, rfl, hFBr⟩ := hrel
    obtain ⟨hbelr, hzr, r0, r1⟩ := hFBr.parts
    by_cases hlt : k < n
    · have hk10 : k < 1024 := by omega
      have qe : wr.cell? ⟨be, 0, none⟩ = some (.int .i64 (e : Nat)) := (hbelr.cell (p := ⟨be, 0, none⟩) ke).trans he
      have qd : wr.cell? ⟨bd, 0, none⟩ = some (.int .i64 (d : Nat)) := (hbelr.cell (p := ⟨bd, 0, none⟩) kd).trans hd
      have hF := hide (excVFn_any k e d be bd wr hk10 le ld qe qd)
      have hS := hide (fun W (hb : Below w.heap.size w W) => slack_any N A n c v A' m c' x k W (hv.below hb (Nat.le_refl _)) Hf.out (hx.below hb (Nat.le_refl _)) hxo hlt)
      clear qe qd
      cases h1 : (hasB k e && !hasB k d)
      · have hs := hide (show minW (slk v x) (fun s => hasB s e && !hasB s d) (k + 1) = minW (slk v x) (fun s => hasB s e && !hasB s d) k by show (if (hasB k e && !hasB k d) then _ else _) = _; rw [h1]; rfl)
        go_wp2_with fail
        refine hF.out.mono ?_
        rintro e w2 ⟨rfl, rfl⟩
        rw [h1]
        go_wp2
        go_roundw
        case rel => exact ⟨k + 1, by omega, by go_num, by rw [hs.out], by rw [hs.out], hFBr⟩
        case measure => simp [intOf]; omega
      · cases ho : minW (slk v x) (fun s => hasB s e && !hasB s d) k with
        | none =>
          have hs := hide (show minW (slk v x) (fun s => hasB s e && !hasB s d) (k + 1) = some (slk v x k) by show (if (hasB k e && !hasB k d) then _ else _) = _; rw [h1, ho]; rfl)
          have e0 : (none : Option Int).isSome = false := rfl
          go_wp2_with fail
          refine hF.out.mono ?_
          rintro e w2 ⟨rfl, rfl⟩
          rw [h1]
          go_wp2_with fail
          refine (hS.out _ hbelr).mono ?_
          rintro e w2 ⟨rfl, hb2⟩
          go_wp2
          go_roundw
          case rel => exact ⟨k + 1, by omega, by go_num, by rw [hs.out]; rfl, by rw [hs.out]; rfl, hFBr.step hb2⟩
          case measure => simp [intOf]; omega
        | some m0 =>
          have hs := hide (show minW (slk v x) (fun s => hasB s e && !hasB s d) (k + 1) = some (mn m0 (slk v x k)) by show (if (hasB k e && !hasB k d) then _ else _) = _; rw [h1, ho]; rfl)
          by_cases hq : slk v x k < m0
          · have e1 : decide (slk v x k < m0) = true := by simp [hq]
            have hmn := hide (show mn m0 (slk v x k) = slk v x k by unfold mn; rw [if_pos hq])
            go_wp2_with fail
            refine hF.out.mono ?_
            rintro e w2 ⟨rfl, rfl⟩
            rw [h1]
            go_wp2_with fail
            refine (hS.out _ hbelr).mono ?_
            rintro e w2 ⟨rfl, hb2⟩
            have hFB2 := hFBr.step hb2
            obtain ⟨hbel2, hz2, u0, u1⟩ := hFB2.parts
            go_wp2_with fail
            refine (hS.out _ hbel2).mono ?_
            rintro e w3 ⟨rfl, hb3⟩
            go_wp2
            go_roundw
            case rel => exact ⟨k + 1, by omega, by go_num, by rw [hs.out, hmn.out]; rfl, by rw [hs.out]; rfl, hFB2.step hb3⟩
            case measure => simp [intOf]; omega
          · have e1 : decide (slk v x k < m0) = false := by simp; omega
            have hmn := hide (show mn m0 (slk v x k) = m0 by unfold mn; rw [if_neg hq])
            go_wp2_with fail
            refine hF.out.mono ?_
            rintro e w2 ⟨rfl, rfl⟩
            rw [h1]
            go_wp2_with fail
            refine (hS.out _ hbelr).mono ?_
            rintro e w2 ⟨rfl, hb2⟩
            have hFB2 := hFBr.step hb2
            go_wp2
            go_roundw
            case rel => exact ⟨k + 1, by omega, by go_num, by rw [hs.out, hmn.out]; rfl, by rw [hs.out]; rfl, hFB2⟩
            case measure => simp [intOf]; omega
    · obtain rfl : k = n := by omega
      go_wp2
      go_ret
      exact ⟨rfl, hbelr⟩
end Go.Proofs.Ytokeejachclpeaa
namespace Go.Proofs.Ytokeejachclpeaa
open Go.RowKit

set_option maxHeartbeats 1000000 in
theorem capacityOf_any (E : Int) (A : Option Addr) (n c : Nat) (v : List Int) (A' : Option Addr) (m c' : Nat) (x : List Int) (e : Int) (w : World) (hv : Ints w A n v) (hx : Ints w A' m x) :
    Calls Try.prog 40 #[.agg #[.int .i64 E, .slice A n c], .slice A' m c', .int .i64 e] w fun e0 w' => e0 = .returned (.tuple #[.int .i64 (capV E v x e), .bool (capOk E v x e)]) ∧ Below w.heap.size w w' := by
  have hmf : ∀ (fn : Fn) (first cap : Array Value) (w : World), (Instr.makeFunc fn first cap).run Try.prog w = .ok (.func fn first cap) w := fun _ _ _ _ => rfl
  have hF0 : FB w ((w.alloc (.cells #[.int .i64 E, .slice A n c] 26)).alloc (.cells #[.int .i64 e] 3)) E A n c := (FB.start w E A n c).step ((Below.refl _ _).alloc (Nat.le_refl _) _)
  have qe : ((w.alloc (.cells #[.int .i64 E, .slice A n c] 26)).alloc (.cells #[.int .i64 e] 3)).cell? ⟨w.heap.size + 1, 0, none⟩ = some (.int .i64 e) := by
    rw [World.cell?_alloc_at _ _ _ _ (by simp)]; rfl
  have he0 : w.heap.size + 1 < ((w.alloc (.cells #[.int .i64 E, .slice A n c] 26)).alloc (.cells #[.int .i64 e] 3)).heap.size := by simp
  generalize hW : ((w.alloc (.cells #[.int .i64 E, .slice A n c] 26)).alloc (.cells #[.int .i64 e] 3)) = W0 at hF0 qe he0 
  have HW := hide hW; clear hW
  cases hb : belowB E v x
  · have e0 : capOk E v x e = false := by simp [capOk, hb]
    have e1 : capV E v x e = 0 := by simp [capV, e0]
    rw [e0, e1]; clear e0 e1
    go_enter Try.func40, Try.ntmps40
    go_wp2_with fail
    rw [HW.out]
    refine (isBelow_any E A n c v A' m c' x _ (hv.below hF0.1 (Nat.le_refl _)) (hx.below hF0.1 (Nat.le_refl _))).mono ?_
    rintro e0 w1 ⟨rfl, hb1⟩
    rw [hb]
    go_wp2
    go_ret2
    exact ⟨rfl, (hF0.step hb1).1⟩
  obtain ⟨bfn, bg0, blen, bvec, ball⟩ := below_ok hb
  have Hb := hide hb
  have Hf := hide bfn
  clear bfn bg0 blen ball hb
  have eOk : capOk E v x e = inR e 0 (E - 1) := by simp [capOk, Hb.out]
  obtain ⟨N, rfl, fo⟩ := FnOk.of Hf.out hv
  have hN := fo.hN
  have hn := hide fo.hn
  have hnl := hide fo.hl
  cases h1 : inR e 0 ((N : Int) - 1)
  · have e0 : capOk N v x e = false := by rw [eOk]; simp [*]
    have e1 : capV N v x e = 0 := by simp [capV, e0]
    rw [e0, e1]; clear e0 e1 eOk
    go_enter Try.func40, Try.ntmps40
    go_wp2_with fail
    rw [HW.out]
    refine (isBelow_any N A n c v A' m c' x _ (hv.below hF0.1 (Nat.le_refl _)) (hx.below hF0.1 (Nat.le_refl _))).mono ?_
    rintro e0 w1 ⟨rfl, hb1⟩
    have hF1 := hF0.step hb1
    obtain ⟨hbel, hz, r0, r1⟩ := hF1.parts
    have qe1 := (hb1.cell (p := ⟨w.heap.size + 1, 0, none⟩) he0).trans qe
    rw [Hb.out]
    go_wp2_with fail
    refine (isElement_any _ _ _).mono ?_
    rintro e0 w' ⟨rfl, rfl⟩
    rw [h1]
    go_wp2
    go_ret2
    exact ⟨rfl, hbel⟩
  have Hk := hide (show capOk N v x e = true by rw [eOk]; simp [*])
  obtain ⟨e1, e2⟩ := inR_true h1
  obtain ⟨en, rfl⟩ := Int.eq_ofNat_of_zero_le e1
  have heN : en < N := by omega
  have eV : capV N v x en = (minW (slk v x) (fun s => hasB s en) n).getD 0 := by simp [capV, Hk.out, hnl.out]
  rw [eV, Hk.out]; clear eV eOk
  go_enter Try.func40, Try.ntmps40
  go_wp2_with fail
  rw [HW.out]
  refine (isBelow_any N A n c v A' m c' x _ (hv.below hF0.1 (Nat.le_refl _)) (hx.below hF0.1 (Nat.le_refl _))).mono ?_
  rintro e0 w1 ⟨rfl, hb1⟩
  have hF1 := hF0.step hb1
  obtain ⟨hbel, hz, r0, r1⟩ := hF1.parts
  have qe1 := (hb1.cell (p := ⟨w.heap.size + 1, 0, none⟩) he0).trans qe
  rw [Hb.out]
  go_wp2_with fail
  refine (isElement_any _ _ _).mono ?_
  rintro e0 w' ⟨rfl, rfl⟩
  rw [h1]
  have hL := capVLeast_any N A n c v A' m c' x en (w.heap.size + 1) w1 (hv.below hbel (Nat.le_refl _)) Hf.out (hx.below hbel (Nat.le_refl _)) bvec (by omega) qe1
  have HL := hide hL; clear hL
  go_wp2_with fail
  refine HL.out.mono ?_
  rintro e0 w2 ⟨rfl, hb2⟩
  go_wp2
  go_ret2
  exact ⟨rfl, (hF1.step hb2).1⟩
set_option maxHeartbeats 1000000 in
theorem specCapacityOf_any (E : Int) (A : Option Addr) (n c : Nat) (v : List Int) (A' : Option Addr) (m c' : Nat) (x : List Int) (e : Int) (w : World) (hv : Ints w A n v) (hx : Ints w A' m x) :
    Calls Try.prog 41 #[.agg #[.int .i64 E, .slice A n c], .slice A' m c', .int .i64 e] w fun e0 w' => e0 = .returned (.tuple #[.int .i64 (capV E v x e), .bool (capOk E v x e)]) ∧ Below w.heap.size w w' := by
  cases hb : belowB E v x
  · have e0 : capOk E v x e = false := by simp [capOk, hb]
    have e1 : capV E v x e = 0 := by simp [capV, e0]
    rw [e0, e1]; clear e0 e1
    go_enter Try.func41, Try.ntmps41
    go_wp2_with fail
    refine (specIsBelow_any E A n c v A' m c' x _ (hv.alloc _) (hx.alloc _)).mono ?_
    rintro e0 w1 ⟨rfl, hb1⟩
    rw [hb]
    go_wp2
    go_ret2
    exact ⟨rfl, ((FB.start w E A n c).step hb1).1⟩
  obtain ⟨bfn, bg0, blen, bvec, ball⟩ := below_ok hb
  have Hb := hide hb
  have Hf := hide bfn
  clear bfn bg0 blen ball hb
  have eOk : capOk E v x e = inR e 0 (E - 1) := by simp [capOk, Hb.out]
  obtain ⟨N, rfl, fo⟩ := FnOk.of Hf.out hv
  have hN := fo.hN
  have hn := hide fo.hn
  have hnl := hide fo.hl
  have n32 := fo.n32
  cases h1 : inR e 0 ((N : Int) - 1)
  · have e0 : capOk N v x e = false := by rw [eOk]; simp [*]
    have e1 : capV N v x e = 0 := by simp [capV, e0]
    rw [e0, e1]; clear e0 e1 eOk
    go_enter Try.func41, Try.ntmps41
    go_wp2_with fail
    refine (specIsBelow_any N A n c v A' m c' x _ (hv.alloc _) (hx.alloc _)).mono ?_
    rintro e0 w1 ⟨rfl, hb1⟩
    have hF1 := (FB.start w N A n c).step hb1
    obtain ⟨hbel, hz, r0, r1⟩ := hF1.parts
    rw [Hb.out]
    go_wp2_with fail
    refine (l1In_any _ _ _ _).mono ?_
    rintro e0 w' ⟨rfl, rfl⟩
    rw [h1]
    go_wp2
    go_ret2
    exact ⟨rfl, hbel⟩
  have Hk := hide (show capOk N v x e = true by rw [eOk]; simp [*])
  obtain ⟨e1, e2⟩ := inR_true h1
  obtain ⟨en, rfl⟩ := Int.eq_ofNat_of_zero_le e1
  have heN : en < N := by omega
  have eV : capV N v x en = (minW (slk v x) (fun s => hasB s en) n).getD 100000 := by
    have hs : (minW (slk v x) (fun s => hasB s en) n).isSome = true := minW_some (p := fun s => hasB s en) (j := 2 ^ en) (hasB_self) n (by rw [hn.out]; exact Nat.pow_lt_pow_right (by omega) heN)
    simp [capV, Hk.out, hnl.out]
    cases hm : minW (slk v x) (fun s => hasB s en) n with
    | none => rw [hm] at hs; cases hs
    | some m0 => rfl
  rw [eV, Hk.out]; clear eV eOk
  obtain ⟨b, off, rfl, hb, hc⟩ := hv.all_ fo.n0
  have HC := hide hc; clear hc
  go_enter Try.func41, Try.ntmps41
  go_wp2_with fail
  refine (specIsBelow_any N _ n c v A' m c' x _ (hv.alloc _) (hx.alloc _)).mono ?_
  rintro e0 w1 ⟨rfl, hb1⟩
  have hF1 := (FB.start w N (some ⟨b, off, none⟩) n c).step hb1
  obtain ⟨hbel, hz, r0, r1⟩ := hF1.parts
  rw [Hb.out]
  go_wp2_with fail
  refine (l1In_any _ _ _ _).mono ?_
  rintro e0 w' ⟨rfl, rfl⟩
  rw [h1]
  go_wp2
  clear r0 r1 
  have he40 : en ≤ 40 := by omega

  go_loopw [8, 9] (fun t i wr => ∃ k : Nat, k ≤ n ∧ i = .int .i64 k ∧ t = .int .i64 ((minW (slk v x) (fun s => hasB s en) k).getD 100000) ∧ FB w wr N (some ⟨b, off, none⟩) n c) (fun _ i _ => n - (intOf i).toNat)
  case atStart => exact ⟨0, Nat.zero_le _, rfl, rfl, hF1⟩
  case round =>
    obtain ⟨k, hk, rfl, rfl, hFBr⟩ := hrel
    obtain ⟨hbelr, hzr, r0, r1⟩ := hFBr.parts
    by_cases hlt : k < n
    · have c1 : wr.cell? ⟨b, off + k, none⟩ = some (.int .i64 (gv v k)) := (hbelr.cell (p := ⟨b, off + k, none⟩) hb).trans (HC.out _ hlt)
      have hk10 : k < 1024 := by omega
      have hxr := hide (hx.below hbelr (Nat.le_refl _))
      have i1 : (0 : Int) ≤ (k : Int) := by omega
      have i2 : (k : Int) < (n : Int) := by omega
      have g0 := fo.bd hlt
      have g1 := weigh_bd bvec k
      have t1 : IntKind.i64.wrap (gv v k - weigh x k) = slk v x k := IntWalk.i64_in _ (by omega)
      have hsb := slk_bd fo bvec hlt
      have HB := hide hbelr; clear hbelr
      cases h5 : hasB k en
      · have hs := hide (show minW (slk v x) (fun s => hasB s en) (k + 1) = minW (slk v x) (fun s => hasB s en) k by show (if hasB k en then _ else _) = _; rw [h5]; rfl)
        clear t1
        go_wp2
        go_roundw
        case rel => exact ⟨k + 1, by omega, by go_num, by rw [hs.out], hFBr⟩
        case measure => simp [intOf]; omega
      · have hs := hide (show (minW (slk v x) (fun s => hasB s en) (k + 1)).getD 100000 = mn ((minW (slk v x) (fun s => hasB s en) k).getD 100000) (slk v x k) by
          have e : minW (slk v x) (fun s => hasB s en) (k + 1) = (match minW (slk v x) (fun s => hasB s en) k with | none => some (slk v x k) | some m => some (mn m (slk v x k))) := by
            show (if hasB k en then _ else _) = _; rw [h5]; rfl
          rw [e]
          cases minW (slk v x) (fun s => hasB s en) k with
          | none => show slk v x k = mn 100000 (slk v x k); unfold mn; rw [if_pos (by omega)]
          | some m0 => rfl)
        generalize hM : (minW (slk v x) (fun s => hasB s en) k).getD 100000 = M at *
        have hmn : (if slk v x k < M then slk v x k else M) = mn M (slk v x k) := rfl
        clear hM


        go_wp2
        go_quiet ((go_at_call 156; exact quiet_left (l3Weigh_any _ _ _ x k _ hxr.out bvec hk10)))
        clear t1 hmn
        go_wp2
        go_roundw
        case rel => exact ⟨k + 1, by omega, by go_num, by rw [hs.out], hFBr.drewN _⟩
        case measure => simp [intOf]; omega
    · obtain rfl : k = n := by omega
      go_wp2
      go_ret2
      exact ⟨rfl, hbelr⟩
set_option maxHeartbeats 1000000 in
theorem exchangeCapacity_any (E : Int) (A : Option Addr) (n c : Nat) (v : List Int) (A' : Option Addr) (m c' : Nat) (x : List Int) (e d : Int) (w : World) (hv : Ints w A n v) (hx : Ints w A' m x) :
    Calls Try.prog 43 #[.agg #[.int .i64 E, .slice A n c], .slice A' m c', .int .i64 e, .int .i64 d] w fun e0 w' => e0 = .returned (.tuple #[.int .i64 (excV E v x e d), .bool (excOk E v x e d)]) ∧ Below w.heap.size w w' := by
  have hmf : ∀ (fn : Fn) (first cap : Array Value) (w : World), (Instr.makeFunc fn first cap).run Try.prog w = .ok (.func fn first cap) w := fun _ _ _ _ => rfl
  have hF0 : FB w (((w.alloc (.cells #[.int .i64 E, .slice A n c] 26)).alloc (.cells #[.int .i64 e] 3)).alloc (.cells #[.int .i64 d] 3)) E A n c := ((FB.start w E A n c).step ((Below.refl _ _).alloc (Nat.le_refl _) _)).step ((Below.refl _ _).alloc (Nat.le_refl _) _)
  have qe : (((w.alloc (.cells #[.int .i64 E, .slice A n c] 26)).alloc (.cells #[.int .i64 e] 3)).alloc (.cells #[.int .i64 d] 3)).cell? ⟨w.heap.size + 1, 0, none⟩ = some (.int .i64 e) := by
    rw [World.cell?_alloc_past _ _ _ (by simp), World.cell?_alloc_at _ _ _ _ (by simp)]; rfl
  have qd : (((w.alloc (.cells #[.int .i64 E, .slice A n c] 26)).alloc (.cells #[.int .i64 e] 3)).alloc (.cells #[.int .i64 d] 3)).cell? ⟨w.heap.size + 1 + 1, 0, none⟩ = some (.int .i64 d) := by
    rw [World.cell?_alloc_at _ _ _ _ (by simp)]; rfl
  have he0 : w.heap.size + 1 < (((w.alloc (.cells #[.int .i64 E, .slice A n c] 26)).alloc (.cells #[.int .i64 e] 3)).alloc (.cells #[.int .i64 d] 3)).heap.size := by simp
  have hd0 : w.heap.size + 1 + 1 < (((w.alloc (.cells #[.int .i64 E, .slice A n c] 26)).alloc (.cells #[.int .i64 e] 3)).alloc (.cells #[.int .i64 d] 3)).heap.size := by simp
  generalize hW : (((w.alloc (.cells #[.int .i64 E, .slice A n c] 26)).alloc (.cells #[.int .i64 e] 3)).alloc (.cells #[.int .i64 d] 3)) = W0 at hF0 qe qd he0 hd0
  have HW := hide hW; clear hW
  cases hb : belowB E v x
  · have e0 : excOk E v x e d = false := by simp [excOk, hb]
    have e1 : excV E v x e d = 0 := by simp [excV, e0]
    rw [e0, e1]; clear e0 e1
    go_enter Try.func43, Try.ntmps43
    go_wp2_with fail
    rw [HW.out]
    refine (isBelow_any E A n c v A' m c' x _ (hv.below hF0.1 (Nat.le_refl _)) (hx.below hF0.1 (Nat.le_refl _))).mono ?_
    rintro e0 w1 ⟨rfl, hb1⟩
    rw [hb]
    go_wp2
    go_ret2
    exact ⟨rfl, (hF0.step hb1).1⟩
  obtain ⟨bfn, bg0, blen, bvec, ball⟩ := below_ok hb
  have Hb := hide hb
  have Hf := hide bfn
  clear bfn bg0 blen ball hb
  have eOk : excOk E v x e d = (inR e 0 (E - 1) && (inR d 0 (E - 1) && !decide (e = d))) := by simp [excOk, Hb.out]
  obtain ⟨N, rfl, fo⟩ := FnOk.of Hf.out hv
  have hN := fo.hN
  have hn := hide fo.hn
  have hnl := hide fo.hl
  cases h1 : inR e 0 ((N : Int) - 1)
  · have e0 : excOk N v x e d = false := by rw [eOk]; simp [*]
    have e1 : excV N v x e d = 0 := by simp [excV, e0]
    rw [e0, e1]; clear e0 e1 eOk
    go_enter Try.func43, Try.ntmps43
    go_wp2_with fail
    rw [HW.out]
    refine (isBelow_any N A n c v A' m c' x _ (hv.below hF0.1 (Nat.le_refl _)) (hx.below hF0.1 (Nat.le_refl _))).mono ?_
    rintro e0 w1 ⟨rfl, hb1⟩
    have hF1 := hF0.step hb1
    obtain ⟨hbel, hz, r0, r1⟩ := hF1.parts
    have qe1 := (hb1.cell (p := ⟨w.heap.size + 1, 0, none⟩) he0).trans qe
    have qd1 := (hb1.cell (p := ⟨w.heap.size + 1 + 1, 0, none⟩) hd0).trans qd
    rw [Hb.out]
    go_wp2_with fail
    refine (isElement_any _ _ _).mono ?_
    rintro e0 w' ⟨rfl, rfl⟩
    rw [h1]
    go_wp2
    go_ret2
    exact ⟨rfl, hbel⟩
  cases h2 : inR d 0 ((N : Int) - 1)
  · have e0 : excOk N v x e d = false := by rw [eOk]; simp [*]
    have e1 : excV N v x e d = 0 := by simp [excV, e0]
    rw [e0, e1]; clear e0 e1 eOk
    go_enter Try.func43, Try.ntmps43
    go_wp2_with fail
    rw [HW.out]
    refine (isBelow_any N A n c v A' m c' x _ (hv.below hF0.1 (Nat.le_refl _)) (hx.below hF0.1 (Nat.le_refl _))).mono ?_
    rintro e0 w1 ⟨rfl, hb1⟩
    have hF1 := hF0.step hb1
    obtain ⟨hbel, hz, r0, r1⟩ := hF1.parts
    have qe1 := (hb1.cell (p := ⟨w.heap.size + 1, 0, none⟩) he0).trans qe
    have qd1 := (hb1.cell (p := ⟨w.heap.size + 1 + 1, 0, none⟩) hd0).trans qd
    rw [Hb.out]
    go_wp2_with fail
    refine (isElement_any _ _ _).mono ?_
    rintro e0 w' ⟨rfl, rfl⟩
    rw [h1]
    go_wp2_with fail
    refine (isElement_any _ _ _).mono ?_
    rintro e0 w' ⟨rfl, rfl⟩
    rw [h2]
    go_wp2
    go_ret2
    exact ⟨rfl, hbel⟩
  by_cases h3 : e = d
  · have e0 : excOk N v x e d = false := by rw [eOk]; simp [h3]
    have e1 : excV N v x e d = 0 := by simp [excV, e0]
    rw [e0, e1]; clear e0 e1 eOk
    subst h3
    go_enter Try.func43, Try.ntmps43
    go_wp2_with fail
    rw [HW.out]
    refine (isBelow_any N A n c v A' m c' x _ (hv.below hF0.1 (Nat.le_refl _)) (hx.below hF0.1 (Nat.le_refl _))).mono ?_
    rintro e0 w1 ⟨rfl, hb1⟩
    have hF1 := hF0.step hb1
    obtain ⟨hbel, hz, r0, r1⟩ := hF1.parts
    have qe1 := (hb1.cell (p := ⟨w.heap.size + 1, 0, none⟩) he0).trans qe
    have qd1 := (hb1.cell (p := ⟨w.heap.size + 1 + 1, 0, none⟩) hd0).trans qd
    rw [Hb.out]
    go_wp2_with fail
    refine (isElement_any _ _ _).mono ?_
    rintro e0 w' ⟨rfl, rfl⟩
    rw [h1]
    go_wp2_with fail
    refine (isElement_any _ _ _).mono ?_
    rintro e0 w' ⟨rfl, rfl⟩
    rw [h1]
    go_wp2
    go_ret2
    exact ⟨rfl, hbel⟩
  have Hk := hide (show excOk N v x e d = true by rw [eOk]; simp [*])
  obtain ⟨e1, e2⟩ := inR_true h1
  obtain ⟨en, rfl⟩ := Int.eq_ofNat_of_zero_le e1
  have heN : en < N := by omega
  obtain ⟨d1, d2⟩ := inR_true h2
  obtain ⟨dn, rfl⟩ := Int.eq_ofNat_of_zero_le d1
  have hdN : dn < N := by omega
  have hne : ((en : Int) == (dn : Int)) = false := by simp; omega
  have eV : excV N v x en dn = (minW (slk v x) (fun s => (hasB s en && !hasB s dn)) n).getD 0 := by simp [excV, Hk.out, hnl.out]
  rw [eV, Hk.out]; clear eV eOk
  go_enter Try.func43, Try.ntmps43
  go_wp2_with fail
  rw [HW.out]
  refine (isBelow_any N A n c v A' m c' x _ (hv.below hF0.1 (Nat.le_refl _)) (hx.below hF0.1 (Nat.le_refl _))).mono ?_
  rintro e0 w1 ⟨rfl, hb1⟩
  have hF1 := hF0.step hb1
  obtain ⟨hbel, hz, r0, r1⟩ := hF1.parts
  have qe1 := (hb1.cell (p := ⟨w.heap.size + 1, 0, none⟩) he0).trans qe
  have qd1 := (hb1.cell (p := ⟨w.heap.size + 1 + 1, 0, none⟩) hd0).trans qd
  rw [Hb.out]
  go_wp2_with fail
  refine (isElement_any _ _ _).mono ?_
  rintro e0 w' ⟨rfl, rfl⟩
  rw [h1]
  go_wp2_with fail
  refine (isElement_any _ _ _).mono ?_
  rintro e0 w' ⟨rfl, rfl⟩
  rw [h2]
  have hL := excVLeast_any N A n c v A' m c' x en dn (w.heap.size + 1) (w.heap.size + 1 + 1) w1 (hv.below hbel (Nat.le_refl _)) Hf.out (hx.below hbel (Nat.le_refl _)) bvec (by omega) (by omega) qe1 qd1
  have HL := hide hL; clear hL
  go_wp2_with fail
  refine HL.out.mono ?_
  rintro e0 w2 ⟨rfl, hb2⟩
  go_wp2
  go_ret2
  exact ⟨rfl, (hF1.step hb2).1⟩
set_option maxHeartbeats 1000000 in
theorem specExchangeCapacity_any (E : Int) (A : Option Addr) (n c : Nat) (v : List Int) (A' : Option Addr) (m c' : Nat) (x : List Int) (e d : Int) (w : World) (hv : Ints w A n v) (hx : Ints w A' m x) :
    Calls Try.prog 44 #[.agg #[.int .i64 E, .slice A n c], .slice A' m c', .int .i64 e, .int .i64 d] w fun e0 w' => e0 = .returned (.tuple #[.int .i64 (excV E v x e d), .bool (excOk E v x e d)]) ∧ Below w.heap.size w w' := by
  cases hb : belowB E v x
  · have e0 : excOk E v x e d = false := by simp [excOk, hb]
    have e1 : excV E v x e d = 0 := by simp [excV, e0]
    rw [e0, e1]; clear e0 e1
    go_enter Try.func44, Try.ntmps44
    go_wp2_with fail
    refine (specIsBelow_any E A n c v A' m c' x _ (hv.alloc _) (hx.alloc _)).mono ?_
    rintro e0 w1 ⟨rfl, hb1⟩
    rw [hb]
    go_wp2
    go_ret2
    exact ⟨rfl, ((FB.start w E A n c).step hb1).1⟩
  obtain ⟨bfn, bg0, blen, bvec, ball⟩ := below_ok hb
  have Hb := hide hb
  have Hf := hide bfn
  clear bfn bg0 blen ball hb
  have eOk : excOk E v x e d = (inR e 0 (E - 1) && (inR d 0 (E - 1) && !decide (e = d))) := by simp [excOk, Hb.out]
  obtain ⟨N, rfl, fo⟩ := FnOk.of Hf.out hv
  have hN := fo.hN
  have hn := hide fo.hn
  have hnl := hide fo.hl
  have n32 := fo.n32
  cases h1 : inR e 0 ((N : Int) - 1)
  · have e0 : excOk N v x e d = false := by rw [eOk]; simp [*]
    have e1 : excV N v x e d = 0 := by simp [excV, e0]
    rw [e0, e1]; clear e0 e1 eOk
    go_enter Try.func44, Try.ntmps44
    go_wp2_with fail
    refine (specIsBelow_any N A n c v A' m c' x _ (hv.alloc _) (hx.alloc _)).mono ?_
    rintro e0 w1 ⟨rfl, hb1⟩
    have hF1 := (FB.start w N A n c).step hb1
    obtain ⟨hbel, hz, r0, r1⟩ := hF1.parts
    rw [Hb.out]
    go_wp2_with fail
    refine (l1In_any _ _ _ _).mono ?_
    rintro e0 w' ⟨rfl, rfl⟩
    rw [h1]
    go_wp2
    go_ret2
    exact ⟨rfl, hbel⟩
  cases h2 : inR d 0 ((N : Int) - 1)
  · have e0 : excOk N v x e d = false := by rw [eOk]; simp [*]
    have e1 : excV N v x e d = 0 := by simp [excV, e0]
    rw [e0, e1]; clear e0 e1 eOk
    go_enter Try.func44, Try.ntmps44
    go_wp2_with fail
    refine (specIsBelow_any N A n c v A' m c' x _ (hv.alloc _) (hx.alloc _)).mono ?_
    rintro e0 w1 ⟨rfl, hb1⟩
    have hF1 := (FB.start w N A n c).step hb1
    obtain ⟨hbel, hz, r0, r1⟩ := hF1.parts
    rw [Hb.out]
    go_wp2_with fail
    refine (l1In_any _ _ _ _).mono ?_
    rintro e0 w' ⟨rfl, rfl⟩
    rw [h1]
    go_wp2_with fail
    refine (l1In_any _ _ _ _).mono ?_
    rintro e0 w' ⟨rfl, rfl⟩
    rw [h2]
    go_wp2
    go_ret2
    exact ⟨rfl, hbel⟩
  by_cases h3 : e = d
  · have e0 : excOk N v x e d = false := by rw [eOk]; simp [h3]
    have e1 : excV N v x e d = 0 := by simp [excV, e0]
    rw [e0, e1]; clear e0 e1 eOk
    subst h3
    go_enter Try.func44, Try.ntmps44
    go_wp2_with fail
    refine (specIsBelow_any N A n c v A' m c' x _ (hv.alloc _) (hx.alloc _)).mono ?_
    rintro e0 w1 ⟨rfl, hb1⟩
    have hF1 := (FB.start w N A n c).step hb1
    obtain ⟨hbel, hz, r0, r1⟩ := hF1.parts
    rw [Hb.out]
    go_wp2_with fail
    refine (l1In_any _ _ _ _).mono ?_
    rintro e0 w' ⟨rfl, rfl⟩
    rw [h1]
    go_wp2_with fail
    refine (l1In_any _ _ _ _).mono ?_
    rintro e0 w' ⟨rfl, rfl⟩
    rw [h1]
    go_wp2
    go_ret2
    exact ⟨rfl, hbel⟩
  have Hk := hide (show excOk N v x e d = true by rw [eOk]; simp [*])
  obtain ⟨e1, e2⟩ := inR_true h1
  obtain ⟨en, rfl⟩ := Int.eq_ofNat_of_zero_le e1
  have heN : en < N := by omega
  obtain ⟨d1, d2⟩ := inR_true h2
  obtain ⟨dn, rfl⟩ := Int.eq_ofNat_of_zero_le d1
  have hdN : dn < N := by omega
  have hne2 : en ≠ dn := by omega
  have hne : ((en : Int) == (dn : Int)) = false := by simp; omega
  have eV : excV N v x en dn = (minW (slk v x) (fun s => (hasB s en && !hasB s dn)) n).getD 100000 := by
    have hs : (minW (slk v x) (fun s => (hasB s en && !hasB s dn)) n).isSome = true := minW_some (p := fun s => (hasB s en && !hasB s dn)) (j := 2 ^ en) (by simp [hasB_self, hasB_two hne2]) n (by rw [hn.out]; exact Nat.pow_lt_pow_right (by omega) heN)
    simp [excV, Hk.out, hnl.out]
    cases hm : minW (slk v x) (fun s => (hasB s en && !hasB s dn)) n with
    | none => rw [hm] at hs; cases hs
    | some m0 => rfl
  rw [eV, Hk.out]; clear eV eOk
  obtain ⟨b, off, rfl, hb, hc⟩ := hv.all_ fo.n0
  have HC := hide hc; clear hc
  go_enter Try.func44, Try.ntmps44
  go_wp2_with fail
  refine (specIsBelow_any N _ n c v A' m c' x _ (hv.alloc _) (hx.alloc _)).mono ?_
  rintro e0 w1 ⟨rfl, hb1⟩
  have hF1 := (FB.start w N (some ⟨b, off, none⟩) n c).step hb1
  obtain ⟨hbel, hz, r0, r1⟩ := hF1.parts
  rw [Hb.out]
  go_wp2_with fail
  refine (l1In_any _ _ _ _).mono ?_
  rintro e0 w' ⟨rfl, rfl⟩
  rw [h1]
  go_wp2_with fail
  refine (l1In_any _ _ _ _).mono ?_
  rintro e0 w' ⟨rfl, rfl⟩
  rw [h2]
  go_wp2
  clear r0 r1 hne
  have he40 : en ≤ 40 := by omega
  have hd40 : dn ≤ 40 := by omega
  go_loopw [10, 11] (fun t i wr => ∃ k : Nat, k ≤ n ∧ i = .int .i64 k ∧ t = .int .i64 ((minW (slk v x) (fun s => (hasB s en && !hasB s dn)) k).getD 100000) ∧ FB w wr N (some ⟨b, off, none⟩) n c) (fun _ i _ => n - (intOf i).toNat)
  case atStart => exact ⟨0, Nat.zero_le _, rfl, rfl, hF1⟩
  case round =>
    obtain ⟨k, hk, rfl, rfl, hFBr⟩ := hrel
    obtain ⟨hbelr, hzr, r0, r1⟩ := hFBr.parts
    by_cases hlt : k < n
    · have c1 : wr.cell? ⟨b, off + k, none⟩ = some (.int .i64 (gv v k)) := (hbelr.cell (p := ⟨b, off + k, none⟩) hb).trans (HC.out _ hlt)
      have hk10 : k < 1024 := by omega
      have hxr := hide (hx.below hbelr (Nat.le_refl _))
      have i1 : (0 : Int) ≤ (k : Int) := by omega
      have i2 : (k : Int) < (n : Int) := by omega
      have g0 := fo.bd hlt
      have g1 := weigh_bd bvec k
      have t1 : IntKind.i64.wrap (gv v k - weigh x k) = slk v x k := IntWalk.i64_in _ (by omega)
      have hsb := slk_bd fo bvec hlt
      have HB := hide hbelr; clear hbelr
      cases h5 : (hasB k en && !hasB k dn)
      · have hs := hide (show minW (slk v x) (fun s => (hasB s en && !hasB s dn)) (k + 1) = minW (slk v x) (fun s => (hasB s en && !hasB s dn)) k by show (if (hasB k en && !hasB k dn) then _ else _) = _; rw [h5]; rfl)
        clear t1
        cases h6 : hasB k en
        · go_wp2
          go_roundw
          case rel => exact ⟨k + 1, by omega, by go_num, by rw [hs.out], hFBr⟩
          case measure => simp [intOf]; omega
        · have h7 : hasB k dn = true := by simp [h6] at h5; exact h5
          go_wp2
          go_roundw
          case rel => exact ⟨k + 1, by omega, by go_num, by rw [hs.out], hFBr⟩
          case measure => simp [intOf]; omega
      · have hs := hide (show (minW (slk v x) (fun s => (hasB s en && !hasB s dn)) (k + 1)).getD 100000 = mn ((minW (slk v x) (fun s => (hasB s en && !hasB s dn)) k).getD 100000) (slk v x k) by
          have e : minW (slk v x) (fun s => (hasB s en && !hasB s dn)) (k + 1) = (match minW (slk v x) (fun s => (hasB s en && !hasB s dn)) k with | none => some (slk v x k) | some m => some (mn m (slk v x k))) := by
            show (if (hasB k en && !hasB k dn) then _ else _) = _; rw [h5]; rfl
          rw [e]
          cases minW (slk v x) (fun s => (hasB s en && !hasB s dn)) k with
          | none => show slk v x k = mn 100000 (slk v x k); unfold mn; rw [if_pos (by omega)]
          | some m0 => rfl)
        generalize hM : (minW (slk v x) (fun s => (hasB s en && !hasB s dn)) k).getD 100000 = M at *
        have hmn : (if slk v x k < M then slk v x k else M) = mn M (slk v x k) := rfl
        clear hM
        have h6 : hasB k en = true := by simp at h5; exact h5.1
        have h7 : hasB k dn = false := by simp at h5; exact h5.2
        go_wp2
        go_quiet ((go_at_call 156; exact quiet_left (l3Weigh_any _ _ _ x k _ hxr.out bvec hk10)))
        clear t1 hmn
        go_wp2
        go_roundw
        case rel => exact ⟨k + 1, by omega, by go_num, by rw [hs.out], hFBr.drewN _⟩
        case measure => simp [intOf]; omega
    · obtain rfl : k = n := by omega
      go_wp2
      go_ret2
      exact ⟨rfl, hbelr⟩
end Go.Proofs.Ytokeejachclpeaa
namespace Go.Proofs.Ytokeejachclpeaa
open Go.RowKit

theorem mn_comm (a b : Int) : mn a b = mn b a := by unfold mn; split <;> split <;> omega
theorem gv_set {L : List Int} {e j : Nat} {u : Int} (hj : j < L.length) : gv (L.set e u) j = if e = j then u else gv L j := by
  rw [gv_get (by simpa using hj), List.getElem_set, gv_get hj]
def raiseT (E : Int) (v mo x : List Int) : Nat → List Int
  | 0 => x
  | e + 1 => if gv (raiseT E v mo x e) e < gv mo e then (raiseT E v mo x e).set e (mn (gv (raiseT E v mo x e) e + capV E v (raiseT E v mo x e) (e : Int)) (gv mo e)) else raiseT E v mo x e
theorem raiseT_len (E : Int) (v mo x : List Int) : ∀ e, (raiseT E v mo x e).length = x.length
  | 0 => rfl
  | e + 1 => by
    have ih := raiseT_len E v mo x e
    unfold raiseT; split <;> simp [ih]
theorem capV_bd {E : Int} {v : List Int} (x : List Int) (e : Int) (hf : isFn E v = true) : 0 ≤ capV E v x e ∧ capV E v x e ≤ 26000 := by
  unfold capV
  split
  · rename_i h
    simp only [capOk, Bool.and_eq_true] at h
    obtain ⟨b1, b2, b3, b4, b5⟩ := below_ok h.1
    obtain ⟨N, rfl, hN, hl, ha⟩ := isFn_true hf
    have fo : FnOk N v.length v := ⟨hN, hl, rfl, ha⟩
    cases hm : minW (slk v x) (fun s => hasB s e.toNat) v.length with
    | none => simp
    | some m =>
      have := minW_bd (c := slk v x) (p := fun s => hasB s e.toNat) (a := 0) (b := 26000) (n := v.length) (fun j hj => ⟨b5 j hj, (slk_bd fo b4 hj).2⟩) v.length (Nat.le_refl _) m hm
      simpa using this
  · omega
theorem raiseT_bd {E : Int} {v mo x : List Int} (hf : isFn E v = true) (hx : allIn x (-5000) 5000 = true) (hm : allIn mo (-5000) 5000 = true) (hl : x.length = mo.length) : ∀ e, e ≤ x.length → ∀ j, j < x.length → -5000 ≤ gv (raiseT E v mo x e) j ∧ gv (raiseT E v mo x e) j ≤ 5000
  | 0, _, j, hj => allIn_gv hj hx
  | e + 1, he, j, hj => by
    have ih := raiseT_bd hf hx hm hl e (by omega)
    have h1 := ih j hj
    have h2 := ih e (by omega)
    have h3 := allIn_gv (v := mo) (k := e) (by omega) hm
    have h4 := capV_bd (raiseT E v mo x e) (e : Int) hf
    unfold raiseT
    split
    · rw [gv_set (by rw [raiseT_len]; exact hj)]
      split
      · unfold mn; split <;> omega
      · exact h1
    · exact h1
def raiseOk (E : Int) (v x mo : List Int) : Bool := subB E v && (belowB E v x && longOk E mo)
def raiseL (E : Int) (v x mo : List Int) : List Int := if raiseOk E v x mo then raiseT E v mo x x.length else []
set_option maxHeartbeats 400000 in
theorem clone_any (A : Option Addr) (m c : Nat) (x : List Int) (w : World) (hx : Ints w A m x) (hm : m ≤ 1048576) :
    Calls Try.prog 172 #[.slice A m c] w fun e w' => ∃ B cr, e = .returned (.slice B m cr) ∧ Own w' w.heap.size B m cr x ∧ Below w.heap.size w w' := by
  have q22 : ∀ (w : World) (a : Option Addr) (n c n' c' : Nat), (binOp .eql 24 (.slice a n c) (.slice none n' c')).run Try.prog w = .ok (.bool a.isNone) w := fun w a n c n' c' => Lib.run_eql_slice_nil w _ _ a n c n' c' Try.underlying24
  cases A with
  | none =>
    have h0 : m = 0 := by
      by_cases h : 0 < m
      · obtain ⟨b, off, e, _⟩ := hx.all_ h; cases e
      · omega
    subst h0
    have e : x = [] := List.length_eq_zero_iff.1 hx.len
    subst e
    go_enter Try.func172, Try.ntmps172
    go_wp2
    go_ret
    exact ⟨none, 0, rfl, own_nil _ _, Below.refl _ _⟩
  | some a =>
    have hB1 := (Below.refl w.heap.size w).alloc (Nat.le_refl _) (.cells #[] 3)
    have hO := own_zero w (Nat.le_refl w.heap.size)
    have hI := hx.alloc (.cells #[] 3)
    go_enter Try.func172, Try.ntmps172
    go_wp2_with (refine wpl_apps (by rfl) _ _ (by rfl) w.heap.size _ 0 0 [] (some a) m c x (by rfl) (by rfl) hO hI (by omega) hm (by simp) ?_; intro A' c' w2 hown2 hgrow hat)
    go_ret
    rw [Nat.zero_add] at hown2
    exact ⟨A', c', by simp, hown2, hB1.grown hgrow (by simp) (fun k hk => by simp at hk; omega)⟩
theorem fb_set' {w wr : World} {E : Int} {A : Option Addr} {n c : Nat} (h : FB w wr E A n c) {p : Addr} (hp : w.heap.size < p.block) (u : Value) : FB w (wr.setCell p u) E A n c := by
  have hb := (Below.refl (w.heap.size + 1) wr).setCell (p := p) hp u
  obtain ⟨h1, h2, h3, h4⟩ := h
  refine ⟨h1.setCell (Nat.le_of_lt hp) u, Nat.lt_of_lt_of_le h2 hb.size, ?_, ?_⟩
  · exact (hb.cell (p := ⟨w.heap.size, 0, none⟩) (Nat.lt_succ_self _)).trans h3
  · exact (hb.cell (p := ⟨w.heap.size, 1, none⟩) (Nat.lt_succ_self _)).trans h4
set_option maxHeartbeats 4000000 in
theorem raiseVector_any (E : Int) (A : Option Addr) (n c : Nat) (v : List Int) (A' : Option Addr) (m c' : Nat) (x : List Int) (A2 : Option Addr) (m2 c2 : Nat) (mo : List Int) (w : World) (hv : Ints w A n v) (hx : Ints w A' m x) (hmo : Ints w A2 m2 mo) :
    Calls Try.prog 49 #[.agg #[.int .i64 E, .slice A n c], .slice A' m c', .slice A2 m2 c2] w fun e w' => ∃ B r cr, e = .returned (.tuple #[.slice B r cr, .bool (raiseOk E v x mo)]) ∧ Own w' w.heap.size B r cr (raiseL E v x mo) ∧ r ≤ 1048576 ∧ Below w.heap.size w w' := by
  have hF0 := FB.start w E A n c
  obtain ⟨hbel0, hz0, r0, r1⟩ := hF0.parts
  have hcall := isSubmodular_any E A n c v _ (hv.below hbel0 (Nat.le_refl _))
  have HB := hide (fun W (h : Below w.heap.size w W) => isBelow_any E A n c v A' m c' x W (hv.below h (Nat.le_refl _)) (hx.below h (Nat.le_refl _)))
  cases hs : subB E v
  · have e0 : raiseOk E v x mo = false := by simp [raiseOk, hs]
    have e1 : raiseL E v x mo = [] := by simp [raiseL, e0]
    rw [e0, e1]; clear e0 e1
    rw [hs] at hcall
    have HC := hide hcall; clear hcall
    go_enter Try.func49, Try.ntmps49
    go_wp2_with fail
    refine HC.out.mono ?_
    rintro e w1 ⟨rfl, hb1⟩
    have hF1 := hF0.step hb1
    go_wp2
    go_ret2
    exact ⟨none, 0, 0, rfl, own_nil _ _, by omega, hF1.1⟩
  rw [hs] at hcall
  have HC := hide hcall; clear hcall
  cases hb : belowB E v x
  · have e0 : raiseOk E v x mo = false := by simp [raiseOk, hb]
    have e1 : raiseL E v x mo = [] := by simp [raiseL, e0]
    rw [e0, e1]; clear e0 e1
    rw [hb] at HB
    clear hb hs
    go_enter Try.func49, Try.ntmps49
    go_wp2_with fail
    refine HC.out.mono ?_
    rintro e w1 ⟨rfl, hb1⟩
    have hF1 := hF0.step hb1
    clear r0 r1
    obtain ⟨hbel1, hz1, r0, r1⟩ := hF1.parts
    go_wp2_with fail
    refine (HB.out _ hbel1).mono ?_
    rintro e w2 ⟨rfl, hb2⟩
    have hF2 := hF1.step hb2
    go_wp2
    go_ret2
    exact ⟨none, 0, 0, rfl, own_nil _ _, by omega, hF2.1⟩
  rw [hb] at HB
  obtain ⟨hf, bg0, blen, bvec, _⟩ := below_ok hb
  have hxl := hx.len
  have hml := hmo.len
  obtain ⟨N, rfl, fo⟩ := FnOk.of hf hv
  have hN := fo.hN
  have hmN : m = N := by omega
  have HL := hide (fun W (h : Below w.heap.size w W) => isLongVector_any N A A2 n c m2 c2 mo W (hmo.below h (Nat.le_refl _)))
  cases hl : longOk N mo
  · have e0 : raiseOk N v x mo = false := by simp [raiseOk, hl]
    have e1 : raiseL N v x mo = [] := by simp [raiseL, e0]
    rw [e0, e1]; clear e0 e1
    rw [hl] at HL
    clear hb hs hl hmN hxl hml bg0 blen bvec hf
    go_enter Try.func49, Try.ntmps49
    go_wp2_with fail
    refine HC.out.mono ?_
    rintro e w1 ⟨rfl, hb1⟩
    have hF1 := hF0.step hb1
    clear r0 r1
    obtain ⟨hbel1, hz1, r0, r1⟩ := hF1.parts
    go_wp2_with fail
    refine (HB.out _ hbel1).mono ?_
    rintro e w2 ⟨rfl, hb2⟩
    have hF2 := hF1.step hb2
    clear r0 r1
    obtain ⟨hbel2, hz2, r0, r1⟩ := hF2.parts
    go_wp2_with fail
    refine (HL.out _ hbel2).mono ?_
    rintro e w3 ⟨rfl, hb3⟩
    have hF3 := hF2.step hb3
    go_wp2
    go_ret2
    exact ⟨none, 0, 0, rfl, own_nil _ _, by omega, hF3.1⟩
  rw [hl] at HL
  have e0 : raiseOk N v x mo = true := by simp [raiseOk, hs, hb, hl]
  have e1 : raiseL N v x mo = raiseT N v mo x m := by simp [raiseL, e0, hxl]
  rw [e0, e1]; clear e0 e1
  have hmo2 : mo.length = m := by simp [longOk] at hl; omega
  have HBD := hide (fun e (he : e ≤ m) j (hj : j < m) => raiseT_bd (E := N) (v := v) (mo := mo) (x := x) hf (vecOk_true bvec).2 (by simp [longOk] at hl; exact hl.2) (by omega) e (by omega) j (by omega))
  have HCB := hide (fun L (e : Int) => capV_bd L e hf)
  have HM := hide (fun j (hj : j < m) => allIn_gv (v := mo) (k := j) (by omega) (by simp [longOk] at hl; exact hl.2))
  have m5 : m ≤ 5 := by omega
  have hm2 : m2 = m := by omega
  clear hb hs hl bvec bg0 blen hmN hmo2 hxl hml 
  subst hm2
  clear r0 r1
  go_enter Try.func49, Try.ntmps49
  go_wp2_with fail
  refine HC.out.mono ?_
  rintro e w1 ⟨rfl, hb1⟩
  have hF1 := hF0.step hb1
  obtain ⟨hbel1, hz1, r0, r1⟩ := hF1.parts
  go_wp2_with fail
  refine (HB.out _ hbel1).mono ?_
  rintro e w2 ⟨rfl, hb2⟩
  have hF2 := hF1.step hb2
  clear r0 r1
  obtain ⟨hbel2, hz2, r0, r1⟩ := hF2.parts
  go_wp2_with fail
  refine (HL.out _ hbel2).mono ?_
  rintro e w3 ⟨rfl, hb3⟩
  have hF3 := hF2.step hb3
  clear r0 r1
  obtain ⟨hbel3, hz3, r0, r1⟩ := hF3.parts
  go_wp2_with fail
  refine (clone_any A' m2 c' x _ (hx.below hbel3 (Nat.le_refl _)) (by omega)).mono ?_
  rintro e w4 ⟨B, cr, rfl, hown, hb4⟩
  have hF4 := hF3.step hb4
  replace hown := hown.less (B' := w.heap.size + 1) hz3
  go_wp2
  clear r0 r1
  go_loopw [31] (fun t wr => ∃ k : Nat, k ≤ m2 ∧ t = .int .i64 k ∧ Own wr (w.heap.size + 1) B m2 cr (raiseT N v mo x k) ∧ FB w wr N A n c) (fun t _ => m2 - (intOf t).toNat)
  case atStart => exact ⟨0, Nat.zero_le _, rfl, hown, hF4⟩
  clear hown hF4
  case round =>
    obtain ⟨k, hk, rfl, hown, hFBr⟩ := hrel
    obtain ⟨hbelr, hzr, r0, r1⟩ := hFBr.parts
    by_cases hlt : k < m2
    · obtain ⟨g, rfl, hgB, hgl⟩ := hown.form (by omega)
      obtain ⟨b2, off2, rfl, hbb2, hcc2⟩ := hmo.all_ (by omega)
      have hst := hide (show raiseT N v mo x (k + 1) = if gv (raiseT N v mo x k) k < gv mo k then (raiseT N v mo x k).set k (mn (gv (raiseT N v mo x k) k + capV N v (raiseT N v mo x k) (k : Int)) (gv mo k)) else raiseT N v mo x k from rfl)
      have q1 := HBD.out k hk k hlt
      have q2 := HCB.out (raiseT N v mo x k) (k : Int)
      have q3 := HM.out k hlt
      have c5 : wr.cell? ⟨b2, off2 + k, none⟩ = some (.int .i64 (gv mo k)) := (hbelr.cell (p := ⟨b2, off2 + k, none⟩) hbb2).trans (hcc2 k hlt)
      have HCap := hide (fun W (h1 : Below w.heap.size w W) (h2 : Ints W (some ⟨g, 0, none⟩) m2 (raiseT N v mo x k)) => capacityOf_any N A n c v (some ⟨g, 0, none⟩) m2 cr (raiseT N v mo x k) (k : Int) W (hv.below h1 (Nat.le_refl _)) h2)
      clear hcc2
      generalize raiseT N v mo x k = L at *
      have i1 : (0 : Int) ≤ (k : Int) := by omega
      have i2 : (k : Int) < (m2 : Int) := by omega
      have hne : b2 ≠ g := by omega
      have hne' : g ≠ b2 := by omega
      by_cases hq : gv L k < gv mo k
      · have hs := hide (hst.out.trans (if_pos hq))
        have hd : decide (gv L k < gv mo k) = true := by simp [hq]
        clear hq
        have o1 : Own wr.drew (w.heap.size + 1) (some ⟨g, 0, none⟩) m2 cr L := hown
        have d1 := hown.cell hlt
        go_wp2
        go_quiet (fail)
        go_wp2_with fail
        have hw5 := hFBr.drewN nq
        have ow5 := hown.below (below_drewN (Below.refl wr.heap.size wr) nq) (Nat.le_refl _)
        refine (HCap.out _ hw5.1 ow5.ints).mono ?_
        rintro e w5 ⟨rfl, hb5⟩
        have hF5 := hw5.step hb5
        have o5 := ow5.below hb5 (Nat.le_refl _)
        have d2 := o5.cell hlt
        have d3 := o5.frozen k
        have d4 : w5.cell? ⟨b2, off2 + k, none⟩ = some (.int .i64 (gv mo k)) := (hb5.cell (p := ⟨b2, off2 + k, none⟩) (Nat.lt_of_lt_of_le hbb2 hbelr.size)).trans c5
        clear d1 c5 r0 r1
        obtain ⟨hbel5, hz5, r0, r1⟩ := hF5.parts
        generalize capV N v L (k : Int) = R at *
        have hm : (if gv mo k < gv L k + R then gv mo k else gv L k + R) = mn (gv L k + R) (gv mo k) := rfl
        have t1 : IntKind.i64.wrap (gv L k + R) = gv L k + R := IntWalk.i64_in _ (by omega)
        go_wp2
        go_region
        all_goals
          go_wp2
          go_roundw
          case rel => exact ⟨k + 1, by omega, by go_num, by rw [hs.out]; exact o5.set_ k _, fb_set' hF5.drew (p := ⟨g, k, none⟩) (by simp; omega) _⟩
          case measure => simp [intOf]; omega
      · have hs := hide (hst.out.trans (if_neg hq))
        have hd : decide (gv L k < gv mo k) = false := by simp [hq]
        clear hq
        have d1 := hown.cell hlt
        go_wp2
        go_quiet (fail)
        go_wp2
        go_roundw
        case rel => exact ⟨k + 1, by omega, by go_num, by rw [hs.out]; exact hown, hFBr.drewN _⟩
        case measure => simp [intOf]; omega
    · obtain rfl : k = m2 := by omega
      go_wp2
      go_ret2
      exact ⟨B, k, cr, rfl, hown.less (Nat.le_succ _), by omega, hbelr⟩
set_option maxHeartbeats 4000000 in
theorem specRaiseVector_any (E : Int) (A : Option Addr) (n c : Nat) (v : List Int) (A' : Option Addr) (m c' : Nat) (x : List Int) (A2 : Option Addr) (m2 c2 : Nat) (mo : List Int) (w : World) (hv : Ints w A n v) (hx : Ints w A' m x) (hmo : Ints w A2 m2 mo) :
    Calls Try.prog 50 #[.agg #[.int .i64 E, .slice A n c], .slice A' m c', .slice A2 m2 c2] w fun e w' => ∃ B r cr, e = .returned (.tuple #[.slice B r cr, .bool (raiseOk E v x mo)]) ∧ Own w' w.heap.size B r cr (raiseL E v x mo) ∧ r ≤ 1048576 ∧ Below w.heap.size w w' := by
  have hF0 := FB.start w E A n c
  obtain ⟨hbel0, hz0, r0, r1⟩ := hF0.parts
  have hcall := specIsSubmodular_any E A n c v _ (hv.below hbel0 (Nat.le_refl _))
  have HB := hide (fun W (h : Below w.heap.size w W) => specIsBelow_any E A n c v A' m c' x W (hv.below h (Nat.le_refl _)) (hx.below h (Nat.le_refl _)))
  cases hs : subB E v
  · have e0 : raiseOk E v x mo = false := by simp [raiseOk, hs]
    have e1 : raiseL E v x mo = [] := by simp [raiseL, e0]
    rw [e0, e1]; clear e0 e1
    rw [hs] at hcall
    have HC := hide hcall; clear hcall
    go_enter Try.func50, Try.ntmps50
    go_wp2_with fail
    refine HC.out.mono ?_
    rintro e w1 ⟨rfl, hb1⟩
    have hF1 := hF0.step hb1
    go_wp2
    go_ret2
    exact ⟨_, 0, 0, rfl, (own_none _).less (Nat.le_of_lt hF1.2.1), by omega, (hF1.step ((Below.refl _ _).alloc (Nat.le_refl _) _)).1⟩
  rw [hs] at hcall
  have HC := hide hcall; clear hcall
  cases hb : belowB E v x
  · have e0 : raiseOk E v x mo = false := by simp [raiseOk, hb]
    have e1 : raiseL E v x mo = [] := by simp [raiseL, e0]
    rw [e0, e1]; clear e0 e1
    rw [hb] at HB
    clear hb hs
    go_enter Try.func50, Try.ntmps50
    go_wp2_with fail
    refine HC.out.mono ?_
    rintro e w1 ⟨rfl, hb1⟩
    have hF1 := hF0.step hb1
    clear r0 r1
    obtain ⟨hbel1, hz1, r0, r1⟩ := hF1.parts
    go_wp2_with fail
    refine (HB.out _ hbel1).mono ?_
    rintro e w2 ⟨rfl, hb2⟩
    have hF2 := hF1.step hb2
    go_wp2
    go_ret2
    exact ⟨_, 0, 0, rfl, (own_none _).less (Nat.le_of_lt hF2.2.1), by omega, (hF2.step ((Below.refl _ _).alloc (Nat.le_refl _) _)).1⟩
  rw [hb] at HB
  obtain ⟨hf, bg0, blen, bvec, _⟩ := below_ok hb
  have hxl := hx.len
  have hml := hmo.len
  obtain ⟨N, rfl, fo⟩ := FnOk.of hf hv
  have hN := fo.hN
  have hmN : m = N := by omega
  have HL := hide (fun W (h : Below w.heap.size w W) => l8Vector_any A2 m2 c2 mo W (hmo.below h (Nat.le_refl _)))
  cases hl8 : vecOk 5000 mo
  · have e0 : raiseOk N v x mo = false := by
      have : longOk N mo = false := by
        cases h : longOk (N : Int) mo
        · rfl
        · rw [long_vec hf h] at hl8; cases hl8
      simp [raiseOk, this]
    have e1 : raiseL N v x mo = [] := by simp [raiseL, e0]
    rw [e0, e1]; clear e0 e1
    rw [hl8] at HL
    clear hb hs hl8 hmN hxl hml bg0 blen bvec hf
    go_enter Try.func50, Try.ntmps50
    go_wp2_with fail
    refine HC.out.mono ?_
    rintro e w1 ⟨rfl, hb1⟩
    have hF1 := hF0.step hb1
    clear r0 r1
    obtain ⟨hbel1, hz1, r0, r1⟩ := hF1.parts
    go_wp2_with fail
    refine (HB.out _ hbel1).mono ?_
    rintro e w2 ⟨rfl, hb2⟩
    have hF2 := hF1.step hb2
    go_wp2_with fail
    refine (HL.out _ hF2.1).mono ?_
    rintro e w3 ⟨rfl, rfl⟩
    go_wp2
    go_ret2
    exact ⟨_, 0, 0, rfl, (own_none _).less (Nat.le_of_lt hF2.2.1), by omega, (hF2.step ((Below.refl _ _).alloc (Nat.le_refl _) _)).1⟩
  rw [hl8] at HL
  by_cases hlm : m2 = m
  case neg =>
    have e0 : raiseOk N v x mo = false := by
      have : longOk N mo = false := by simp [longOk]; omega
      simp [raiseOk, this]
    have e1 : raiseL N v x mo = [] := by simp [raiseL, e0]
    have e2 : ((m2 : Int) != (m : Int)) = true := by simp; omega
    rw [e0, e1]; clear e0 e1
    clear hb hs hl8 hmN hxl hml bg0 blen bvec hf
    go_enter Try.func50, Try.ntmps50
    go_wp2_with fail
    refine HC.out.mono ?_
    rintro e w1 ⟨rfl, hb1⟩
    have hF1 := hF0.step hb1
    clear r0 r1
    obtain ⟨hbel1, hz1, r0, r1⟩ := hF1.parts
    go_wp2_with fail
    refine (HB.out _ hbel1).mono ?_
    rintro e w2 ⟨rfl, hb2⟩
    have hF2 := hF1.step hb2
    go_wp2_with fail
    refine (HL.out _ hF2.1).mono ?_
    rintro e w3 ⟨rfl, rfl⟩
    go_wp2
    go_ret2
    exact ⟨_, 0, 0, rfl, (own_none _).less (Nat.le_of_lt hF2.2.1), by omega, (hF2.step ((Below.refl _ _).alloc (Nat.le_refl _) _)).1⟩
  have hl : longOk N mo = true := by simp [longOk, (vecOk_true hl8).2]; omega
  subst hlm
  have e0 : raiseOk N v x mo = true := by simp [raiseOk, hs, hb, hl]
  have e1 : raiseL N v x mo = raiseT N v mo x m2 := by simp [raiseL, e0, hxl]
  rw [e0, e1]; clear e0 e1
  have hmo2 : mo.length = m2 := by simp [longOk] at hl; omega
  have HBD := hide (fun e (he : e ≤ m2) j (hj : j < m2) => raiseT_bd (E := N) (v := v) (mo := mo) (x := x) hf (vecOk_true bvec).2 (by simp [longOk] at hl; exact hl.2) (by omega) e (by omega) j (by omega))
  have HCB := hide (fun L (e : Int) => capV_bd L e hf)
  have HM := hide (fun j (hj : j < m2) => allIn_gv (v := mo) (k := j) (by omega) (by simp [longOk] at hl; exact hl.2))
  have m5 : m2 ≤ 5 := by omega
  have hm2 : m2 = m2 := by omega
  clear hb hs hl bvec bg0 blen hmN hmo2 hxl hml hl8
  clear hm2
  clear r0 r1
  go_enter Try.func50, Try.ntmps50
  go_wp2_with fail
  refine HC.out.mono ?_
  rintro e w1 ⟨rfl, hb1⟩
  have hF1 := hF0.step hb1
  obtain ⟨hbel1, hz1, r0, r1⟩ := hF1.parts
  go_wp2_with fail
  refine (HB.out _ hbel1).mono ?_
  rintro e w2 ⟨rfl, hb2⟩
  have hF2 := hF1.step hb2
  clear r0 r1
  obtain ⟨hbel2, hz2, r0, r1⟩ := hF2.parts
  go_wp2_with fail
  refine (HL.out _ hbel2).mono ?_
  rintro e w3 ⟨rfl, rfl⟩
  have hO := own_zero w2 (B := w.heap.size + 1) hz2
  have hF3 := hF2.step ((Below.refl w2.heap.size w2).alloc (Nat.le_refl _) (.cells #[] 3))
  have hsz2 := hz2
  go_wp2_with (refine wpl_apps (by rfl) _ _ (by rfl) (w.heap.size + 1) _ 0 0 [] A' m2 c' x (by rfl) (by rfl) hO ((hx.below hbel2 (Nat.le_refl _)).alloc _) (by omega) (by omega) (by simp; omega) ?_; intro B cr w4 hown hgrow hat)
  rw [Nat.zero_add] at hown
  have hF4 := hF2.step ((((Below.refl w2.heap.size w2).alloc (Nat.le_refl _) (.cells #[] 3))).grown hgrow (by simp) (fun k hk => by simp at hk; omega))
  clear r0 r1
  go_loopw [9] (fun t wr => ∃ k : Nat, k ≤ m2 ∧ t = .int .i64 k ∧ Own wr (w.heap.size + 1) B m2 cr (raiseT N v mo x k) ∧ FB w wr N A n c) (fun t _ => m2 - (intOf t).toNat)
  case atStart => exact ⟨0, Nat.zero_le _, rfl, hown, hF4⟩
  clear hown hF4
  case round =>
    obtain ⟨k, hk, rfl, hown, hFBr⟩ := hrel
    obtain ⟨hbelr, hzr, r0, r1⟩ := hFBr.parts
    by_cases hlt : k < m2
    · obtain ⟨g, rfl, hgB, hgl⟩ := hown.form (by omega)
      obtain ⟨b2, off2, rfl, hbb2, hcc2⟩ := hmo.all_ (by omega)
      have hst := hide (show raiseT N v mo x (k + 1) = if gv (raiseT N v mo x k) k < gv mo k then (raiseT N v mo x k).set k (mn (gv (raiseT N v mo x k) k + capV N v (raiseT N v mo x k) (k : Int)) (gv mo k)) else raiseT N v mo x k from rfl)
      have q1 := HBD.out k hk k hlt
      have q2 := HCB.out (raiseT N v mo x k) (k : Int)
      have q3 := HM.out k hlt
      have c5 : wr.cell? ⟨b2, off2 + k, none⟩ = some (.int .i64 (gv mo k)) := (hbelr.cell (p := ⟨b2, off2 + k, none⟩) hbb2).trans (hcc2 k hlt)
      have HCap := hide (fun W (h1 : Below w.heap.size w W) (h2 : Ints W (some ⟨g, 0, none⟩) m2 (raiseT N v mo x k)) => specCapacityOf_any N A n c v (some ⟨g, 0, none⟩) m2 cr (raiseT N v mo x k) (k : Int) W (hv.below h1 (Nat.le_refl _)) h2)
      clear hcc2
      generalize raiseT N v mo x k = L at *
      have i1 : (0 : Int) ≤ (k : Int) := by omega
      have i2 : (k : Int) < (m2 : Int) := by omega
      have hne : b2 ≠ g := by omega
      have hne' : g ≠ b2 := by omega
      go_wp2_with fail
      refine (HCap.out _ hbelr hown.ints).mono ?_
      rintro e w5 ⟨rfl, hb5⟩
      have hF5 := hFBr.step hb5
      have o5 := hown.below hb5 (Nat.le_refl _)
      have d2 := o5.cell hlt
      have d3 := o5.frozen k
      have d4 : w5.cell? ⟨b2, off2 + k, none⟩ = some (.int .i64 (gv mo k)) := (hb5.cell (p := ⟨b2, off2 + k, none⟩) (Nat.lt_of_lt_of_le hbb2 hbelr.size)).trans c5
      clear c5 r0 r1
      generalize capV N v L (k : Int) = R at *
      by_cases hq : gv L k < gv mo k
      · have hs := hide (hst.out.trans (if_pos hq))
        have hd : decide (gv L k < gv mo k) = true := by simp [hq]
        clear hq
        have hm : (if gv L k + R < gv mo k then gv L k + R else gv mo k) = mn (gv L k + R) (gv mo k) := mn_comm _ _
        have t1 : IntKind.i64.wrap (gv L k + R) = gv L k + R := IntWalk.i64_in _ (by omega)
        go_wp2
        go_quiet (fail)
        have ow6 := o5.below (below_drewN (Below.refl w5.heap.size w5) nq) (Nat.le_refl _)
        have hF6 := hF5.drewN nq
        have e2 := ow6.cell hlt
        have e3 := ow6.frozen k
        have e4 : (w5.drewN nq).cell? ⟨b2, off2 + k, none⟩ = some (.int .i64 (gv mo k)) := d4
        go_wp2
        go_region
        all_goals
          go_wp2
          go_roundw
          case rel => exact ⟨k + 1, by omega, by go_num, by rw [hs.out]; exact ow6.set_ k _, fb_set' hF6.drew (p := ⟨g, k, none⟩) (by simp; omega) _⟩
          case measure => simp [intOf]; omega
      · have hs := hide (hst.out.trans (if_neg hq))
        have hd : decide (gv L k < gv mo k) = false := by simp [hq]
        clear hq
        go_wp2
        go_quiet (fail)
        go_wp2
        go_roundw
        case rel => exact ⟨k + 1, by omega, by go_num, by rw [hs.out]; exact o5, hF5.drewN _⟩
        case measure => simp [intOf]; omega
    · obtain rfl : k = m2 := by omega
      go_wp2
      go_ret2
      exact ⟨B, k, cr, rfl, hown.less (Nat.le_succ _), by omega, hbelr⟩
end Go.Proofs.Ytokeejachclpeaa
namespace Go.Proofs.Ytokeejachclpeaa
open Go.RowKit

def lowL (N : Nat) : List Int := List.replicate N (-2000)
def zeroL (N : Nat) : List Int := List.replicate N 0
def dvIn (E : Int) (v : List Int) : Bool := grdB E v && subB E v
def dvOk (E : Int) (v : List Int) : Bool := dvIn E v && raiseOk E v (lowL E.toNat) (zeroL E.toNat)
def dvL (E : Int) (v : List Int) : List Int := if dvIn E v then raiseL E v (lowL E.toNat) (zeroL E.toNat) else []
theorem low_snoc (k : Nat) : lowL (k + 1) = lowL k ++ [-2000] := by unfold lowL; rw [List.replicate_succ']
theorem zero_snoc (k : Nat) : zeroL (k + 1) = zeroL k ++ [0] := by unfold zeroL; rw [List.replicate_succ']
theorem low_len (k : Nat) : (lowL k).length = k := by simp [lowL]
theorem range_of {w : World} {B n c : Nat} {A : Option Addr} {xs : List Int} (h : Own w B A n c xs) : ∀ g, A = some ⟨g, 0, none⟩ → B ≤ g ∧ g < w.heap.size := by
  intro g hA
  rcases h.where_ with h0 | ⟨g', h1, h2, h3⟩
  · rw [h0] at hA; cases hA
  · rw [h1] at hA
    simp at hA
    subst hA
    exact ⟨h2, h3⟩
theorem row_of' {w : World} {B n c k : Nat} {A : Option Addr} {xs : List Int} (h : Own w B A n c xs) (hk : A.map (·.block) = some k) : ∃ g, A = some ⟨g, 0, none⟩ ∧ g = k := by
  rcases h.where_ with h0 | ⟨g', h1, h2, h3⟩
  · rw [h0] at hk; cases hk
  · rw [h1] at hk ⊢
    simp at hk
    exact ⟨g', rfl, hk⟩
theorem own_grown {w w' : World} {B n c : Nat} {A : Option Addr} {xs : List Int} {row : Option Nat} (h : Own w B A n c xs) (hg : w.grownBy w' row) (hne : ∀ g, A = some ⟨g, 0, none⟩ → some g = row → False) : Own w' B A n c xs :=
  h.keep fun g hlt ha => hg.block g hlt (hne g ha)
set_option maxHeartbeats 2000000 in
theorem dualVector_any (E : Int) (A : Option Addr) (n c : Nat) (v : List Int) (w : World) (hv : Ints w A n v) :
    Calls Try.prog 22 #[.agg #[.int .i64 E, .slice A n c]] w fun e w' => ∃ B r cr, e = .returned (.tuple #[.slice B r cr, .bool (dvOk E v)]) ∧ Own w' w.heap.size B r cr (dvL E v) ∧ r ≤ 1048576 ∧ Below w.heap.size w w' := by
  have hF0 := FB.start w E A n c
  obtain ⟨hbel0, hz0, r0, r1⟩ := hF0.parts
  have hcall := isGrounded_any E A n c v _ (hv.below hbel0 (Nat.le_refl _))
  have HS := hide (fun W (h : Below w.heap.size w W) => isSubmodular_any E A n c v W (hv.below h (Nat.le_refl _)))
  cases hg : grdB E v
  · have e2 : dvIn E v = false := by simp [dvIn, hg]
    have e0 : dvOk E v = false := by simp [dvOk, e2]
    have e1 : dvL E v = [] := by simp [dvL, e2]
    rw [e0, e1]; clear e0 e1 e2
    rw [hg] at hcall
    have HC := hide hcall; clear hcall
    go_enter Try.func22, Try.ntmps22
    go_wp2_with fail
    refine HC.out.mono ?_
    rintro e w1 ⟨rfl, hb1⟩
    go_wp2
    go_ret2
    exact ⟨none, 0, 0, rfl, own_nil _ _, by omega, (hF0.step hb1).1⟩
  rw [hg] at hcall
  have HC := hide hcall; clear hcall
  cases hs : subB E v
  · have e2 : dvIn E v = false := by simp [dvIn, hs]
    have e0 : dvOk E v = false := by simp [dvOk, e2]
    have e1 : dvL E v = [] := by simp [dvL, e2]
    rw [e0, e1]; clear e0 e1 e2
    rw [hs] at HS
    clear hs hg
    go_enter Try.func22, Try.ntmps22
    go_wp2_with fail
    refine HC.out.mono ?_
    rintro e w1 ⟨rfl, hb1⟩
    have hF1 := hF0.step hb1
    clear r0 r1
    obtain ⟨hbel1, hz1, r0, r1⟩ := hF1.parts
    go_wp2_with fail
    refine (HS.out _ hbel1).mono ?_
    rintro e w2 ⟨rfl, hb2⟩
    go_wp2
    go_ret2
    exact ⟨none, 0, 0, rfl, own_nil _ _, by omega, (hF1.step hb2).1⟩
  rw [hs] at HS
  have e2 : dvIn E v = true := by simp [dvIn, hs, hg]
  obtain ⟨N, rfl, fo⟩ := FnOk.of (grd_fn hg) hv
  have e0 : dvOk N v = raiseOk N v (lowL N) (zeroL N) := by simp [dvOk, e2]
  have e1 : dvL N v = raiseL N v (lowL N) (zeroL N) := by simp [dvL, e2]
  rw [e0, e1]; clear e0 e1 e2 hs hg
  have hN := fo.hN
  have hmk := fun W => make_ints N (by omega) W
  clear r0 r1
  go_enter Try.func22, Try.ntmps22
  go_wp2_with fail
  refine HC.out.mono ?_
  rintro e w1 ⟨rfl, hb1⟩
  have hF1 := hF0.step hb1
  obtain ⟨hbel1, hz1, r0, r1⟩ := hF1.parts
  go_wp2_with fail
  refine (HS.out _ hbel1).mono ?_
  rintro e w2 ⟨rfl, hb2⟩
  have hF2 := hF1.step hb2
  clear r0 r1
  obtain ⟨hbel2, hz2, r0, r1⟩ := hF2.parts
  have hO := own_made N (by omega) w2 (B := w.heap.size + 1) hz2
  have hF3 := hF2.step ((Below.refl w2.heap.size w2).alloc (Nat.le_refl _) (.cells (madeCells #[.int .i64 0] N) 3))
  have hgz := hide hz2
  go_wp2
  clear r0 r1
  go_loopw [19] (fun t wr => ∃ (k : Nat) (zs : List Int), k ≤ N ∧ t = .int .i64 k ∧ Own wr (w.heap.size + 1) (some ⟨w2.heap.size, 0, none⟩) N N zs ∧ zs.take k = lowL k ∧ FB w wr N A n c) (fun t _ => N - (intOf t).toNat)
  case atStart => exact ⟨0, _, Nat.zero_le _, rfl, hO, rfl, hF3⟩
  clear hO hF3
  case round =>
    obtain ⟨k, zs, hk, rfl, hown, htake, hFBr⟩ := hrel
    obtain ⟨hbelr, hzr, r0, r1⟩ := hFBr.parts
    have Ht := hide htake; clear htake
    have hzl := hide hown.len
    by_cases hlt : k < N
    · have h2 := hown.cell hlt
      have h3 := hown.frozen k
      have ht2 := hide (take_set_snoc (zs := zs) (k := k) (u := -2000) (by rw [hzl.out]; exact hlt) Ht.out)
      rw [← low_snoc] at ht2
      go_wp2
      go_roundw
      case rel => exact ⟨k + 1, zs.set k (-2000), by omega, by go_num, hown.set_ k _, ht2.out, fb_set' hFBr (p := ⟨w2.heap.size, k, none⟩) hz2 _⟩
      case measure => simp [intOf]; omega
    · obtain rfl : k = N := by omega
      have ez : zs = lowL k := by rw [← Ht.out, List.take_of_length_le (by rw [hzl.out]; exact Nat.le_refl _)]
      rw [ez] at hown
      clear ez
      have hZ := own_made k (by omega) wr.drew (B := w.heap.size + 1) hzr
      have hI := (show Own wr.drew _ _ _ _ _ from hown).alloc (.cells (madeCells #[.int .i64 0] k) 3)
      have hV := ((hv.below hbelr (Nat.le_refl _)).drew).alloc (.cells (madeCells #[.int .i64 0] k) 3)
      have HR := hide (raiseVector_any k A n c v _ k k (lowL k) _ k k (zeroL k) _ hV hI.ints hZ.ints)
      have hFd := hFBr.drew.step ((Below.refl wr.drew.heap.size wr.drew).alloc (Nat.le_refl _) (.cells (madeCells #[.int .i64 0] k) 3))
      go_wp2
      go_region_with (go_at_call 49; refine HR.out.mono ?_; rintro e w4 ⟨B, r, cr, rfl, hownR, hr, hb4⟩)
      all_goals
        go_wp2
        go_ret2
        exact ⟨B, r, cr, rfl, hownR.less (by simp; omega), hr, (hFd.step hb4).1⟩
set_option maxHeartbeats 2000000 in
theorem specDualVector_any (E : Int) (A : Option Addr) (n c : Nat) (v : List Int) (w : World) (hv : Ints w A n v) :
    Calls Try.prog 23 #[.agg #[.int .i64 E, .slice A n c]] w fun e w' => ∃ B r cr, e = .returned (.tuple #[.slice B r cr, .bool (dvOk E v)]) ∧ Own w' w.heap.size B r cr (dvL E v) ∧ r ≤ 1048576 ∧ Below w.heap.size w w' := by
  have hF0 := FB.start w E A n c
  obtain ⟨hbel0, hz0, r0, r1⟩ := hF0.parts
  have hcall := specIsGrounded_any E A n c v _ (hv.below hbel0 (Nat.le_refl _))
  have HS := hide (fun W (h : Below w.heap.size w W) => specIsSubmodular_any E A n c v W (hv.below h (Nat.le_refl _)))
  cases hg : grdB E v
  · have e2 : dvIn E v = false := by simp [dvIn, hg]
    have e0 : dvOk E v = false := by simp [dvOk, e2]
    have e1 : dvL E v = [] := by simp [dvL, e2]
    rw [e0, e1]; clear e0 e1 e2
    rw [hg] at hcall
    have HC := hide hcall; clear hcall
    go_enter Try.func23, Try.ntmps23
    go_wp2_with fail
    refine HC.out.mono ?_
    rintro e w1 ⟨rfl, hb1⟩
    have hF1 := hF0.step hb1
    go_wp2
    go_ret2
    exact ⟨_, 0, 0, rfl, (own_none _).less (Nat.le_of_lt hF1.2.1), by omega, (hF1.step ((Below.refl _ _).alloc (Nat.le_refl _) _)).1⟩
  rw [hg] at hcall
  have HC := hide hcall; clear hcall
  cases hs : subB E v
  · have e2 : dvIn E v = false := by simp [dvIn, hs]
    have e0 : dvOk E v = false := by simp [dvOk, e2]
    have e1 : dvL E v = [] := by simp [dvL, e2]
    rw [e0, e1]; clear e0 e1 e2
    rw [hs] at HS
    clear hs hg
    go_enter Try.func23, Try.ntmps23
    go_wp2_with fail
    refine HC.out.mono ?_
    rintro e w1 ⟨rfl, hb1⟩
    have hF1 := hF0.step hb1
    clear r0 r1
    obtain ⟨hbel1, hz1, r0, r1⟩ := hF1.parts
    go_wp2_with fail
    refine (HS.out _ hbel1).mono ?_
    rintro e w2 ⟨rfl, hb2⟩
    have hF2 := hF1.step hb2
    go_wp2
    go_ret2
    exact ⟨_, 0, 0, rfl, (own_none _).less (Nat.le_of_lt hF2.2.1), by omega, (hF2.step ((Below.refl _ _).alloc (Nat.le_refl _) _)).1⟩
  rw [hs] at HS
  have e2 : dvIn E v = true := by simp [dvIn, hs, hg]
  obtain ⟨N, rfl, fo⟩ := FnOk.of (grd_fn hg) hv
  have e0 : dvOk N v = raiseOk N v (lowL N) (zeroL N) := by simp [dvOk, e2]
  have e1 : dvL N v = raiseL N v (lowL N) (zeroL N) := by simp [dvL, e2]
  rw [e0, e1]; clear e0 e1 e2 hs hg
  have hN := fo.hN
  clear r0 r1
  go_enter Try.func23, Try.ntmps23
  go_wp2_with fail
  refine HC.out.mono ?_
  rintro e w1 ⟨rfl, hb1⟩
  have hF1 := hF0.step hb1
  obtain ⟨hbel1, hz1, r0, r1⟩ := hF1.parts
  go_wp2_with fail
  refine (HS.out _ hbel1).mono ?_
  rintro e w2 ⟨rfl, hb2⟩
  have hF2 := hF1.step hb2
  clear r0 r1
  obtain ⟨hbel2, hz2, r0, r1⟩ := hF2.parts
  have hO1 := (own_zero w2 (B := w.heap.size + 1) hz2).alloc (.cells #[] 3)
  have hO2 := own_zero (w2.alloc (.cells #[] 3)) (B := w.heap.size + 1) (by simp; omega)
  have hsz : (w2.alloc (.cells #[] 3)).heap.size = w2.heap.size + 1 := by simp
  rw [hsz] at hO2
  have hF3 := (hF2.step ((Below.refl w2.heap.size w2).alloc (Nat.le_refl _) (.cells #[] 3))).step ((Below.refl _ _).alloc (Nat.le_refl _) (.cells #[] 3))
  clear hsz
  go_wp2
  clear r0 r1
  go_loopw [4, 5, 6] (fun l z t wr => ∃ (k : Nat) (B : Option Addr) (cr : Nat) (Z : Option Addr) (cz : Nat), k ≤ N ∧ t = .int .i64 k ∧ l = .slice B k cr ∧ z = .slice Z k cz ∧ Own wr (w.heap.size + 1) B k cr (lowL k) ∧ Own wr (w.heap.size + 1) Z k cz (zeroL k) ∧ (∀ g g', B = some ⟨g, 0, none⟩ → Z = some ⟨g', 0, none⟩ → g ≠ g') ∧ FB w wr N A n c) (fun _ _ t _ => N - (intOf t).toNat)
  case atStart => exact ⟨0, _, 0, _, 0, Nat.zero_le _, rfl, rfl, rfl, hO1, hO2, (fun g g' h1 h2 => by injection h1 with h1; injection h1 with h1 _; injection h2 with h2; injection h2 with h2 _; omega), hF3⟩
  clear hO1 hO2 hF3
  case round =>
    obtain ⟨k, B, cr, Z, cz, hk, rfl, rfl, rfl, hown, hownZ, hne, hFBr⟩ := hrel
    obtain ⟨hbelr, hzr, r0, r1⟩ := hFBr.parts
    have Hne := hide hne; clear hne
    by_cases hlt : k < N
    · have hs1 := hide (low_snoc k)
      have hs2 := hide (zero_snoc k)
      go_wp2_with (first
        | (refine wpl_app (by rfl) _ _ (by rfl) (w.heap.size + 1) B k cr wr.heap.size (lowL k) (-2000) (by rfl) (by rfl) (hown.alloc _) (cell_new wr _) (by omega) (by simp; omega) ?_; intro g cap w3 hown3 hgrow hat hlt3; have hF4 := app_FB hFBr hown hgrow (Below.refl _ _) rfl; have hZ3 := own_grown (hownZ.alloc (.cells #[.int .i64 (-2000)] 3)) hgrow (fun gz hZ hgz => by obtain ⟨gb, hB1, hB2⟩ := row_of' hown hgz.symm; exact Hne.out gb gz hB1 hZ (by omega)); have hsz3 := hF4.2.1)
        | (refine wpl_app (by rfl) _ _ (by rfl) (w.heap.size + 1) Z k cz w3.heap.size (zeroL k) 0 (by rfl) (by rfl) (hZ3.alloc _) (cell_new w3 _) (by omega) (by simp; omega) ?_; intro g2 cap2 w5 hown5 hgrow5 hat5 hlt5; have hF6 := app_FB hF4 hZ3 hgrow5 (Below.refl _ _) rfl))
      have hgz : g ≠ g2 ∧ (∀ gz, Z = some ⟨gz, 0, none⟩ → g ≠ gz) := by
        have h1 : ∀ gz, Z = some ⟨gz, 0, none⟩ → g ≠ gz := by
          intro gz hZ
          rcases hat with h | h
          · exact Hne.out g gz h hZ
          · obtain ⟨_, hb⟩ := range_of hownZ gz hZ
            simp at h; omega
        refine ⟨?_, h1⟩
        rcases hat5 with h | h
        · exact h1 g2 h
        · simp at h; omega
      have hB5 := own_grown (hown3.alloc (.cells #[.int .i64 0] 3)) hgrow5 (fun gb hB1 hgb => by
        injection hB1 with hB1; injection hB1 with hB1 _
        obtain ⟨gz, hZ1, hZ2⟩ := row_of' hZ3 hgb.symm
        exact hgz.2 gz hZ1 (by omega))
      go_roundw
      case rel => exact ⟨k + 1, _, cap, _, cap2, by omega, by go_num, rfl, rfl, by rw [hs1.out]; exact hB5, by rw [hs2.out]; exact hown5, (fun a b h1 h2 => by injection h1 with h1; injection h1 with h1 _; injection h2 with h2; injection h2 with h2 _; have := hgz.1; omega), hF6⟩
      case measure => simp [intOf]; omega
    · obtain rfl : k = N := by omega
      have HR := hide (specRaiseVector_any k A n c v B k cr (lowL k) Z k cz (zeroL k) wr (hv.below hbelr (Nat.le_refl _)) hown.ints hownZ.ints)
      go_wp2_with fail
      refine HR.out.mono ?_
      rintro e w4 ⟨B', r, cr', rfl, hownR, hr, hb4⟩
      go_wp2
      go_ret2
      exact ⟨B', r, cr', rfl, hownR.less (by omega), hr, (hFBr.step hb4).1⟩
end Go.Proofs.Ytokeejachclpeaa
