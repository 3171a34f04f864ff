/-
  Walks: how much an element can still get; how much it can get from another one.
-/
import Derived.Test.YtboggeipdgimdaaBelow
namespace Go.Proofs.Ytboggeipdgimdaa
open Go.RowKit

/-- The least of the wanted values among the first k. -/
def minW (c : Nat → Int) (p : Nat → Bool) : Nat → Option Int
  | 0 => none
  | k + 1 => if p k then (match minW c p k with | none => some (c k) | some m => some (mn m (c k))) else minW c p k
theorem minW_some {c : Nat → Int} {p : Nat → Bool} {j : Nat} (hp : p j = true) : ∀ k, j < k → (minW c p k).isSome = true
  | 0, h => absurd h (by omega)
  | k + 1, h => by
    unfold minW
    by_cases hk : j = k
    · subst hk; rw [if_pos hp]; cases minW c p j <;> rfl
    · have := minW_some (c := c) hp k (by omega)
      split
      · cases minW c p k <;> rfl
      · exact this
theorem minW_bd {c : Nat → Int} {p : Nat → Bool} {a b : Int} {n : Nat} (h : ∀ j, j < n → a ≤ c j ∧ c j ≤ b) : ∀ k, k ≤ n → ∀ m, minW c p k = some m → a ≤ m ∧ m ≤ b
  | 0, _, m, e => by simp [minW] at e
  | k + 1, hk, m, e => by
    have h1 := minW_bd (p := p) h k (by omega)
    have h2 := h k (by omega)
    unfold minW at e
    split at e
    · cases hc : minW c p k with
      | none => rw [hc] at e; simp at e; omega
      | some m' =>
        rw [hc] at e; simp at e
        have := h1 m' hc
        unfold mn at e; split at e <;> omega
    · exact h1 m e
theorem hasB_self {e : Nat} : hasB (2 ^ e) e = true := by unfold hasB; simp
theorem hasB_two {e d : Nat} (h : e ≠ d) : hasB (2 ^ e) d = false := by unfold hasB; rw [Nat.testBit_two_pow]; simp; exact h

def capOk (E : Int) (v x : List Int) (e : Int) : Bool := belowB E v x && inR e 0 (E - 1)
def capV (E : Int) (v x : List Int) (e : Int) : Int := if capOk E v x e then (minW (slk v x) (fun s => hasB s e.toNat) v.length).getD 0 else 0
theorem capVFn_any (s e be : Nat) (w : World) (hs : s < 1024) (le : e ≤ 40) (he : w.cell? ⟨be, 0, none⟩ = some (.int .i64 (e : Nat))) :
    Calls Try.prog 115 #[.int .i64 s, .pointer (some ⟨be, 0, none⟩)] w fun r w' => r = .returned (.bool (hasB s e)) ∧ w = w' := by
  go_enter Try.func115, Try.ntmps115
  go_wp2
  go_ret
  exact ⟨rfl, rfl⟩
set_option maxHeartbeats 1000000 in
theorem capVLeast_any (E : Int) (A : Option Addr) (n c : Nat) (v : List Int) (A' : Option Addr) (m c' : Nat) (x : List Int) (e be : Nat) (w : World) (hv : Ints w A n v) (hf : isFn E v = true) (hx : Ints w A' m x) (hxo : vecOk 5000 x = true) (le : e ≤ 40) (he : w.cell? ⟨be, 0, none⟩ = some (.int .i64 (e : Nat))) :
    Calls Try.prog 114 #[.agg #[.int .i64 E, .slice A n c], .slice A' m c', .func (.func 115) #[] #[.pointer (some ⟨be, 0, none⟩)]] w fun r w' => r = .returned (.int .i64 ((minW (slk v x) (fun s => hasB s e) n).getD 0)) ∧ Below w.heap.size w w' := by
  have Hf := hide hf
  obtain ⟨N, rfl, fo⟩ := FnOk.of hf hv
  clear hf
  have n32 := fo.n32
  have ke := World.block_lt_of_cell? _ _ he
  go_enter Try.func114, Try.ntmps114
  go_wp2
  go_loopw [7, 8, 13] (fun t b i wr => ∃ k : Nat, k ≤ n ∧ i = .int .i64 k ∧ t = .int .i64 ((minW (slk v x) (fun s => hasB s e) k).getD 0) ∧ b = .bool (minW (slk v x) (fun s => hasB s e) k).isSome ∧ FB w wr N A n c) (fun _ _ i _ => n - (intOf i).toNat)
  case atStart => exact ⟨0, Nat.zero_le _, rfl, rfl, rfl, FB.start _ _ _ _ _⟩
  case round =>
    obtain ⟨k, hk, rfl, rfl, rfl, hFBr⟩ := hrel
    obtain ⟨hbelr, hzr, r0, r1⟩ := hFBr.parts
    by_cases hlt : k < n
    · have hk10 : k < 1024 := by omega
      have qe : wr.cell? ⟨be, 0, none⟩ = some (.int .i64 (e : Nat)) := (hbelr.cell (p := ⟨be, 0, none⟩) ke).trans he
      have hF := hide (capVFn_any k e be wr hk10 le qe)
      have hS := hide (fun W (hb : Below w.heap.size w W) => slack_any N A n c v A' m c' x k W (hv.below hb (Nat.le_refl _)) Hf.out (hx.below hb (Nat.le_refl _)) hxo hlt)
      clear qe
      cases h1 : hasB k e
      · have hs := hide (show minW (slk v x) (fun s => hasB s e) (k + 1) = minW (slk v x) (fun s => hasB s e) k by show (if hasB k e then _ else _) = _; rw [h1]; rfl)
        go_wp2_with fail
        refine hF.out.mono ?_
        rintro e w2 ⟨rfl, rfl⟩
        rw [h1]
        go_wp2
        go_roundw
        case rel => exact ⟨k + 1, by omega, by go_num, by rw [hs.out], by rw [hs.out], hFBr⟩
        case measure => simp [intOf]; omega
      · cases ho : minW (slk v x) (fun s => hasB s e) k with
        | none =>
          have hs := hide (show minW (slk v x) (fun s => hasB s e) (k + 1) = some (slk v x k) by show (if hasB k e then _ else _) = _; rw [h1, ho]; rfl)
          have e0 : (none : Option Int).isSome = false := rfl
          go_wp2_with fail
          refine hF.out.mono ?_
          rintro e w2 ⟨rfl, rfl⟩
          rw [h1]
          go_wp2_with fail
          refine (hS.out _ hbelr).mono ?_
          rintro e w2 ⟨rfl, hb2⟩
          go_wp2
          go_roundw
          case rel => exact ⟨k + 1, by omega, by go_num, by rw [hs.out]; rfl, by rw [hs.out]; rfl, hFBr.step hb2⟩
          case measure => simp [intOf]; omega
        | some m0 =>
          have hs := hide (show minW (slk v x) (fun s => hasB s e) (k + 1) = some (mn m0 (slk v x k)) by show (if hasB k e then _ else _) = _; rw [h1, ho]; rfl)
          by_cases hq : slk v x k < m0
          · have e1 : decide (slk v x k < m0) = true := by simp [hq]
            have hmn := hide (show mn m0 (slk v x k) = slk v x k by unfold mn; rw [if_pos hq])
            go_wp2_with fail
            refine hF.out.mono ?_
            rintro e w2 ⟨rfl, rfl⟩
            rw [h1]
            go_wp2_with fail
            refine (hS.out _ hbelr).mono ?_
            rintro e w2 ⟨rfl, hb2⟩
            have hFB2 := hFBr.step hb2
            obtain ⟨hbel2, hz2, u0, u1⟩ := hFB2.parts
            go_wp2_with fail
            refine (hS.out _ hbel2).mono ?_
            rintro e w3 ⟨rfl, hb3⟩
            go_wp2
            go_roundw
            case rel => exact ⟨k + 1, by omega, by go_num, by rw [hs.out, hmn.out]; rfl, by rw [hs.out]; rfl, hFB2.step hb3⟩
            case measure => simp [intOf]; omega
          · have e1 : decide (slk v x k < m0) = false := by simp; omega
            have hmn := hide (show mn m0 (slk v x k) = m0 by unfold mn; rw [if_neg hq])
            go_wp2_with fail
            refine hF.out.mono ?_
            rintro e w2 ⟨rfl, rfl⟩
            rw [h1]
            go_wp2_with fail
            refine (hS.out _ hbelr).mono ?_
            rintro e w2 ⟨rfl, hb2⟩
            have hFB2 := hFBr.step hb2
            go_wp2
            go_roundw
            case rel => exact ⟨k + 1, by omega, by go_num, by rw [hs.out, hmn.out]; rfl, by rw [hs.out]; rfl, hFB2⟩
            case measure => simp [intOf]; omega
    · obtain rfl : k = n := by omega
      go_wp2
      go_ret
      exact ⟨rfl, hbelr⟩

def excOk (E : Int) (v x : List Int) (e d : Int) : Bool := belowB E v x && (inR e 0 (E - 1) && (inR d 0 (E - 1) && !decide (e = d)))
def excV (E : Int) (v x : List Int) (e d : Int) : Int := if excOk E v x e d then (minW (slk v x) (fun s => hasB s e.toNat && !hasB s d.toNat) v.length).getD 0 else 0
end Go.Proofs.Ytboggeipdgimdaa
