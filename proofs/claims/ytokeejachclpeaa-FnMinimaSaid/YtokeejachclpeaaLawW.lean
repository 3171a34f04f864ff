/-
  Walks: the helpers of the great laws.
-/
import Derived.Test.YtokeejachclpeaaCore
import Derived.Test.YtokeejachclpeaaDrawA
import Derived.Test.YtokeejachclpeaaLatt
import Derived.Test.YtokeejachclpeaaBelM
namespace Go.Proofs.Ytokeejachclpeaa
open Go.RowKit

theorem big_any (A : Option Addr) (n c : Nat) (w : World) (hB : Byts w A n) : Calls Try.prog 10 #[.slice A n c] w fun e w' => e = .returned (.bool (decide (1048576 < n))) ∧ w = w' := by
  have := hB.1
  go_enter Try.func10, Try.ntmps10
  go_wp2
  all_goals go_ret
  all_goals exact ⟨ret_bool (by simp <;> omega), rfl⟩
theorem sameInts_any (A A' : Option Addr) (n n' c c' : Nat) (xs ys : List Int) (w : World) (hx : Ints w A n xs) (hy : Ints w A' n' ys) :
    Calls Try.prog 15 #[.slice A n c, .slice A' n' c'] w fun e w' => e = .returned (.bool (decide (xs = ys))) ∧ Below w.heap.size w w' := by
  have hxl := hide hx.len
  have hyl := hide hy.len
  have hn := hx.le
  by_cases hne : n = n'
  · subst hne
    go_enter Try.func15, Try.ntmps15
    go_wp2
    go_loopw [5] (fun i wr => ∃ (k : Nat), k ≤ n ∧ i = .int .i64 k ∧ xs.take k = ys.take k ∧ Below w.heap.size w wr) (fun i _ => n - (intOf i).toNat)
    case atStart => exact ⟨0, Nat.zero_le _, rfl, rfl, Below.refl _ _⟩
    case round =>
      obtain ⟨k, hk, rfl, htake, hbel⟩ := hrel
      have Ht := hide htake; clear htake
      by_cases hlt : k < n
      · obtain ⟨b, off, rfl, hb, hc⟩ := hx.at_ hlt
        obtain ⟨b', off', rfl, hb', hc'⟩ := hy.at_ hlt
        have h1 : wr.cell? ⟨b, off + k, none⟩ = some (.int .i64 (gv xs k)) := (hbel.cell (p := ⟨b, off + k, none⟩) hb).trans hc
        have h2 : wr.cell? ⟨b', off' + k, none⟩ = some (.int .i64 (gv ys k)) := (hbel.cell (p := ⟨b', off' + k, none⟩) hb').trans hc'
        have h3 : (k : Int) < (n : Int) := by omega
        have h4 : (0 : Int) ≤ (k : Int) := by omega
        clear hc hc'
        by_cases he : gv xs k = gv ys k
        · have e1 : (gv xs k != gv ys k) = false := by simp [he]
          have He := hide he; clear he
          go_wp2
          go_quiet (fail)
          go_wp2
          go_roundw
          case rel => exact ⟨k + 1, by omega, by go_num, by rw [take_gv (by rw [hxl.out]; exact hlt), take_gv (by rw [hyl.out]; exact hlt), Ht.out, He.out], below_drewN hbel _⟩
          case measure => simp [intOf]; omega
        · have e1 : (gv xs k != gv ys k) = true := by simp [he]
          go_wp2
          go_quiet (fail)
          go_wp2
          go_ret
          exact ⟨ret_bool (by simp; rintro rfl; exact he rfl), below_drewN hbel _⟩
      · go_wp2
        go_ret
        have e : xs = ys := by
          have := Ht.out
          rwa [List.take_of_length_le (by rw [hxl.out]; omega), List.take_of_length_le (by rw [hyl.out]; omega)] at this
        exact ⟨ret_bool (by simp [e]), hbel⟩
  · have e1 : ((n : Int) != (n' : Int)) = true := by simp; omega
    go_enter Try.func15, Try.ntmps15
    go_wp2
    go_ret
    refine ⟨ret_bool ?_, Below.refl _ _⟩
    simp
    rintro rfl
    exact hne (hxl.out.symm.trans hyl.out)
def valR (E : Int) (v : List Int) (s : Int) : Int := if isFn E v && inR s 0 ((v.length : Int) - 1) then gv v s.toNat else -9999
set_option maxHeartbeats 1000000 in
theorem valueOf_any (E : Int) (A : Option Addr) (n c : Nat) (v : List Int) (s : Int) (w : World) (hv : Ints w A n v) :
    Calls Try.prog 57 #[.agg #[.int .i64 E, .slice A n c], .int .i64 s] w fun e w' => e = .returned (.int .i64 (valR E v s)) ∧ Below w.heap.size w w' := by
  have hF0 := FB.start w E A n c
  obtain ⟨hbel0, hz0, r0, r1⟩ := hF0.parts
  cases hf : isFn E v
  · have hno := hide (show valR E v s = -9999 by simp [valR, hf])
    have HF := hide hf; clear hf
    go_enter Try.func57, Try.ntmps57
    go_wp2_with fail
    refine (isFunction_any E A n c v _ (hv.below hbel0 (Nat.le_refl _))).mono ?_
    rintro e w1 ⟨rfl, hb1⟩
    rw [HF.out]
    go_wp2
    go_ret
    exact ⟨ret_int hno.out.symm, (hF0.step hb1).1⟩
  · have HF := hide hf
    obtain ⟨N, rfl, fo⟩ := FnOk.of hf hv
    have hN := fo.hN
    have h40 : N ≤ 40 := by omega
    have hp : ((p2 N : Nat) : Int) = (n : Int) := by rw [fo.hn]; rfl
    have HP := hide hp
    have hlen := hide hv.len
    clear hf hp
    cases hs : inR s 0 (((p2 N : Nat) : Int) - 1)
    · have hno := hide (show valR N v s = -9999 by
        unfold valR
        rw [hlen.out, ← HP.out, hs]
        simp)
      have HS := hide hs; clear hs
      go_enter Try.func57, Try.ntmps57
      go_wp2_with fail
      refine (isFunction_any N A n c v _ (hv.below hbel0 (Nat.le_refl _))).mono ?_
      rintro e w1 ⟨rfl, hb1⟩
      rw [HF.out]
      have hF1 := hF0.step hb1
      clear r0 r1
      obtain ⟨hbel1, hz1, r0, r1⟩ := hF1.parts
      go_wp2_with fail
      refine (isSetOf_any N s _ hN).mono ?_
      rintro e w2 ⟨rfl, rfl⟩
      rw [HS.out]
      go_wp2
      go_ret
      exact ⟨ret_int hno.out.symm, hF1.1⟩
    · obtain ⟨s1, s2⟩ := inR_true hs
      rw [HP.out] at s2
      obtain ⟨k, rfl⟩ := Int.eq_ofNat_of_zero_le s1
      have hyes := hide (show valR N v (k : Int) = gv v k by
        unfold valR
        rw [hlen.out, ← HP.out, hs, HF.out]
        simp)
      have HS := hide hs; clear hs
      obtain ⟨b, off, rfl, hbb, hc⟩ := hv.at_ (k := k) (by omega)
      have i2 : (k : Int) < (n : Int) := by omega
      go_enter Try.func57, Try.ntmps57
      go_wp2_with fail
      refine (isFunction_any N _ n c v _ (hv.below hbel0 (Nat.le_refl _))).mono ?_
      rintro e w1 ⟨rfl, hb1⟩
      rw [HF.out]
      have hF1 := hF0.step hb1
      clear r0 r1
      obtain ⟨hbel1, hz1, r0, r1⟩ := hF1.parts
      have hc1 := (hbel1.cell (p := ⟨b, off + k, none⟩) hbb).trans hc
      go_wp2_with fail
      refine (isSetOf_any N (k : Int) _ hN).mono ?_
      rintro e w2 ⟨rfl, rfl⟩
      rw [HS.out]
      go_wp2
      go_ret
      exact ⟨ret_int hyes.out.symm, hF1.1⟩
theorem has_any (A : Option Addr) (n c : Nat) (l : List Int) (x : Int) (w : World) (hl : Ints w A n l) :
    Calls Try.prog 32 #[.slice A n c, .int .i64 x] w fun e w' => e = .returned (.bool (hasI l x)) ∧ w = w' := by
  have hle := hl.le
  have hlen := hide hl.len
  go_enter Try.func32, Try.ntmps32
  go_wp2
  go_loop [5] (fun i => ∃ k : Nat, k ≤ n ∧ i = .int .i64 k ∧ hasI (l.take k) x = false) (fun i => n - (intOf i).toNat)
  case atStart => exact ⟨0, Nat.zero_le _, rfl, rfl⟩
  case round =>
    obtain ⟨k, hk, rfl, hno⟩ := hrel
    have HNO := hide hno; clear hno
    by_cases hlt : k < n
    · obtain ⟨b, off, rfl, hb, hc⟩ := hl.at_ hlt
      cases hq : (gv l k == x)
      · have hst := hide (show hasI (l.take (k + 1)) x = false by
          have h1 := HNO.out
          unfold hasI at *
          rw [take_gv (by rw [hlen.out]; exact hlt)]
          simp only [decide_eq_false_iff_not, List.mem_append, List.mem_singleton, not_or] at h1 ⊢
          refine ⟨h1, fun h => ?_⟩
          rw [h] at hq; simp at hq)
        go_wp2
        go_round
        case rel => exact ⟨k + 1, by omega, by go_num, hst.out⟩
        case measure => simp [intOf]; omega
      · have hst := hide (show hasI l x = true by
          unfold hasI
          have : gv l k = x := by simpa using hq
          simp only [decide_eq_true_eq]
          rw [← this]
          exact gv_mem (by rw [hlen.out]; exact hlt))
        go_wp2
        go_ret
        exact ⟨ret_bool hst.out.symm, rfl⟩
    · obtain rfl : k = n := by omega
      have hst := hide (show hasI l x = false by rw [← HNO.out, List.take_of_length_le (by rw [hlen.out]; omega)])
      go_wp2
      go_ret
      exact ⟨ret_bool hst.out.symm, rfl⟩
end Go.Proofs.Ytokeejachclpeaa
