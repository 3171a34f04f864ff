/-
  Walks: the least and the greatest minimizer.
-/
import Derived.Test.YtokeejachclpeaaSubM
import Derived.Test.YtokeejachclpeaaBelM
namespace Go.Proofs.Ytokeejachclpeaa
open Go.RowKit

def andL (a : Nat) (L : List Int) : Nat := L.foldl (fun a x => andN a x.toNat) a
def orL (L : List Int) : Nat := L.foldl (fun a x => orN a x.toNat) 0
theorem andL_snoc (a : Nat) {L : List Int} {k : Nat} (h : k < L.length) : andL a (L.take (k + 1)) = andN (andL a (L.take k)) (gv L k).toNat := by
  unfold andL; rw [take_gv h, List.foldl_append]; rfl
theorem orL_snoc {L : List Int} {k : Nat} (h : k < L.length) : orL (L.take (k + 1)) = orN (orL (L.take k)) (gv L k).toNat := by
  unfold orL; rw [take_gv h, List.foldl_append]; rfl
theorem selI_gv {p : Nat → Bool} {n k : Nat} (h : k < (selI p n).length) : ∃ j : Nat, gv (selI p n) k = (j : Int) ∧ j < n ∧ p j = true := by
  have h1 := gv_mem h
  unfold selI at h1
  simp only [List.mem_map, List.mem_filter, List.mem_range] at h1
  obtain ⟨j, ⟨h2, h3⟩, h4⟩ := h1
  exact ⟨j, h4.symm, h2, h3⟩
theorem andL_le (a : Nat) (L : List Int) : andL a L ≤ a := by
  unfold andL
  induction L generalizing a with
  | nil => exact Nat.le_refl _
  | cons x L ih => exact Nat.le_trans (ih _) Nat.and_le_left
theorem orL_lt {p : Nat → Bool} {n N : Nat} (hn : n = 2 ^ N) : ∀ k, k ≤ (selI p n).length → orL ((selI p n).take k) < n
  | 0, _ => by subst hn; exact Nat.two_pow_pos N
  | k + 1, h => by
    have ih := orL_lt (p := p) hn k (by omega)
    rw [orL_snoc (by omega)]
    obtain ⟨j, h1, h2, _⟩ := selI_gv (p := p) (n := n) (k := k) (by omega)
    rw [h1, Int.toNat_natCast]
    unfold orN
    subst hn
    exact Nat.or_lt_two_pow ih h2
theorem minT_mem (v : List Int) : ∀ k, ∃ j, j ≤ k ∧ gv v j = minT v k
  | 0 => ⟨0, Nat.le_refl _, rfl⟩
  | k + 1 => by
    obtain ⟨j, h1, h2⟩ := minT_mem v k
    rw [show minT v (k + 1) = min (minT v k) (gv v (k + 1)) from minT_succ (v := v) (Nat.succ_pos k)]
    by_cases h : minT v k ≤ gv v (k + 1)
    · exact ⟨j, by omega, by rw [h2]; omega⟩
    · exact ⟨k + 1, Nat.le_refl _, by omega⟩
theorem minz_pos {v : List Int} {n : Nat} (hl : v.length = n) (h0 : 0 < n) : 0 < (selI (minzP v) n).length := by
  obtain ⟨j, h1, h2⟩ := minT_mem v (n - 1)
  have h3 : ((j : Nat) : Int) ∈ selI (minzP v) n := by
    unfold selI
    simp only [List.mem_map, List.mem_filter, List.mem_range]
    exact ⟨j, ⟨by omega, by simp [minzP, minV, hl, h2]⟩, rfl⟩
  exact List.length_pos_of_mem h3
theorem and_full {N j : Nat} (h : j < 2 ^ N) : andN (2 ^ N - 1) j = j := by
  unfold andN
  rw [Nat.and_comm, Nat.and_two_pow_sub_one_eq_mod, Nat.mod_eq_of_lt h]
theorem and_first {v : List Int} {n N : Nat} (hl : v.length = n) (hn : n = 2 ^ N) : ∃ j : Nat, gv (selI (minzP v) n) 0 = (j : Int) ∧ j < n ∧ andL (n - 1) ((selI (minzP v) n).take 1) = j := by
  have h0 : 0 < n := by rw [hn]; exact Nat.two_pow_pos N
  obtain ⟨j, h1, h2, _⟩ := selI_gv (minz_pos hl h0)
  refine ⟨j, h1, h2, ?_⟩
  rw [andL_snoc (n - 1) (minz_pos hl h0), h1, Int.toNat_natCast]
  subst hn
  exact and_full h2
def lminR (E : Int) (v : List Int) : Int := if subB E v then ((andL (v.length - 1) (minzL E v) : Nat) : Int) else 0
def gminR (E : Int) (v : List Int) : Int := if subB E v then ((orL (minzL E v) : Nat) : Int) else 0
theorem sub_fn {E : Int} {v : List Int} (h : subB E v = true) : isFn E v = true := by simp [subB] at h; exact h.1
set_option maxHeartbeats 1000000 in
theorem leastMinimizer_any (E : Int) (A : Option Addr) (n c : Nat) (v : List Int) (w : World) (hv : Ints w A n v) :
    Calls Try.prog 28 #[.agg #[.int .i64 E, .slice A n c]] w fun e w' => e = .returned (.tuple #[.int .i64 (lminR E v), .bool (subB E v)]) ∧ Below w.heap.size w w' := by
  have hF0 := FB.start w E A n c
  obtain ⟨hbel0, hz0, r0, r1⟩ := hF0.parts
  have h1 := isSubmodular_any E A n c v _ (hv.below hbel0 (Nat.le_refl _))
  cases hs : subB E v
  · have e0 : lminR E v = 0 := by simp [lminR, hs]
    rw [e0]; clear e0
    rw [hs] at h1
    have H1 := hide h1; clear h1 hs
    go_enter Try.func28, Try.ntmps28
    go_wp2_with fail
    refine H1.out.mono ?_
    rintro e w1 ⟨rfl, hb1⟩
    go_wp2
    go_ret2
    exact ⟨rfl, (hF0.step hb1).1⟩
  rw [hs] at h1
  have H1 := hide h1; clear h1
  have hf := sub_fn hs
  have hvl := hv.len
  obtain ⟨N, rfl, fo⟩ := FnOk.of hf hv
  have n0 := fo.n0
  have n32 := fo.n32
  have hN := fo.hN
  have hfull := hide (p2_full fo.hn)
  have eL : minzL N v = selI (minzP v) n := by simp [minzL, hf, hvl]
  have h2 := hide (fun W (h : Below w.heap.size w W) => minimizersOf_any N A n c v W (hv.below h (Nat.le_refl _)))
  rw [eL, hf] at h2
  have e0 : lminR N v = (((andL (n - 1) (selI (minzP v) n)) : Nat) : Int) := by simp [lminR, hs, eL, hvl]
  rw [e0]; clear e0 eL hs hvl
  have HB := hide (fun k (hk : k ≤ (selI (minzP v) n).length) => (show andL (n - 1) ((selI (minzP v) n).take k) < 1024 by have := andL_le (n - 1) ((selI (minzP v) n).take k); omega))
  have HG := hide (fun k (hk : k < (selI (minzP v) n).length) => selI_gv hk)
  have HS := hide (fun k (hk : k < (selI (minzP v) n).length) => andL_snoc (n - 1) hk)
  generalize selI (minzP v) n = L at *
  clear r0 r1
  go_enter Try.func28, Try.ntmps28
  go_wp2_with fail
  refine H1.out.mono ?_
  rintro e w1 ⟨rfl, hb1⟩
  have hF1 := hF0.step hb1
  obtain ⟨hbel1, hz1, r0, r1⟩ := hF1.parts
  go_wp2_with fail
  refine (h2.out _ hbel1).mono ?_
  rintro e w2 ⟨B, r, cr, rfl, hown, hr, hb2⟩
  have hF2 := hF1.step hb2
  clear r0 r1
  obtain ⟨hbel2, hz2, r0, r1⟩ := hF2.parts
  go_wp2_with fail
  refine (allOf_any N A n c _ (by omega)).mono ?_
  rintro e w3 ⟨rfl, hb3⟩
  rw [hfull.out]
  have hF3 := hF2.step hb3
  have hI := hown.ints.below hb3 (Nat.le_refl _)
  clear r0 r1
  have hLl := hide hI.len
  go_wp2
  go_loop [6, 21] (fun t i => ∃ k : Nat, k ≤ r ∧ i = .int .i64 k ∧ t = .int .i64 ((andL (n - 1) (L.take k) : Nat) : Int)) (fun _ i => r - (intOf i).toNat)
  case atStart => exact ⟨0, Nat.zero_le _, rfl, rfl⟩
  case round =>
    obtain ⟨k, hk, rfl, rfl⟩ := hrel
    have hb := HB.out k (by rw [hLl.out]; exact hk)
    by_cases hlt : k < r
    · obtain ⟨b, off, rfl, hbb, hc⟩ := hI.at_ hlt
      obtain ⟨j, hj, hjn, _⟩ := HG.out k (by rw [hLl.out]; exact hlt)
      have hs := hide (show andL (n - 1) (L.take (k + 1)) = andN (andL (n - 1) (L.take k)) j by rw [HS.out k (by rw [hLl.out]; exact hlt), hj, Int.toNat_natCast])
      rw [hj] at hc; clear hj
      have hj10 : j < 1024 := by omega
      generalize andL (n - 1) (L.take k) = a at *
      go_wp2
      go_round
      case rel => exact ⟨k + 1, by omega, by go_num, by rw [hs.out]⟩
      case measure => simp [intOf]; omega
    · obtain rfl : k = r := by omega
      go_wp2
      go_ret2
      exact ⟨by rw [List.take_of_length_le (by rw [hLl.out]; exact Nat.le_refl _)]; rfl, hF3.1⟩
set_option maxHeartbeats 1000000 in
theorem greatestMinimizer_any (E : Int) (A : Option Addr) (n c : Nat) (v : List Int) (w : World) (hv : Ints w A n v) :
    Calls Try.prog 29 #[.agg #[.int .i64 E, .slice A n c]] w fun e w' => e = .returned (.tuple #[.int .i64 (gminR E v), .bool (subB E v)]) ∧ Below w.heap.size w w' := by
  have hF0 := FB.start w E A n c
  obtain ⟨hbel0, hz0, r0, r1⟩ := hF0.parts
  have h1 := isSubmodular_any E A n c v _ (hv.below hbel0 (Nat.le_refl _))
  cases hs : subB E v
  · have e0 : gminR E v = 0 := by simp [gminR, hs]
    rw [e0]; clear e0
    rw [hs] at h1
    have H1 := hide h1; clear h1 hs
    go_enter Try.func29, Try.ntmps29
    go_wp2_with fail
    refine H1.out.mono ?_
    rintro e w1 ⟨rfl, hb1⟩
    go_wp2
    go_ret2
    exact ⟨rfl, (hF0.step hb1).1⟩
  rw [hs] at h1
  have H1 := hide h1; clear h1
  have hf := sub_fn hs
  have hvl := hv.len
  obtain ⟨N, rfl, fo⟩ := FnOk.of hf hv
  have n0 := fo.n0
  have n32 := fo.n32
  have hN := fo.hN
  have hfull := hide (p2_full fo.hn)
  have eL : minzL N v = selI (minzP v) n := by simp [minzL, hf, hvl]
  have h2 := hide (fun W (h : Below w.heap.size w W) => minimizersOf_any N A n c v W (hv.below h (Nat.le_refl _)))
  rw [eL, hf] at h2
  have e0 : gminR N v = (((orL (selI (minzP v) n)) : Nat) : Int) := by simp [gminR, hs, eL]
  rw [e0]; clear e0 eL hs hvl
  have HB := hide (fun k (hk : k ≤ (selI (minzP v) n).length) => (show orL ((selI (minzP v) n).take k) < 1024 by have := orL_lt (p := minzP v) fo.hn k hk; omega))
  have HG := hide (fun k (hk : k < (selI (minzP v) n).length) => selI_gv hk)
  have HS := hide (fun k (hk : k < (selI (minzP v) n).length) => orL_snoc hk)
  generalize selI (minzP v) n = L at *
  clear r0 r1
  go_enter Try.func29, Try.ntmps29
  go_wp2_with fail
  refine H1.out.mono ?_
  rintro e w1 ⟨rfl, hb1⟩
  have hF1 := hF0.step hb1
  obtain ⟨hbel1, hz1, r0, r1⟩ := hF1.parts
  go_wp2_with fail
  refine (h2.out _ hbel1).mono ?_
  rintro e w2 ⟨B, r, cr, rfl, hown, hr, hb2⟩
  have hF2 := hF1.step hb2
  clear r0 r1
  obtain ⟨hbel2, hz2, r0, r1⟩ := hF2.parts
  have hF3 := hF2
  have hI := hown.ints
  clear r0 r1
  have hLl := hide hI.len
  go_wp2
  go_loop [6, 19] (fun t i => ∃ k : Nat, k ≤ r ∧ i = .int .i64 k ∧ t = .int .i64 ((orL (L.take k) : Nat) : Int)) (fun _ i => r - (intOf i).toNat)
  case atStart => exact ⟨0, Nat.zero_le _, rfl, rfl⟩
  case round =>
    obtain ⟨k, hk, rfl, rfl⟩ := hrel
    have hb := HB.out k (by rw [hLl.out]; exact hk)
    by_cases hlt : k < r
    · obtain ⟨b, off, rfl, hbb, hc⟩ := hI.at_ hlt
      obtain ⟨j, hj, hjn, _⟩ := HG.out k (by rw [hLl.out]; exact hlt)
      have hs := hide (show orL (L.take (k + 1)) = orN (orL (L.take k)) j by rw [HS.out k (by rw [hLl.out]; exact hlt), hj, Int.toNat_natCast])
      rw [hj] at hc; clear hj
      have hj10 : j < 1024 := by omega
      generalize orL (L.take k) = a at *
      go_wp2
      go_round
      case rel => exact ⟨k + 1, by omega, by go_num, by rw [hs.out]⟩
      case measure => simp [intOf]; omega
    · obtain rfl : k = r := by omega
      go_wp2
      go_ret2
      exact ⟨by rw [List.take_of_length_le (by rw [hLl.out]; exact Nat.le_refl _)]; rfl, hF3.1⟩
set_option maxHeartbeats 1000000 in
theorem specLeastMinimizer_any (E : Int) (A : Option Addr) (n c : Nat) (v : List Int) (w : World) (hv : Ints w A n v) :
    Calls Try.prog 93 #[.agg #[.int .i64 E, .slice A n c]] w fun e w' => e = .returned (.tuple #[.int .i64 (lminR E v), .bool (subB E v)]) ∧ Below w.heap.size w w' := by
  have hF0 := FB.start w E A n c
  obtain ⟨hbel0, hz0, r0, r1⟩ := hF0.parts
  have h1 := specIsSubmodular_any E A n c v _ (hv.below hbel0 (Nat.le_refl _))
  cases hs : subB E v
  · have e0 : lminR E v = 0 := by simp [lminR, hs]
    rw [e0]; clear e0
    rw [hs] at h1
    have H1 := hide h1; clear h1 hs
    go_enter Try.func93, Try.ntmps93
    go_wp2_with fail
    refine H1.out.mono ?_
    rintro e w1 ⟨rfl, hb1⟩
    go_wp2
    go_ret2
    exact ⟨rfl, (hF0.step hb1).1⟩
  rw [hs] at h1
  have H1 := hide h1; clear h1
  have hf := sub_fn hs
  have hvl := hv.len
  obtain ⟨N, rfl, fo⟩ := FnOk.of hf hv
  have n0 := fo.n0
  have n32 := fo.n32
  have hN := fo.hN
  have hfull := hide (p2_full fo.hn)
  have eL : minzL N v = selI (minzP v) n := by simp [minzL, hf, hvl]
  have h2 := hide (fun W (h : Below w.heap.size w W) => specMinimizersOf_any N A n c v W (hv.below h (Nat.le_refl _)))
  rw [eL, hf] at h2
  have e0 : lminR N v = (((andL (n - 1) (selI (minzP v) n)) : Nat) : Int) := by simp [lminR, hs, eL, hvl]
  rw [e0]; clear e0 eL hs
  have HB := hide (fun k (hk : k ≤ (selI (minzP v) n).length) => (show andL (n - 1) ((selI (minzP v) n).take k) < 1024 by have := andL_le (n - 1) ((selI (minzP v) n).take k); omega))
  have HG := hide (fun k (hk : k < (selI (minzP v) n).length) => selI_gv hk)
  have HS := hide (fun k (hk : k < (selI (minzP v) n).length) => andL_snoc (n - 1) hk)
  have HF := hide (and_first hvl fo.hn)
  have HP := hide (minz_pos hvl n0)
  clear hvl
  generalize selI (minzP v) n = L at *
  clear r0 r1
  go_enter Try.func93, Try.ntmps93
  go_wp2_with fail
  refine H1.out.mono ?_
  rintro e w1 ⟨rfl, hb1⟩
  have hF1 := hF0.step hb1
  obtain ⟨hbel1, hz1, r0, r1⟩ := hF1.parts
  go_wp2_with fail
  refine (h2.out _ hbel1).mono ?_
  rintro e w2 ⟨B, r, cr, rfl, hown, hr, hb2⟩
  have hF2 := hF1.step hb2
  have hI := hown.ints
  clear r0 r1
  have hLl := hide hI.len
  have hr0 : 0 < r := by rw [← hLl.out]; exact HP.out
  obtain ⟨j0, hj0, hj0n, hA0⟩ := HF.out
  obtain ⟨b0, off0, rfl, hbb0, hcc0⟩ := hI.all_ hr0
  have hC := hide hcc0
  have hc0 := hcc0 0 hr0
  rw [hj0, Nat.add_zero] at hc0; clear hj0 hcc0
  have HA0 := hide hA0; clear hA0
  go_wp2
  go_loop [6, 7] (fun t i => ∃ k : Nat, 1 ≤ k ∧ k ≤ r ∧ i = .int .i64 k ∧ t = .int .i64 ((andL (n - 1) (L.take k) : Nat) : Int)) (fun _ i => r - (intOf i).toNat)
  case atStart => exact ⟨1, Nat.le_refl _, hr0, rfl, by rw [HA0.out]⟩
  case round =>
    obtain ⟨k, hk1, hk, rfl, rfl⟩ := hrel
    have hb := HB.out k (by rw [hLl.out]; exact hk)
    by_cases hlt : k < r
    · have hc := hC.out k hlt
      obtain ⟨j, hj, hjn, _⟩ := HG.out k (by rw [hLl.out]; exact hlt)
      have hs := hide (show andL (n - 1) (L.take (k + 1)) = andN (andL (n - 1) (L.take k)) j by rw [HS.out k (by rw [hLl.out]; exact hlt), hj, Int.toNat_natCast])
      rw [hj] at hc; clear hj
      have hj10 : j < 1024 := by omega
      generalize andL (n - 1) (L.take k) = a at *
      go_wp2
      go_round
      case rel => exact ⟨k + 1, by omega, by omega, by go_num, by rw [hs.out]⟩
      case measure => simp [intOf]; omega
    · obtain rfl : k = r := by omega
      go_wp2
      go_ret2
      exact ⟨by rw [List.take_of_length_le (by rw [hLl.out]; exact Nat.le_refl _)]; rfl, hF2.1⟩
set_option maxHeartbeats 1000000 in
theorem specGreatestMinimizer_any (E : Int) (A : Option Addr) (n c : Nat) (v : List Int) (w : World) (hv : Ints w A n v) :
    Calls Try.prog 94 #[.agg #[.int .i64 E, .slice A n c]] w fun e w' => e = .returned (.tuple #[.int .i64 (gminR E v), .bool (subB E v)]) ∧ Below w.heap.size w w' := by
  have hF0 := FB.start w E A n c
  obtain ⟨hbel0, hz0, r0, r1⟩ := hF0.parts
  have h1 := specIsSubmodular_any E A n c v _ (hv.below hbel0 (Nat.le_refl _))
  cases hs : subB E v
  · have e0 : gminR E v = 0 := by simp [gminR, hs]
    rw [e0]; clear e0
    rw [hs] at h1
    have H1 := hide h1; clear h1 hs
    go_enter Try.func94, Try.ntmps94
    go_wp2_with fail
    refine H1.out.mono ?_
    rintro e w1 ⟨rfl, hb1⟩
    go_wp2
    go_ret2
    exact ⟨rfl, (hF0.step hb1).1⟩
  rw [hs] at h1
  have H1 := hide h1; clear h1
  have hf := sub_fn hs
  have hvl := hv.len
  obtain ⟨N, rfl, fo⟩ := FnOk.of hf hv
  have n0 := fo.n0
  have n32 := fo.n32
  have hN := fo.hN
  have hfull := hide (p2_full fo.hn)
  have eL : minzL N v = selI (minzP v) n := by simp [minzL, hf, hvl]
  have h2 := hide (fun W (h : Below w.heap.size w W) => specMinimizersOf_any N A n c v W (hv.below h (Nat.le_refl _)))
  rw [eL, hf] at h2
  have e0 : gminR N v = (((orL (selI (minzP v) n)) : Nat) : Int) := by simp [gminR, hs, eL]
  rw [e0]; clear e0 eL hs
  have HB := hide (fun k (hk : k ≤ (selI (minzP v) n).length) => (show orL ((selI (minzP v) n).take k) < 1024 by have := orL_lt (p := minzP v) fo.hn k hk; omega))
  have HG := hide (fun k (hk : k < (selI (minzP v) n).length) => selI_gv hk)
  have HS := hide (fun k (hk : k < (selI (minzP v) n).length) => orL_snoc hk)
  have HF := hide (and_first hvl fo.hn)
  have HP := hide (minz_pos hvl n0)
  clear hvl
  generalize selI (minzP v) n = L at *
  clear r0 r1
  go_enter Try.func94, Try.ntmps94
  go_wp2_with fail
  refine H1.out.mono ?_
  rintro e w1 ⟨rfl, hb1⟩
  have hF1 := hF0.step hb1
  obtain ⟨hbel1, hz1, r0, r1⟩ := hF1.parts
  go_wp2_with fail
  refine (h2.out _ hbel1).mono ?_
  rintro e w2 ⟨B, r, cr, rfl, hown, hr, hb2⟩
  have hF2 := hF1.step hb2
  have hI := hown.ints
  clear r0 r1
  have hLl := hide hI.len
  go_wp2
  go_loop [6, 7] (fun t i => ∃ k : Nat, k ≤ r ∧ i = .int .i64 k ∧ t = .int .i64 ((orL (L.take k) : Nat) : Int)) (fun _ i => r - (intOf i).toNat)
  case atStart => exact ⟨0, Nat.zero_le _, rfl, rfl⟩
  case round =>
    obtain ⟨k, hk, rfl, rfl⟩ := hrel
    have hb := HB.out k (by rw [hLl.out]; exact hk)
    by_cases hlt : k < r
    · obtain ⟨b, off, rfl, hbb, hc⟩ := hI.at_ hlt
      obtain ⟨j, hj, hjn, _⟩ := HG.out k (by rw [hLl.out]; exact hlt)
      have hs := hide (show orL (L.take (k + 1)) = orN (orL (L.take k)) j by rw [HS.out k (by rw [hLl.out]; exact hlt), hj, Int.toNat_natCast])
      rw [hj] at hc; clear hj
      have hj10 : j < 1024 := by omega
      generalize orL (L.take k) = a at *
      go_wp2
      go_round
      case rel => exact ⟨k + 1, by omega, by go_num, by rw [hs.out]⟩
      case measure => simp [intOf]; omega
    · obtain rfl : k = r := by omega
      go_wp2
      go_ret2
      exact ⟨by rw [List.take_of_length_le (by rw [hLl.out]; exact Nat.le_refl _)]; rfl, hF2.1⟩
end Go.Proofs.Ytokeejachclpeaa
