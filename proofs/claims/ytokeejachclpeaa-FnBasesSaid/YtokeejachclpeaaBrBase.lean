/-
  Plain words for the law FnBases: tight sets, capacities, exchanges, corners.
-/
import Derived.Test.YtokeejachclpeaaBrTop
namespace Go.Proofs.Ytokeejachclpeaa
open Go.RowKit

theorem sel_hasb {p : Nat → Bool} {n j : Nat} (hj : j < n) : hasI (selI p n) (j : Int) = p j := by
  cases hp : p j
  · unfold hasI
    simp only [decide_eq_false_iff_not]
    intro h
    obtain ⟨k, _, hk, he⟩ := sel_mem.1 h
    have : j = k := by omega
    rw [this, hk] at hp; cases hp
  · exact sel_has hj hp
/-- What the law says of tight sets. -/
structure TightFacts (N : Nat) (v x : List Int) : Prop where
  hN : N ≤ 5
  full : (baseB N v x != hasI (tightL N v x) (((p2 N : Nat) : Int) - 1)) = false
  latt : subB N v = true → lattB (tightL N v x) = true
theorem tight_facts {E : Int} {v x : List Int} (h : belowB E v x = true) : ∃ N : Nat, E = (N : Int) ∧ TightFacts N v x := by
  obtain ⟨N, rfl, hN, hl, ha⟩ := isFn_true (below_ok h).fn
  obtain ⟨_, p2', _, p4⟩ := below_plain hl h
  have hp := Nat.two_pow_pos N
  have et : tightL N v x = selI (fun s => decide (slk v x s = 0)) v.length := by unfold tightL; rw [if_pos h]
  refine ⟨N, rfl, hN, ?_, fun hs => ?_⟩
  · rw [et]
    have e1 : ((p2 N : Nat) : Int) - 1 = ((v.length - 1 : Nat) : Int) := by unfold p2; omega
    rw [e1, sel_hasb (by omega)]
    simp [baseB, h]
  · rw [et]
    obtain ⟨N2, hN2, _, _, _, hsm⟩ := sub_ok hs
    obtain rfl : N = N2 := by omega
    refine sel_latt hN hl (fun a b h1 h2 h3 h4 => ?_)
    simp only [decide_eq_true_eq] at h3 h4 ⊢
    rw [slk_wt p2'] at h3 h4 ⊢
    rw [slk_wt p2']
    have := hsm.tight p4 (a := a) (b := b) (by omega) (by omega) (by omega) (by omega)
    omega
/-- What the law says of a capacity. -/
structure CapFacts (E : Int) (v x : List Int) (j : Nat) (c : Int) : Prop where
  lt : j < x.length
  pos : 0 ≤ c
  bd : -5000 ≤ gv x j ∧ gv x j ≤ 5000
  up : c < 2000 → belowB E v (x.set j (gv x j + c)) = true
  no : c < 2000 → belowB E v (x.set j (gv x j + c + 1)) = false
theorem cap_facts {E : Int} {v x : List Int} {e : Int} (h : capOk E v x e = true) : ∃ j : Nat, e = (j : Int) ∧ CapFacts E v x j (capV E v x e) := by
  simp only [capOk, Bool.and_eq_true] at h
  obtain ⟨hb, he⟩ := h
  obtain ⟨N, rfl, hN, hl, ha⟩ := isFn_true (below_ok hb).fn
  have hf := (below_ok hb).fn
  obtain ⟨e0, e1⟩ := inR_true he
  obtain ⟨j, rfl⟩ := Int.eq_ofNat_of_zero_le e0
  have hj : j < N := by omega
  obtain ⟨p1, p2', p3, p4⟩ := below_plain hl hb
  obtain ⟨c1, c2, J, c3, c4, c5⟩ := cap_spec hl hb hj
  generalize capV N v x (j : Int) = c at *
  have hx0 := p3 j hj
  have h1 := c2 (2 ^ j) (Nat.pow_lt_pow_right (by omega) hj) (by simp)
  rw [M.wt_one, if_pos hj] at h1
  have h2 := allIn_gv (v := v) (k := 2 ^ j) (by rw [hl]; exact Nat.pow_lt_pow_right (by omega) hj) ha
  refine ⟨j, rfl, by omega, c1, hx0, fun _ => ?_, fun _ => ?_⟩
  · refine set_below hf hl hb hj (by omega) (fun s hs hse => ?_)
    have := c2 s hs hse
    omega
  · cases hq : belowB N v (x.set j (gv x j + c + 1))
    · rfl
    · obtain ⟨_, q2, _, q4⟩ := below_plain hl hq
      have := q4 J c3
      rw [wt_set p2' hj, if_pos c4] at this
      omega
theorem exc_spec {N : Nat} {v x : List Int} {i j : Nat} (hl : v.length = 2 ^ N) (h : excOk N v x (i : Int) (j : Int) = true) (hi : i < N) (hij : i ≠ j) :
    0 ≤ excV N v x (i : Int) (j : Int) ∧ ∀ s, s < 2 ^ N → s.testBit i = true → s.testBit j = false → excV N v x (i : Int) (j : Int) ≤ gv v s - M.wt (gv x) s N := by
  have hb : belowB N v x = true := by
    simp only [excOk, Bool.and_eq_true] at h
    exact h.1
  obtain ⟨p1, p2', p3, p4⟩ := below_plain hl hb
  have hlt : 2 ^ i < v.length := by rw [hl]; exact Nat.pow_lt_pow_right (by omega) hi
  have hsome := minW_some (c := slk v x) (p := fun s => hasB s i && !hasB s j) (j := 2 ^ i) (by simp only [hasB_self, hasB_two hij]; rfl) v.length hlt
  obtain ⟨m, hm⟩ := Option.isSome_iff_exists.1 hsome
  have hv : excV N v x (i : Int) (j : Int) = m := by
    unfold excV
    rw [if_pos h, Int.toNat_natCast, Int.toNat_natCast, hm]; rfl
  obtain ⟨h1, k, h2, h3, h4⟩ := minW_spec _ _ hm
  rw [hv]
  refine ⟨by rw [← h4, slk_wt p2']; have := p4 k (by omega); omega, fun s hs h5 h6 => ?_⟩
  have := h1 s (by omega) (by simp [hasB, h5, h6])
  rwa [slk_wt p2'] at this
/-- What the law says of an exchange. -/
structure ExcFacts (E : Int) (v x : List Int) (i j : Nat) (d : Int) : Prop where
  lti : i < x.length
  ltj : j < x.length
  ne : i ≠ j
  pos : 0 ≤ d
  bi : -5000 ≤ gv x i ∧ gv x i ≤ 5000
  bj : -5000 ≤ gv x j ∧ gv x j ≤ 5000
  base : d < 2000 → baseB E v ((x.set i (gv x i + d)).set j (gv x j - d)) = true
theorem exc_facts {E : Int} {v x : List Int} {a b : Int} (h : excOk E v x a b = true) (hbase : baseB E v x = true) : ∃ i j : Nat, a = (i : Int) ∧ b = (j : Int) ∧ ExcFacts E v x i j (excV E v x a b) := by
  have hok := h
  simp only [excOk, Bool.and_eq_true] at h
  obtain ⟨hb, ha', hb', hne⟩ := h
  obtain ⟨N, rfl, hN, hl, ha⟩ := isFn_true (below_ok hb).fn
  have hf := (below_ok hb).fn
  obtain ⟨a0, a1⟩ := inR_true ha'
  obtain ⟨b0, b1⟩ := inR_true hb'
  obtain ⟨i, rfl⟩ := Int.eq_ofNat_of_zero_le a0
  obtain ⟨j, rfl⟩ := Int.eq_ofNat_of_zero_le b0
  have hij : i ≠ j := by
    rintro rfl
    simp at hne
  have hi : i < N := by omega
  have hj : j < N := by omega
  obtain ⟨p1, p2', p3, p4⟩ := below_plain hl hb
  obtain ⟨d1, d2⟩ := exc_spec hl hok hi hij
  have hfull : slk v x (v.length - 1) = 0 := by
    simp only [baseB, Bool.and_eq_true, decide_eq_true_eq] at hbase
    exact hbase.2
  rw [slk_wt p2', hl] at hfull
  generalize excV N v x (i : Int) (j : Int) = d at *
  have hp := Nat.two_pow_pos N
  have h1 := d2 (2 ^ i) (Nat.pow_lt_pow_right (by omega) hi) (by simp) (by rw [Nat.testBit_two_pow]; simp [hij])
  rw [M.wt_one, if_pos hi] at h1
  have h2 := allIn_gv (v := v) (k := 2 ^ i) (by rw [hl]; exact Nat.pow_lt_pow_right (by omega) hi) ha
  have hbi := p3 i hi
  have hbj := p3 j hj
  -- the other element is not small in a base
  have hjf : (2 ^ N - 1).testBit j = true := by rw [Nat.testBit_two_pow_sub_one]; simpa using hj
  have hx1 := M.xor_ins hjf
  have hx2 : ((2 ^ N - 1) ^^^ 2 ^ j).testBit j = false := by rw [M.xor_bit, hjf]; simp
  have hx3 : (2 ^ N - 1) ^^^ 2 ^ j < 2 ^ N := M.xor_lt (by omega) hj
  have hw := M.wt_ins (gv x) hj hx2
  rw [hx1] at hw
  have h3 := p4 _ hx3
  have h4 := allIn_gv (v := v) (k := (2 ^ N - 1) ^^^ 2 ^ j) (by rw [hl]; exact hx3) ha
  have h5 := allIn_gv (v := v) (k := 2 ^ N - 1) (by omega) ha
  have hlen1 : (x.set i (gv x i + d)).length = N := by rw [List.length_set]; exact p2'
  refine ⟨i, j, rfl, rfl, by omega, by omega, hij, d1, hbi, hbj, fun hd => ?_⟩
  have hgj : gv (x.set i (gv x i + d)) j = gv x j := by rw [gv_set (by omega), if_neg hij]
  have hwt : ∀ s, M.wt (gv ((x.set i (gv x i + d)).set j (gv x j - d))) s N = M.wt (gv x) s N + (if s.testBit i = true then d else 0) - (if s.testBit j = true then d else 0) := by
    intro s
    rw [wt_set hlen1 hj, wt_set p2' hi, hgj]
    split <;> split <;> omega
  have hbel : belowB N v ((x.set i (gv x i + d)).set j (gv x j - d)) = true := by
    refine plain_below hf hl p1 (by rw [List.length_set]; exact hlen1) (fun k hk => ?_) (fun s hs => ?_)
    · rw [gv_set (by omega)]
      split
      · omega
      · rw [gv_set (by omega)]
        split
        · omega
        · exact p3 k hk
    · rw [hwt]
      have := p4 s hs
      cases hsi : s.testBit i <;> cases hsj : s.testBit j
      · simp; omega
      · simp; omega
      · have := d2 s hs hsi hsj
        simp; omega
      · simp; omega
  have hif : (2 ^ N - 1).testBit i = true := by rw [Nat.testBit_two_pow_sub_one]; simpa using hi
  have hz : slk v ((x.set i (gv x i + d)).set j (gv x j - d)) (v.length - 1) = 0 := by
    rw [slk_wt (N := N) (by rw [List.length_set]; exact hlen1), hl, hwt, if_pos hif, if_pos hjf]
    omega
  simp [baseB, hbel, hz]
theorem sumT_sum (x : List Int) : ∀ k, sumT x k = M.sumN (gv x) k
  | 0 => rfl
  | k + 1 => by unfold sumT M.sumN; rw [sumT_sum x k]
theorem corn_len {E : Int} {v o : List Int} (h : cornOk E v o = true) : ∃ N : Nat, E = (N : Int) ∧ N ≤ 5 ∧ (cornL E v o).length = N ∧ allIn (cornL E v o) (-5000) 5000 = true ∧ sumT (cornL E v o) N = valR E v (((p2 N : Nat) : Int) - 1) := by
  have hok := h
  simp only [cornOk, grdB, Bool.and_eq_true, decide_eq_true_eq] at h
  obtain ⟨⟨hf, h0⟩, ho⟩ := h
  obtain ⟨N, rfl, hN, hl, ha⟩ := isFn_true hf
  rw [Int.toNat_natCast] at ho
  have hol := ord_len ho
  have e : cornL N v o = cornT N v o N := by unfold cornL; rw [if_pos hok, Int.toNat_natCast, hol]
  have hO := ord_ord ho
  have hC := corn_corn (v := v) ho
  have ht := hO.tight hC h0 (Nat.le_refl N)
  rw [hO.full, M.wt_full] at ht
  have hb := corner_bd hl ha ho
  have hp := Nat.two_pow_pos N
  refine ⟨N, rfl, hN, by rw [e]; exact corner_len N v o, ?_, ?_⟩
  · rw [e]
    exact allIn_of' fun k hk => by rw [corner_len] at hk; have := hb k hk; omega
  · rw [e, sumT_sum, ht]
    have e1 : ((p2 N : Nat) : Int) - 1 = ((2 ^ N - 1 : Nat) : Int) := by unfold p2; omega
    rw [e1]
    unfold valR
    have : inR ((2 ^ N - 1 : Nat) : Int) 0 ((v.length : Int) - 1) = true := by simp only [inR, decide_eq_true_eq]; omega
    rw [hf, this]
    simp
end Go.Proofs.Ytokeejachclpeaa
