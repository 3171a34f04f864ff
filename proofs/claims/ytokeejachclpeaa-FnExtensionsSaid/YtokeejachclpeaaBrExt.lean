/-
  Plain words for the law FnExtensions: extensions at sets, greatest and least pairings with bases, level sets.
-/
import Derived.Test.YtokeejachclpeaaBrTop
import Derived.Test.YtokeejachclpeaaBrConv
import Derived.Test.YtokeejachclpeaaBB
import Derived.Test.YtokeejachclpeaaDrawD
namespace Go.Proofs.Ytokeejachclpeaa
open Go.RowKit

/-- A set as a vector of zeros and ones. -/
def indL (N s : Nat) : List Int := (List.range N).map fun k => if s.testBit k then 1 else 0
theorem indL_len (N s : Nat) : (indL N s).length = N := by simp [indL]
theorem indL_gv {N s k : Nat} (hk : k < N) : gv (indL N s) k = if s.testBit k then 1 else 0 := by
  rw [gv_get (by rw [indL_len]; exact hk)]
  simp [indL]
theorem ext_ind {N : Nat} {v : List Int} {s : Nat} (hf : isFn N v = true) (hs : s < v.length) : extOk N v (indL N s) = true ∧ extV N v (indL N s) = gv v s := by
  obtain ⟨N', hNN, hN, hl, ha⟩ := isFn_true hf
  obtain rfl : N = N' := by omega
  have hb : allIn (indL N s) (-1000) 1000 = true := allIn_of' fun k hk => by
    rw [indL_len] at hk
    rw [indL_gv hk]; split <;> omega
  have hok : extOk N v (indL N s) = true := by
    simp [extOk, hf, vecOk, indL_len, hb, hN]
  refine ⟨hok, ?_⟩
  obtain ⟨e, _⟩ := ext_dot hok
  rw [e]
  exact (ord_ord (ordD_ok (indL N s) N)).indicator (corn_corn (ordD_ok (indL N s) N)) (desc_desc (indL N s) N) (by omega) (fun k hk => indL_gv hk)
/-- What is known where a function can be optimized. -/
theorem opt_plain {E : Int} {v x : List Int} (h : optB E v x = true) : ∃ N : Nat, E = (N : Int) ∧ N ≤ 5 ∧ v.length = 2 ^ N ∧ isFn E v = true ∧ allIn v (-1000) 1000 = true ∧ gv v 0 = 0 ∧ M.Smod (gv v) N ∧ vecOk 1000 x = true ∧ x.length = N := by
  simp only [optB, Bool.and_eq_true, decide_eq_true_eq] at h
  obtain ⟨hg, hs, hx, hxl⟩ := h
  obtain ⟨N, rfl, hN, hl, ha, hsm⟩ := sub_ok hs
  have hf := grd_fn hg
  simp only [grdB, Bool.and_eq_true, decide_eq_true_eq] at hg
  exact ⟨N, rfl, hN, hl, hf, ha, hg.2, hsm, hx, by omega⟩
/-- The levels of an order are tight exactly if each place behind which a level ends is. -/
theorem tgt_levels {N : Nat} {v y x o : List Int} (ho : ordB N o = true) : ∀ k, k ≤ o.length → (tgtL v y (levT x o k) (levT x o k).length = true ↔ ∀ i, i < k → levP x o i = true → slk v y (seenN o (i + 1)) = 0)
  | 0, _ => by simp [tgtL, levT]
  | k + 1, hk => by
    have ih := tgt_levels (v := v) (y := y) (x := x) ho k (by omega)
    unfold levT
    split
    · rename_i hp
      constructor
      · intro h i hi hpi
        simp only [tgtL, decide_eq_true_eq] at h ih
        by_cases hik : i = k
        · subst hik
          have := h (levT x o i).length (by simp)
          rwa [gv_append2 rfl, Int.toNat_natCast] at this
        · refine ih.1 (fun j hj => ?_) i (by omega) hpi
          have := h j (by simp; omega)
          rwa [gv_append hj] at this
      · intro h
        simp only [tgtL, decide_eq_true_eq] at ih ⊢
        intro j hj
        by_cases h1 : j < (levT x o k).length
        · rw [gv_append h1]
          exact ih.2 (fun i hi hpi => h i (by omega) hpi) j h1
        · have h2 : j = (levT x o k).length := by simp at hj; omega
          rw [gv_append2 h2, Int.toNat_natCast]
          exact h k (by omega) hp
    · rename_i hp
      rw [ih]
      constructor
      · intro h i hi hpi
        by_cases hik : i = k
        · subst hik; exact absurd hpi hp
        · exact h i (by omega) hpi
      · intro h i hi hpi
        exact h i (by omega) hpi
/-- A base is told best exactly if its pairing is the greatest. -/
theorem bb_law {E : Int} {v x y : List Int} (h : optB E v x = true) (hy : baseB E v y = true) : (bbB E v x y = true ↔ prodT x y x.length = maxP E v x) ∧ prodT x y x.length ≤ maxP E v x ∧ minP' E v x ≤ prodT x y x.length := by
  have hok := h
  obtain ⟨N, rfl, hN, hl, hf, ha, h0, hsm, hx, hxl⟩ := opt_plain h
  have hyb := hy
  simp only [baseB, Bool.and_eq_true, decide_eq_true_eq] at hyb
  obtain ⟨_, p2', _, p4⟩ := below_plain hl hyb.1
  have hfull := hyb.2
  rw [slk_wt p2', hl] at hfull
  have hdf : M.wt (gv y) (2 ^ N - 1) N = gv v (2 ^ N - 1) := by omega
  have oo := ordD_ok x N
  have hO := ord_ord oo
  have hC := corn_corn (v := v) oo
  have hD := desc_desc x N
  have e1 : maxP N v x = M.dot (gv x) (gv (cornT N v (ordD x N) N)) N := by
    unfold maxP
    rw [if_pos hok, Int.toNat_natCast, hxl, prodT_dot]
  have e2 : prodT x y x.length = M.dot (gv x) (gv y) N := by rw [hxl, prodT_dot]
  have hedm := hO.edmonds (x := gv x) hC h0 hD p4 hdf
  have hbest := hO.best (x := gv x) hC h0 hD p4 hdf
  have hol : (ordD x N).length = N := ord_len oo
  refine ⟨?_, by rw [e1, e2]; exact hedm, ?_⟩
  · rw [e1, e2, hbest]
    unfold bbB levL
    rw [hok, hy, if_pos hx, hxl]
    simp only [Bool.true_and]
    have ht := tgt_levels (v := v) (y := y) (x := x) oo N (by omega)
    rw [ht]
    constructor
    · intro hall i hi hlt
      have := hall i (by omega) (by unfold levP; rw [Bool.or_eq_true]; right; exact decide_eq_true hlt)
      rw [slk_wt p2'] at this
      omega
    · intro hall i hi hp
      rw [slk_wt p2']
      unfold levP at hp
      rw [Bool.or_eq_true, decide_eq_true_eq, decide_eq_true_eq, hol] at hp
      by_cases hlast : i + 1 = N
      · rw [hlast]
        have hfl : seenN (ordD x N) N = 2 ^ N - 1 := hO.full
        rw [hfl]; omega
      · rcases hp with hp | hp
        · exact absurd hp hlast
        · have := hall i (by omega) hp
          omega
  · have hng : optB N v (negL x) = true := by
      have hb : allIn (negL x) (-1000) 1000 = true := allIn_of' fun k hk => by
        have hk' : k < x.length := by simpa [negL] using hk
        have h1 := vecOk_gv hx hk'
        have e : gv (negL x) k = - gv x k := by
          rw [gv_get (by simpa [negL] using hk'), gv_get hk']
          simp [negL]
        rw [e]; omega
      have hlen : (negL x).length = N := by simp [negL, hxl]
      have hx5 := (vecOk_true hx).1
      simp only [optB, Bool.and_eq_true, decide_eq_true_eq] at hok ⊢
      refine ⟨hok.1, hok.2.1, ?_, by omega⟩
      simp only [vecOk, Bool.and_eq_true, decide_eq_true_eq]
      exact ⟨by omega, hb⟩
    have on := ordD_ok (negL x) N
    have hlen : (negL x).length = N := by simp [negL, hxl]
    have hen := (ord_ord on).edmonds (x := gv (negL x)) (corn_corn (v := v) on) h0 (desc_desc (negL x) N) p4 hdf
    have en : maxP N v (negL x) = M.dot (gv (negL x)) (gv (cornT N v (ordD (negL x) N) N)) N := by
      unfold maxP
      rw [if_pos hng, Int.toNat_natCast, hlen, prodT_dot]
    have ed : M.dot (gv (negL x)) (gv y) N = - M.dot (gv x) (gv y) N := by
      rw [← M.dot_neg]
      exact M.dot_congr (fun k hk => by
        rw [gv_get (by rw [hlen]; exact hk), gv_get (by omega)]
        simp [negL]) (fun _ _ => rfl)
    unfold minP'
    rw [if_pos hok, en, e2]
    omega
/-- What a pairing gives. -/
def pairV (x y : List Int) : Int := if pairOk x y then prodT x y x.length else 0
/-- What the law says of the greatest pairing. -/
structure OptFacts (E : Int) (v x : List Int) : Prop where
  ext : extV E v x = maxP E v x
  pair : Flat v → pairV x (maxL E v x) = maxP E v x
  best : bbB E v x (maxL E v x) = true
  low : decide (maxP E v x < minP' E v x) = false
theorem opt_facts {E : Int} {v x : List Int} (h : optB E v x = true) : OptFacts E v x := by
  have hok := h
  obtain ⟨N, rfl, hN, hl, hf, ha, h0, hsm, hx, hxl⟩ := opt_plain h
  have oo := ordD_ok x N
  have em : maxL N v x = cornT N v (ordD x N) N := by
    unfold maxL
    rw [if_pos hok, Int.toNat_natCast, hxl]
  have hbase := corner_base hf h0 hsm oo
  rw [← em] at hbase
  obtain ⟨b1, b2, b3⟩ := bb_law hok hbase
  have ep : prodT x (maxL N v x) x.length = maxP N v x := by
    rw [em]
    unfold maxP
    rw [if_pos hok, Int.toNat_natCast, hxl]
  refine ⟨?_, fun hfl => ?_, b1.2 ep, decide_eq_false (by omega)⟩
  · have hxo : extOk N v x = true := by simp [extOk, hf, hx, hxl]
    obtain ⟨e, _⟩ := ext_dot hxo
    rw [e, h0]
    unfold maxP
    rw [if_pos hok, Int.toNat_natCast, hxl, prodT_dot]
    omega
  · have hlen : (maxL N v x).length = N := by rw [em]; exact corner_len N v _
    have hb : allIn (maxL N v x) (-1000) 1000 = true := allIn_of' fun k hk => by
      rw [hlen] at hk
      have hO := ord_ord oo
      have hp := Nat.two_pow_pos N
      obtain ⟨i, hi, he⟩ := hO.onto hk
      have he' : (gv (ordD x N) i).toNat = k := he
      have h1 : gv (cornT N v (ordD x N) N) (gv (ordD x N) i).toNat = gv v (seenN (ordD x N) (i + 1)) - gv v (seenN (ordD x N) i) := corn_corn (v := v) oo i hi
      rw [he'] at h1
      rw [em, h1]
      obtain ⟨d, hd⟩ := hfl
      have l1 : seenN (ordD x N) (i + 1) < 2 ^ N := hO.set_lt (by omega)
      have l2 : seenN (ordD x N) i < 2 ^ N := hO.set_lt (by omega)
      have g1 := allIn_gv (v := v) (k := seenN (ordD x N) (i + 1)) (by omega) ha
      have n1 : 0 < seenN (ordD x N) (i + 1) := by
        have hb : (seenN (ordD x N) (i + 1)).testBit (gv (ordD x N) i).toNat = true := by
          have : seenN (ordD x N) (i + 1) = seenN (ordD x N) i ||| 2 ^ (gv (ordD x N) i).toNat := hO.succ i hi
          rw [this, M.ins_bit]; simp
        rcases Nat.eq_zero_or_pos (seenN (ordD x N) (i + 1)) with hz | hz
        · rw [hz, Nat.zero_testBit] at hb; cases hb
        · exact hz
      by_cases hi0 : i = 0
      · have : seenN (ordD x N) i = 0 := by rw [hi0]; rfl
        rw [this, h0]; omega
      · have n2 : 0 < seenN (ordD x N) i := by
          obtain ⟨j, rfl⟩ : ∃ j, i = j + 1 := ⟨i - 1, by omega⟩
          have hb : (seenN (ordD x N) (j + 1)).testBit (gv (ordD x N) j).toNat = true := by
            have : seenN (ordD x N) (j + 1) = seenN (ordD x N) j ||| 2 ^ (gv (ordD x N) j).toNat := hO.succ j (by omega)
            rw [this, M.ins_bit]; simp
          rcases Nat.eq_zero_or_pos (seenN (ordD x N) (j + 1)) with hz | hz
          · rw [hz, Nat.zero_testBit] at hb; cases hb
          · exact hz
        have d1 := hd _ n1 (by omega)
        have d2 := hd _ n2 (by omega)
        omega
    have hpo : pairOk x (maxL N v x) = true := by
      have h5 := (vecOk_true hx).1
      have : vecOk 1000 (maxL N v x) = true := by
        simp only [vecOk, Bool.and_eq_true, decide_eq_true_eq]
        exact ⟨by omega, hb⟩
      simp only [pairOk, hx, this, Bool.true_and, decide_eq_true_eq]
      omega
    unfold pairV
    rw [if_pos hpo, ep]
/-- What the law says of the corners. -/
theorem corner_facts {E : Int} {v x : List Int} (h : optB E v x = true) {j : Nat} (hj : j < (cornersL E v).length) :
    prodT x ((cornersL E v).getD j []) x.length ≤ maxP E v x ∧ minP' E v x ≤ prodT x ((cornersL E v).getD j []) x.length ∧
    ((prodT x ((cornersL E v).getD j []) x.length == maxP E v x) = bbB E v x ((cornersL E v).getD j [])) ∧ ((cornersL E v).getD j []).length = x.length ∧ x.length ≤ 5 ∧ (∀ k, k < x.length → -1000 ≤ gv x k ∧ gv x k ≤ 1000) ∧ ∀ k, k < x.length → -2000 ≤ gv ((cornersL E v).getD j []) k ∧ gv ((cornersL E v).getD j []) k ≤ 2000 := by
  have hoptB := h
  obtain ⟨N, rfl, hN, hl, hf, ha, h0, hsm, hx, hxl⟩ := opt_plain h
  have hok : cornersOk N v = true := by
    cases hc : cornersOk N v
    · unfold cornersL at hj
      rw [hc] at hj
      simp at hj
    · rfl
  have hm : (cornersL N v).getD j [] ∈ cornersL N v := by simp [List.getD, List.getElem?_eq_getElem hj]
  obtain ⟨o, ho, he⟩ := (cornersL_mem hok _).1 hm
  have hN4 : N ≤ 4 := by
    simp only [cornersOk, Bool.and_eq_true, decide_eq_true_eq] at hok
    omega
  have hob := ords_ok ⟨N, by omega⟩ o ho
  have hbase := corner_base hf h0 hsm hob
  have hbd := corner_bd hl ha hob
  rw [he]
  obtain ⟨b1, b2, b3⟩ := bb_law hoptB hbase
  refine ⟨b2, b3, ?_, by rw [corner_len, hxl], by omega, fun k hk => vecOk_gv hx hk, fun k hk => hbd k (by omega)⟩
  rw [Bool.eq_iff_iff, b1]
  simp
end Go.Proofs.Ytokeejachclpeaa
