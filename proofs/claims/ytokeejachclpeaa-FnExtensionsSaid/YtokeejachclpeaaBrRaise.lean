/-
  Plain words on capacities: what raising a vector leaves, the dual vector, exchanges.
-/
import Derived.Test.YtokeejachclpeaaBr1
import Derived.Test.YtokeejachclpeaaCapM
namespace Go.Proofs.Ytokeejachclpeaa
open Go.RowKit

theorem minW_spec {c : Nat → Int} {p : Nat → Bool} : ∀ k m, minW c p k = some m → (∀ j, j < k → p j = true → m ≤ c j) ∧ ∃ j, j < k ∧ p j = true ∧ c j = m
  | 0, m, e => by simp [minW] at e
  | k + 1, m, e => by
    unfold minW at e
    cases hp : p k
    · rw [hp] at e
      simp only [Bool.false_eq_true, if_false] at e
      obtain ⟨h1, j, h2, h3, h4⟩ := minW_spec k m e
      refine ⟨fun i hi hpi => ?_, j, by omega, h3, h4⟩
      by_cases hik : i = k
      · rw [hik, hp] at hpi; cases hpi
      · exact h1 i (by omega) hpi
    · rw [hp] at e
      simp only [if_true] at e
      cases hm : minW c p k with
      | none =>
        rw [hm] at e
        simp only [Option.some.injEq] at e
        refine ⟨fun i hi hpi => ?_, k, by omega, hp, e⟩
        by_cases hik : i = k
        · rw [hik]; omega
        · have := minW_some (c := c) (p := p) (j := i) hpi k (by omega)
          rw [hm] at this; cases this
      | some m0 =>
        rw [hm] at e
        simp only [Option.some.injEq] at e
        obtain ⟨h1, j, h2, h3, h4⟩ := minW_spec k m0 hm
        unfold mn at e
        split at e
        · refine ⟨fun i hi hpi => ?_, k, by omega, hp, e⟩
          by_cases hik : i = k
          · rw [hik]; omega
          · have := h1 i (by omega) hpi; omega
        · refine ⟨fun i hi hpi => ?_, j, by omega, h3, by omega⟩
          by_cases hik : i = k
          · rw [hik]; omega
          · have := h1 i (by omega) hpi; omega
/-- A vector below a function, in plain words. -/
theorem below_plain {N : Nat} {v x : List Int} (hl : v.length = 2 ^ N) (h : belowB N v x = true) : gv v 0 = 0 ∧ x.length = N ∧ (∀ k, k < N → -5000 ≤ gv x k ∧ gv x k ≤ 5000) ∧ ∀ s, s < 2 ^ N → M.wt (gv x) s N ≤ gv v s := by
  obtain ⟨h1, h2, h3, h4, h5⟩ := below_ok h
  have hx : x.length = N := by omega
  refine ⟨h2, hx, fun k hk => vecOk_gv h4 (by omega), fun s hs => ?_⟩
  have := h5 s (by omega)
  unfold slk at this
  rw [weigh_wt, hx] at this
  omega
theorem allIn_of' {x : List Int} {l h : Int} (hx : ∀ k, k < x.length → l ≤ gv x k ∧ gv x k ≤ h) : allIn x l h = true := by
  unfold allIn
  rw [List.all_eq_true]
  intro y hy
  obtain ⟨k, hk, rfl⟩ := List.getElem_of_mem hy
  have := hx k hk
  rw [gv_get hk] at this
  simp [inR]; omega
theorem plain_below {N : Nat} {v x : List Int} (hf : isFn N v = true) (hl : v.length = 2 ^ N) (h0 : gv v 0 = 0) (hx : x.length = N) (hb : ∀ k, k < N → -5000 ≤ gv x k ∧ gv x k ≤ 5000) (h : ∀ s, s < 2 ^ N → M.wt (gv x) s N ≤ gv v s) : belowB N v x = true := by
  have h1 : allIn x (-5000) 5000 = true := allIn_of' fun k hk => hb k (by omega)
  have h2 : ∀ s, s < v.length → 0 ≤ slk v x s := fun s hs => by
    have := h s (by omega)
    unfold slk
    rw [weigh_wt, hx]; omega
  simp only [belowB, grdB, longOk, Bool.and_eq_true, decide_eq_true_eq]
  exact ⟨⟨hf, h0⟩, ⟨by omega, h1⟩, h2⟩
theorem slk_wt {N : Nat} {v x : List Int} (hx : x.length = N) (s : Nat) : slk v x s = gv v s - M.wt (gv x) s N := by
  unfold slk
  rw [weigh_wt, hx]
/-- The capacity: at most each slack, and one of them. -/
theorem cap_spec {N : Nat} {v x : List Int} {e : Nat} (hl : v.length = 2 ^ N) (h : belowB N v x = true) (he : e < N) :
    0 ≤ capV N v x (e : Int) ∧ (∀ s, s < 2 ^ N → s.testBit e = true → capV N v x (e : Int) ≤ gv v s - M.wt (gv x) s N) ∧ ∃ s, s < 2 ^ N ∧ s.testBit e = true ∧ gv v s - M.wt (gv x) s N = capV N v x (e : Int) := by
  obtain ⟨p1, p2, p3, p4⟩ := below_plain hl h
  have hok : capOk N v x (e : Int) = true := by
    have : inR (e : Int) 0 ((N : Int) - 1) = true := by simp [inR]; omega
    simp [capOk, h, this]
  have hlt : 2 ^ e < v.length := by rw [hl]; exact Nat.pow_lt_pow_right (by omega) he
  have hsome := minW_some (c := slk v x) (p := fun s => hasB s e) (j := 2 ^ e) hasB_self v.length hlt
  obtain ⟨m, hm⟩ := Option.isSome_iff_exists.1 hsome
  have hv : capV N v x (e : Int) = m := by
    unfold capV
    rw [if_pos hok, Int.toNat_natCast, hm]; rfl
  obtain ⟨h1, j, h2, h3, h4⟩ := minW_spec _ _ hm
  rw [hv]
  have hq : ∀ s, s < 2 ^ N → s.testBit e = true → m ≤ gv v s - M.wt (gv x) s N := fun s hs hse => by
    have := h1 s (by omega) hse
    rwa [slk_wt p2] at this
  have h5 : gv v j - M.wt (gv x) j N = m := by rw [← h4, slk_wt p2]
  exact ⟨by have := p4 j (by omega); omega, hq, j, by omega, h3, h5⟩
theorem wt_set {N e : Nat} {x : List Int} {u : Int} (hx : x.length = N) (he : e < N) (s : Nat) : M.wt (gv (x.set e u)) s N = M.wt (gv x) s N + if s.testBit e = true then u - gv x e else 0 := by
  have h1 := M.wt_upd (gv x) e u s N
  have h2 : M.wt (gv (x.set e u)) s N = M.wt (M.upd (gv x) e u) s N := M.wt_congr (fun _ _ => rfl) (fun k hk _ => by
    rw [gv_set (by omega)]
    unfold M.upd
    by_cases hke : k = e
    · rw [if_pos hke.symm, if_pos hke]
    · rw [if_neg (fun h => hke h.symm), if_neg hke])
  rw [h2, h1]
  by_cases hs : s.testBit e = true
  · rw [if_pos ⟨he, hs⟩, if_pos hs]
  · rw [if_neg (fun h => hs h.2), if_neg hs]
theorem set_below {N e : Nat} {v x : List Int} {u : Int} (hf : isFn N v = true) (hl : v.length = 2 ^ N) (h : belowB N v x = true) (he : e < N) (hu : -5000 ≤ u ∧ u ≤ 5000)
    (hc : ∀ s, s < 2 ^ N → s.testBit e = true → u - gv x e ≤ gv v s - M.wt (gv x) s N) : belowB N v (x.set e u) = true := by
  obtain ⟨p1, p2, p3, p4⟩ := below_plain hl h
  refine plain_below hf hl p1 (by rw [List.length_set]; exact p2) (fun k hk => ?_) (fun s hs => ?_)
  · rw [gv_set (by omega)]
    split
    · exact hu
    · exact p3 k hk
  · rw [wt_set p2 he]
    have h1 := p4 s hs
    split
    · rename_i hb
      have := hc s hs hb; omega
    · omega
theorem mn_le (a b : Int) : mn a b ≤ a ∧ mn a b ≤ b ∧ (mn a b = a ∨ mn a b = b) := by unfold mn; split <;> omega
/-- What raising keeps: below the function, at most the bounds where it was. -/
theorem raise_below {N : Nat} {v mo x : List Int} (hN : N ≤ 5) (hf : isFn N v = true) (hl : v.length = 2 ^ N) (hx : belowB N v x = true) (hm : allIn mo (-5000) 5000 = true) (hml : mo.length = N) : ∀ e, e ≤ N → belowB N v (raiseT N v mo x e) = true
  | 0, _ => hx
  | e + 1, he => by
    have ih := raise_below hN hf hl hx hm hml e (by omega)
    unfold raiseT
    split
    · rename_i hlt
      obtain ⟨c1, c2, _⟩ := cap_spec hl ih (e := e) (by omega)
      obtain ⟨_, p2, p3, _⟩ := below_plain hl ih
      have b1 := p3 e (by omega)
      have b2 := allIn_gv (v := mo) (k := e) (by omega) hm
      obtain ⟨m1, m2, m3⟩ := mn_le (gv (raiseT N v mo x e) e + capV N v (raiseT N v mo x e) (e : Int)) (gv mo e)
      refine set_below hf hl ih (by omega) (by omega) (fun s hs hse => ?_)
      have := c2 s hs hse
      omega
    · exact ih
theorem raise_law {E : Int} {v x mo : List Int} (h : raiseOk E v x mo = true) : belowB E v (raiseL E v x mo) = true := by
  have hok := h
  simp only [raiseOk, Bool.and_eq_true] at h
  obtain ⟨h1, h2, h3⟩ := h
  obtain ⟨N, rfl, hN, hl, ha, _⟩ := sub_ok h1
  have hf : isFn N v = true := by
    simp only [subB, Bool.and_eq_true] at h1
    exact h1.1
  obtain ⟨_, p2, _, _⟩ := below_plain hl h2
  simp only [longOk, Bool.and_eq_true, decide_eq_true_eq] at h3
  unfold raiseL
  rw [if_pos hok, p2]
  exact raise_below hN hf hl h2 h3.2 (by omega) N (Nat.le_refl _)

/-! The dual vector. -/
theorem rep_gv (N : Nat) (u : Int) {k : Nat} (hk : k < N) : gv (List.replicate N u) k = u := by
  rw [gv_get (by simpa using hk)]; simp
theorem exists_bit {s : Nat} (h : s ≠ 0) : ∃ i, s.testBit i = true := Nat.exists_testBit_of_ne_zero h
theorem cnt_one {s N : Nat} (hs : s < 2 ^ N) (h : s ≠ 0) : 1 ≤ M.cnt s N := by
  obtain ⟨i, hi⟩ := exists_bit h
  have hiN := M.bit_lt hs hi
  have h1 := M.wt_part (x := fun _ => 1) (s := 2 ^ i) (t := s) (fun k hk => by
    rw [Nat.testBit_two_pow] at hk
    have : i = k := by simpa using hk
    rw [← this]; exact hi) (N := N) (fun _ _ _ _ => by omega)
  rw [M.wt_one, if_pos hiN] at h1
  exact h1
theorem low_below {N : Nat} {v : List Int} (hf : isFn N v = true) (hl : v.length = 2 ^ N) (ha : allIn v (-1000) 1000 = true) (h0 : gv v 0 = 0) : belowB N v (lowL N) = true := by
  refine plain_below hf hl h0 (low_len N) (fun k hk => by unfold lowL; rw [rep_gv N _ hk]; omega) (fun s hs => ?_)
  have e : M.wt (gv (lowL N)) s N = M.wt (fun _ => -2000) s N := M.wt_congr (fun _ _ => rfl) (fun k hk _ => by unfold lowL; rw [rep_gv N _ hk])
  rw [e, M.wt_const]
  by_cases hs0 : s = 0
  · subst hs0
    have : M.cnt 0 N = 0 := M.wt_zero _ _
    rw [this, h0]; omega
  · have := cnt_one hs hs0
    have := allIn_gv (v := v) (k := s) (by omega) ha
    omega
theorem dv_ok (E : Int) (v : List Int) : dvOk E v = (subB E v && grdB E v) := by
  unfold dvOk dvIn
  cases hg : grdB E v
  · simp
  cases hs : subB E v
  · simp
  obtain ⟨N, rfl, hN, hl, ha, _⟩ := sub_ok hs
  have hf := grd_fn hg
  have h0 : gv v 0 = 0 := by
    simp only [grdB, Bool.and_eq_true, decide_eq_true_eq] at hg
    exact hg.2
  have h1 : longOk N (zeroL N) = true := by
    have : allIn (zeroL N) (-5000) 5000 = true := allIn_of' fun k hk => by
      unfold zeroL at hk ⊢
      rw [rep_gv N _ (by simpa using hk)]; omega
    have h2 : (zeroL N).length = N := by simp [zeroL]
    simp only [longOk, this, h2, decide_true, Bool.and_self]
  simp [raiseOk, hs, low_below hf hl ha h0, h1]
/-- While the dual vector is raised. -/
theorem dual_inv {N : Nat} {v : List Int} (hN : N ≤ 5) (hf : isFn N v = true) (hl : v.length = 2 ^ N) (ha : allIn v (-1000) 1000 = true) (h0 : gv v 0 = 0) : ∀ e, e ≤ N →
    (∀ k, k < N → gv (raiseT N v (zeroL N) (lowL N) e) k ≤ 0) ∧ ∀ j, j < e → gv (raiseT N v (zeroL N) (lowL N) e) j = 0 ∨ ∃ T, T < 2 ^ N ∧ T.testBit j = true ∧ M.wt (gv (raiseT N v (zeroL N) (lowL N) e)) T N = gv v T
  | 0, _ => ⟨fun k hk => by
      show gv (lowL N) k ≤ 0
      unfold lowL; rw [rep_gv N _ hk]; omega, fun j hj => by omega⟩
  | e + 1, he => by
    obtain ⟨i1, i2⟩ := dual_inv hN hf hl ha h0 e (by omega)
    have hz : allIn (zeroL N) (-5000) 5000 = true := allIn_of' fun k hk => by
      unfold zeroL at hk ⊢
      rw [rep_gv N _ (by simpa using hk)]; omega
    have hb := raise_below hN hf hl (low_below hf hl ha h0) hz (by simp [zeroL]) e (by omega)
    have hze : gv (zeroL N) e = 0 := by unfold zeroL; exact rep_gv N 0 (by omega)
    obtain ⟨_, p2, p3, p4⟩ := below_plain hl hb
    obtain ⟨c1, c2, J, c3, c4, c5⟩ := cap_spec hl hb (e := e) (by omega)
    unfold raiseT
    rw [hze]
    generalize raiseT N v (zeroL N) (lowL N) e = R at *
    split
    · rename_i hlt
      obtain ⟨m1, m2, m3⟩ := mn_le (gv R e + capV N v R (e : Int)) 0
      generalize mn (gv R e + capV N v R (e : Int)) 0 = u at *
      refine ⟨fun k hk => ?_, fun j hj => ?_⟩
      · rw [gv_set (by omega)]
        split
        · exact m2
        · exact i1 k hk
      · by_cases hje : j = e
        · subst hje
          rw [gv_set (by omega), if_pos rfl]
          rcases m3 with m3 | m3
          · refine .inr ⟨J, c3, c4, ?_⟩
            rw [wt_set p2 (by omega), if_pos c4]
            omega
          · exact .inl m3
        · rw [gv_set (by omega), if_neg (fun h => hje h.symm)]
          rcases i2 j (by omega) with h | ⟨T, t1, t2, t3⟩
          · exact .inl h
          · refine .inr ⟨T, t1, t2, ?_⟩
            rw [wt_set p2 (by omega)]
            split
            · rename_i hte
              have h1 := c2 T t1 hte
              have hq : capV N v R (e : Int) = 0 := by omega
              rw [hq] at m1 m3
              omega
            · omega
    · rename_i hge
      refine ⟨i1, fun j hj => ?_⟩
      by_cases hje : j = e
      · subst hje
        have := i1 j (by omega)
        exact .inl (by omega)
      · exact i2 j (by omega)
theorem negSum_sum (v : List Int) : ∀ k, k ≤ v.length → negSum (v.take k) = M.sumN (fun j => min (gv v j) 0) k
  | 0, _ => by simp [negSum, M.sumN]
  | k + 1, hk => by
    rw [negSum_snoc (by omega), negSum_sum v k (by omega)]; rfl
theorem negSum_eq {N : Nat} {v : List Int} (h : v.length = N) : negSum v = M.wt (fun j => min (gv v j) 0) (2 ^ N - 1) N := by
  have h1 := negSum_sum v N (by omega)
  rw [← h, List.take_length] at h1
  rw [M.wt_full, ← h, h1]
theorem minT_le' (v : List Int) : ∀ k j, j ≤ k → minT v k ≤ gv v j
  | 0, j, h => by obtain rfl : j = 0 := by omega
                  exact Int.le_refl _
  | k + 1, j, h => by
    unfold minT
    by_cases hj : j = k + 1
    · rw [hj]; omega
    · have := minT_le' v k j (by omega); omega
theorem minT_mem' (v : List Int) : ∀ k, ∃ j, j ≤ k ∧ gv v j = minT v k
  | 0 => ⟨0, Nat.le_refl _, rfl⟩
  | k + 1 => by
    obtain ⟨j, h1, h2⟩ := minT_mem' v k
    rw [show minT v (k + 1) = min (minT v k) (gv v (k + 1)) from minT_succ (v := v) (Nat.succ_pos k)]
    by_cases h : minT v k ≤ gv v (k + 1)
    · exact ⟨j, by omega, by rw [h2]; omega⟩
    · exact ⟨k + 1, Nat.le_refl _, by omega⟩
theorem minR_spec {N : Nat} {v : List Int} (hf : isFn N v = true) (hl : v.length = 2 ^ N) : minR N v = minV v ∧ (∀ s, s < 2 ^ N → minV v ≤ gv v s) ∧ ∃ s, s < 2 ^ N ∧ gv v s = minV v := by
  have hp := Nat.two_pow_pos N
  refine ⟨by unfold minR; rw [if_pos hf], fun s hs => minT_le' v _ s (by omega), ?_⟩
  obtain ⟨j, h1, h2⟩ := minT_mem' v (v.length - 1)
  exact ⟨j, by omega, h2⟩
/-- What the law says of the dual vector. -/
structure DualFacts (E : Int) (v : List Int) : Prop where
  dual : dualB E v (dvL E v) = true
  vec : vecOk 5000 (dvL E v) = true
  neg : negR (dvL E v) = minR E v
theorem dual_facts {E : Int} {v : List Int} (h : dvOk E v = true) : DualFacts E v := by
  have hok := h
  simp only [dvOk, Bool.and_eq_true] at h
  obtain ⟨hin, hro⟩ := h
  have hin' := hin
  simp only [dvIn, Bool.and_eq_true] at hin'
  obtain ⟨hg, hs⟩ := hin'
  obtain ⟨N, rfl, hN, hl, ha, hsm⟩ := sub_ok hs
  have hf := grd_fn hg
  have h0 : gv v 0 = 0 := by
    simp only [grdB, Bool.and_eq_true, decide_eq_true_eq] at hg
    exact hg.2
  have e : dvL N v = raiseT N v (zeroL N) (lowL N) N := by
    unfold dvL raiseL
    rw [if_pos hin, Int.toNat_natCast]
    rw [Int.toNat_natCast] at hro
    rw [if_pos hro, low_len]
  have hz : allIn (zeroL N) (-5000) 5000 = true := allIn_of' fun k hk => by
    unfold zeroL at hk ⊢
    rw [rep_gv N _ (by simpa using hk)]; omega
  have hb := raise_below hN hf hl (low_below hf hl ha h0) hz (by simp [zeroL]) N (Nat.le_refl _)
  obtain ⟨i1, i2⟩ := dual_inv hN hf hl ha h0 N (Nat.le_refl _)
  rw [← e] at hb i1 i2
  obtain ⟨_, p2, p3, p4⟩ := below_plain hl hb
  obtain ⟨⟨U, u1, u2⟩, u3⟩ := hsm.dual h0 p4 i1 i2
  obtain ⟨r1, r2, J, r3, r4⟩ := minR_spec hf hl
  have hw : M.wt (gv (dvL N v)) (2 ^ N - 1) N = minV v := by
    have := r2 U u1
    have := u3 J r3
    omega
  have hvec : vecOk 5000 (dvL N v) = true := (below_ok hb).vec
  refine ⟨?_, hvec, ?_⟩
  · have a1 : allIn (dvL N v) (-5000) 0 = true := allIn_of' fun k hk => by
      have := i1 k (by omega)
      have := p3 k (by omega)
      omega
    have a2 : weigh (dvL N v) (v.length - 1) = minV v := by rw [weigh_wt, p2, hl]; exact hw
    simp [dualB, hb, a1, a2]
  · unfold negR
    rw [if_pos hvec, negSum_eq p2, r1, ← hw]
    exact M.wt_congr (fun _ _ => rfl) (fun k hk _ => by have := i1 k hk; omega)
/-- A base is at most as negative as the least value. -/
theorem neg_base {N : Nat} {v x : List Int} (hf : isFn N v = true) (hl : v.length = 2 ^ N) (hb : belowB N v x = true) : negR x ≤ minR N v := by
  obtain ⟨_, p2, p3, p4⟩ := below_plain hl hb
  obtain ⟨r1, r2, J, r3, r4⟩ := minR_spec hf hl
  unfold negR
  rw [if_pos (below_ok hb).vec, negSum_eq p2, r1, ← r4]
  have h1 := p4 J r3
  have h2 := M.wt_mono (x := fun j => min (gv x j) 0) (y := gv x) (s := J) (N := N) (fun k _ _ => by omega)
  have h3 := M.wt_part (x := fun j => - min (gv x j) 0) (M.part_full r3) (N := N) (fun k _ _ _ => by omega)
  have h4 := M.wt_neg (fun j => min (gv x j) 0) J N
  have h5 := M.wt_neg (fun j => min (gv x j) 0) (2 ^ N - 1) N
  omega
end Go.Proofs.Ytokeejachclpeaa
