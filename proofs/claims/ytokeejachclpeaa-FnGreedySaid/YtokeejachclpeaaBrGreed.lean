/-
  Plain words for the law FnGreedy: greed, double greed, local maxima.
-/
import Derived.Test.YtokeejachclpeaaBrRat
import Derived.Test.YtokeejachclpeaaLocM
import Derived.Test.YtokeejachclpeaaLawW
namespace Go.Proofs.Ytokeejachclpeaa
open Go.RowKit

theorem pw_pwr (b : Int) : ∀ j, pw b j = M.pwr b j
  | 0 => rfl
  | j + 1 => by unfold pw M.pwr; rw [pw_pwr b j]
theorem poly_ok' {E : Int} {v : List Int} (h : polyB E v = true) : ∃ N : Nat, E = (N : Int) ∧ N ≤ 5 ∧ v.length = 2 ^ N ∧ allIn v (-1000) 1000 = true ∧ gv v 0 = 0 ∧ M.Smod (gv v) N ∧ M.Incr (gv v) N := by
  simp only [polyB, grdB, Bool.and_eq_true, decide_eq_true_eq] at h
  obtain ⟨⟨_, h0⟩, h1, h2⟩ := h
  obtain ⟨N, rfl, hN, hl, ha, hf⟩ := sub_ok h2
  refine ⟨N, rfl, hN, hl, ha, h0, hf, fun s e hs he => ?_⟩
  have := (inc_gain h1).2 s (by rw [hl]; exact hs) e (by omega)
  unfold gainN insN at this
  omega
theorem reach_law {E : Int} {v : List Int} {k : Int} (hb : bestOk E v k = true) (hp : polyB E v = true) : reachB E v k = true := by
  obtain ⟨N, rfl, hN, hl, ha, f0, hf, hi⟩ := poly_ok' hp
  have hk := hb
  simp only [bestOk, Bool.and_eq_true] at hk
  obtain ⟨k0, k1⟩ := inR_true hk.2
  obtain ⟨K, rfl⟩ := Int.eq_ofNat_of_zero_le k0
  have hK : K ≤ N := by omega
  obtain ⟨hch, hgr⟩ := gr_chain v hN hK
  obtain ⟨O, hO, hOe, hOc, hOm⟩ := best_facts (v := v) hN hl (K := K)
  have := hch.reach hf hi f0 hgr hO hOc (i := K) (Nat.le_refl _)
  simp only [reachB, hp, hb, Bool.true_and, decide_eq_true_eq, Int.toNat_natCast]
  rw [pw_pwr, pw_pwr, hOe]
  exact this
theorem gr_le_best {E : Int} {v : List Int} {k : Int} (hb : bestOk E v k = true) : grV E v k ≤ bestV E v k := by
  have hk := hb
  simp only [bestOk, Bool.and_eq_true] at hk
  obtain ⟨N, rfl, hN, hl, ha⟩ := isFn_true hk.1
  obtain ⟨k0, k1⟩ := inR_true hk.2
  obtain ⟨K, rfl⟩ := Int.eq_ofNat_of_zero_le k0
  have hK : K ≤ N := by omega
  obtain ⟨hch, hgr⟩ := gr_chain v hN hK
  obtain ⟨O, hO, hOe, hOc, hOm⟩ := best_facts (v := v) hN hl (K := K)
  have h1 := hOm _ (hch.set_lt (i := K) (Nat.le_refl _)) (by rw [hch.cnt (Nat.le_refl _)]; exact Int.le_refl _)
  unfold grV bestV
  rw [if_pos hb, if_pos hb]
  simp only [Int.toNat_natCast]
  unfold best1 at h1
  exact h1
theorem max_facts {N : Nat} {v : List Int} (hl : v.length = 2 ^ N) (hf : isFn N v = true) : ∃ O, O < 2 ^ N ∧ maxV N v = gv v O := by
  have hpos := Nat.two_pow_pos N
  have h1 := bestN_lt (fun _ => true) v v.length (by omega)
  exact ⟨bestN (fun _ => true) v v.length, by omega, by unfold maxV; rw [if_pos hf]⟩
theorem min_nonneg {N : Nat} {v : List Int} (hl : v.length = 2 ^ N) (hf : isFn N v = true) (h : 0 ≤ minR N v) : ∀ s, s < 2 ^ N → 0 ≤ gv v s := by
  intro s hs
  have hpos := Nat.two_pow_pos N
  unfold minR minV at h
  rw [if_pos hf] at h
  have key : ∀ k j, j ≤ k → minT v k ≤ gv v j := by
    intro k
    induction k with
    | zero => intro j hj; obtain rfl : j = 0 := by omega
              exact Int.le_refl _
    | succ k ih =>
      intro j hj
      unfold minT
      by_cases hjk : j = k + 1
      · rw [hjk]; omega
      · have := ih j (by omega); omega
  have := key (v.length - 1) s (by omega)
  omega
theorem dg_law {N : Nat} {v : List Int} (hN : N ≤ 5) (hf : M.Smod (gv v) N) {O : Nat} (hO : O < 2 ^ N) : ∀ k, k ≤ N →
    M.DG N k (dgN v N k).1 (dgN v N k).2 ∧ gv v O - gv v (M.btw O (dgN v N k).1 (dgN v N k).2) ≤ (gv v (dgN v N k).1 - gv v 0) + (gv v (dgN v N k).2 - gv v (2 ^ N - 1))
  | 0, _ => by
    refine ⟨M.DG.start N, ?_⟩
    show gv v O - gv v (M.btw O 0 (2 ^ N - 1)) ≤ (gv v 0 - gv v 0) + (gv v (2 ^ N - 1) - gv v (2 ^ N - 1))
    rw [M.btw_start hO]; omega
  | k + 1, hk => by
    obtain ⟨h1, h2⟩ := dg_law hN hf hO k (by omega)
    have h32 : 2 ^ N ≤ 32 := Nat.pow_le_pow_right (n := 2) (by omega) hN
    have hbit := (h1.rest k (Nat.le_refl _) (by omega)).2
    have hsub := (sub_p2 (b := (dgN v N k).2) (k := k) (by have := h1.hb; omega) (by omega) hbit).1
    unfold dgN
    split
    · rename_i hc
      rw [hsub] at hc
      unfold gainN insN at hc
      have h3 := h1.stepUp (O := O) (f := gv v) (by omega) hf (by omega)
      refine ⟨h1.up (by omega), ?_⟩
      unfold insN
      simp only
      omega
    · rename_i hc
      rw [hsub] at hc ⊢
      unfold gainN insN at hc
      have h3 := h1.stepDown (O := O) (f := gv v) (by omega) hf (by omega)
      refine ⟨h1.down (by omega), ?_⟩
      simp only
      omega
theorem valR_at {N : Nat} {v : List Int} {s : Nat} (hl : v.length = 2 ^ N) (hf : isFn N v = true) (hs : s < 2 ^ N) : valR N v (s : Int) = gv v s := by
  unfold valR
  have : inR (s : Int) 0 ((v.length : Int) - 1) = true := by simp [inR]; omega
  rw [hf, this]
  simp
/-- Double greed reaches a third. -/
theorem dg_third {E : Int} {v : List Int} (hs : subB E v = true) (h0 : 0 ≤ minR E v) : maxV E v ≤ 3 * valR E v (dgR E v) := by
  have hf : isFn E v = true := by
    have h1 := hs
    simp only [subB, Bool.and_eq_true] at h1
    exact h1.1
  obtain ⟨N, rfl, hN, hl, ha, hsm⟩ := sub_ok hs
  obtain ⟨O, hO, hOe⟩ := max_facts hl hf
  obtain ⟨h1, h2⟩ := dg_law hN hsm hO N (Nat.le_refl _)
  obtain ⟨e1, e2⟩ := h1.end_ (O := O)
  have hp := min_nonneg hl hf h0
  have p1 := hp 0 (Nat.two_pow_pos N)
  have p2 := hp (2 ^ N - 1) (by have := Nat.two_pow_pos N; omega)
  have ed : dgR N v = ((dgN v N N).1 : Nat) := by unfold dgR; rw [if_pos hf]; simp
  rw [hOe, ed, valR_at hl hf h1.ha]
  rw [e2, ← e1] at h2
  omega
theorem step_none {v : List Int} {s N : Nat} (h : stepO v s N = none) : ∀ e, e < N → gv v (s ^^^ 2 ^ e) ≤ gv v s := by
  intro e he
  unfold stepO at h
  rw [List.find?_eq_none] at h
  have := h e (List.mem_range.2 he)
  have h2 : bettB v s e = false := by simpa using this
  unfold bettB xorN at h2
  have h3 := of_decide_eq_false h2
  omega
theorem climb_ok {N : Nat} {v : List Int} (hl : v.length = 2 ^ N) (ha : allIn v (-1000) 1000 = true) : ∀ (f s : Nat), s < 2 ^ N → 1000 - gv v s < (f : Int) →
    climb v N f s < 2 ^ N ∧ stepO v (climb v N f s) N = none ∧ gv v s ≤ gv v (climb v N f s)
  | 0, s, hs, hf => by
    have := allIn_gv (v := v) (k := s) (by rw [hl]; exact hs) ha
    omega
  | f + 1, s, hs, hf => by
    unfold climb
    cases hst : stepO v s N with
    | none => exact ⟨hs, hst, Int.le_refl _⟩
    | some k =>
      have hk : k < N ∧ bettB v s k = true := by
        unfold stepO at hst
        exact ⟨List.mem_range.1 (List.mem_of_find?_eq_some hst), List.find?_some hst⟩
      simp only [bettB, decide_eq_true_eq] at hk
      have := climb_ok hl ha f (xorN s k) (xorN_lt hs hk.1) (by omega)
      exact ⟨this.1, this.2.1, Int.le_trans (Int.le_of_lt hk.2) this.2.2⟩
/-- What the law says of local maxima. -/
structure LmaxFacts (E : Int) (v : List Int) (s : Int) : Prop where
  loc : lmaxB E v (lmaxS E v s) = true
  up : valR E v s ≤ valR E v (lmaxS E v s)
  lt : ∃ (N r : Nat), E = (N : Int) ∧ N ≤ 5 ∧ lmaxS E v s = (r : Int) ∧ r < 2 ^ N
  third : subB E v = true → 0 ≤ minR E v → maxV E v ≤ 2 * valR E v (lmaxS E v s) + valR E v (((p2 E.toNat : Nat) : Int) - 1 - lmaxS E v s)
theorem lmax_facts {E : Int} {v : List Int} {s : Int} (h : lmaxOk E v s = true) : LmaxFacts E v s := by
  have hok := h
  simp only [lmaxOk, Bool.and_eq_true] at h
  obtain ⟨N, rfl, hN, hl, ha⟩ := isFn_true h.1
  obtain ⟨s0, s1⟩ := inR_true h.2
  obtain ⟨s', rfl⟩ := Int.eq_ofNat_of_zero_le s0
  have hs : s' < 2 ^ N := by omega
  have hb := allIn_gv (v := v) (k := s') (by rw [hl]; exact hs) ha
  obtain ⟨c1, c2, c3⟩ := climb_ok hl ha 2001 s' hs (by omega)
  have eS : lmaxS N v (s' : Int) = ((climb v N 2001 s' : Nat) : Int) := by unfold lmaxS; rw [if_pos hok]; simp
  obtain ⟨r, hr⟩ : ∃ r, r = climb v N 2001 s' := ⟨_, rfl⟩
  rw [← hr] at c1 c2 c3 eS
  have hin : inR (r : Int) 0 ((v.length : Int) - 1) = true := by simp [inR]; omega
  refine ⟨?_, ?_, ⟨N, r, rfl, hN, eS, c1⟩, ?_⟩
  · rw [eS]
    simp only [lmaxB, lmaxOk, h.1, hin, Bool.true_and, Int.toNat_natCast]
    unfold stepB
    rw [c2]; rfl
  · rw [eS, valR_at hl h.1 hs, valR_at hl h.1 c1]; exact c3
  · intro hsub h0
    obtain ⟨N', hNN, _, _, _, hsm⟩ := sub_ok hsub
    obtain rfl : N = N' := by omega
    obtain ⟨O, hO, hOe⟩ := max_facts hl h.1
    have hp := min_nonneg hl h.1 h0
    have h3 := hsm.third (s := r) (c := O) c1 hO hp (step_none c2)
    have hx : (2 ^ N - 1) ^^^ r = 2 ^ N - 1 - r := by
      have h4 : r ^^^ (2 ^ N - 1) = 2 ^ N - 1 - r := by
        have : ∀ N : Fin 6, ∀ r : Fin 32, r.val < 2 ^ N.val → r.val ^^^ (2 ^ N.val - 1) = 2 ^ N.val - 1 - r.val := by decide +kernel
        have h32 : 2 ^ N ≤ 32 := Nat.pow_le_pow_right (n := 2) (by omega) hN
        exact this ⟨N, by omega⟩ ⟨r, by omega⟩ c1
      rw [Nat.xor_comm]; exact h4
    rw [hx] at h3
    have e1 : (((p2 (N : Int).toNat : Nat) : Int) - 1 - lmaxS N v (s' : Int)) = ((2 ^ N - 1 - r : Nat) : Int) := by
      rw [eS, Int.toNat_natCast]; unfold p2; omega
    rw [e1, eS, valR_at hl h.1 c1, valR_at hl h.1 (by omega), hOe]
    exact h3
theorem valR_bd (E : Int) (v : List Int) (s : Int) : -9999 ≤ valR E v s ∧ valR E v s ≤ 1000 := by
  unfold valR
  split
  · rename_i h
    simp only [Bool.and_eq_true] at h
    obtain ⟨N, rfl, hN, hl, ha⟩ := isFn_true h.1
    obtain ⟨s0, s1⟩ := inR_true h.2
    have := allIn_gv (v := v) (k := s.toNat) (by omega) ha
    omega
  · omega
theorem not_lt_dec {a b : Int} (h : b ≤ a) : decide (a < b) = false := decide_eq_false (by omega)
end Go.Proofs.Ytokeejachclpeaa
