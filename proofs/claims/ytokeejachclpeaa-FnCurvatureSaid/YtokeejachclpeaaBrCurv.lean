/-
  Plain words for the law FnCurvature: curvature, ratios, gaps.
-/
import Derived.Test.YtokeejachclpeaaBr1
import Derived.Test.YtokeejachclpeaaMath
import Derived.Test.YtokeejachclpeaaMod
import Derived.Test.YtokeejachclpeaaBrRat
import Derived.Test.YtokeejachclpeaaSubM
import Derived.Test.YtokeejachclpeaaCurM
namespace Go.Proofs.Ytokeejachclpeaa
open Go.RowKit

theorem poly_ok {E : Int} {v : List Int} (h : polyB E v = true) : ∃ N : Nat, E = (N : Int) ∧ N ≤ 5 ∧ v.length = 2 ^ N ∧ allIn v (-1000) 1000 = true ∧ gv v 0 = 0 ∧ M.Smod (gv v) N ∧ M.Incr (gv v) N := by
  simp only [polyB, grdB, Bool.and_eq_true, decide_eq_true_eq] at h
  obtain ⟨⟨_, h0⟩, h1, h2⟩ := h
  obtain ⟨N, rfl, hN, hl, ha, hf⟩ := sub_ok h2
  refine ⟨N, rfl, hN, hl, ha, h0, hf, fun s e hs he => ?_⟩
  have := (inc_gain h1).2 s (by rw [hl]; exact hs) e (by omega)
  unfold gainN insN at this
  omega
section
variable {N : Nat} {v : List Int}
theorem full_xor {N k : Nat} (hN : N ≤ 5) (hk : k < N) : (2 ^ N - 1) ^^^ 2 ^ k = 2 ^ N - 1 - 2 ^ k := by
  have h := last_bits ⟨N, by omega⟩ ⟨k, by omega⟩ hk
  simp only at h
  have e : (2 ^ N - 1) &&& 2 ^ k = 2 ^ k := by
    apply Nat.eq_of_testBit_eq; intro i
    rw [Nat.testBit_and, Nat.testBit_two_pow_sub_one, Nat.testBit_two_pow]
    by_cases hi : k = i
    · subst hi; simp [hk]
    · simp [hi]
  rw [e] at h
  exact h.1
/-- What an element loses as the last one: at least 0, at most its own value. -/
theorem lost_bd (hN : N ≤ 5) (hf : M.Smod (gv v) N) (hi : M.Incr (gv v) N) (f0 : gv v 0 = 0) {k : Nat} (hk : k < N) : 0 ≤ lostN v (2 ^ N) k ∧ lostN v (2 ^ N) k ≤ gv v (p2 k) ∧ lastN v (2 ^ N) k = gv v (2 ^ N - 1) - gv v ((2 ^ N - 1) ^^^ 2 ^ k) := by
  have hx := full_xor hN hk
  have hfull : 2 ^ N - 1 < 2 ^ N := by have := Nat.two_pow_pos N; omega
  have hbit : (2 ^ N - 1).testBit k = true := by rw [Nat.testBit_two_pow_sub_one]; simpa using hk
  have e : lastN v (2 ^ N) k = gv v (2 ^ N - 1) - gv v ((2 ^ N - 1) ^^^ 2 ^ k) := by unfold lastN p2; rw [hx]
  have h1 := hf.dr (s := 0) (t := (2 ^ N - 1) ^^^ 2 ^ k) (k := k) (M.xor_lt hfull hk) (fun i hb => by simp at hb) hk (by rw [M.xor_bit, hbit]; simp)
  have h2 := hi ((2 ^ N - 1) ^^^ 2 ^ k) k (M.xor_lt hfull hk) hk
  rw [M.xor_ins hbit] at h1 h2
  rw [Nat.zero_or, f0] at h1
  unfold lostN
  rw [e]
  unfold p2
  refine ⟨by omega, by omega, rfl⟩
structure CurInv (v : List Int) (N k : Nat) : Prop where
  d1 : 1 ≤ (curT v (2 ^ N) k).2
  n0 : 0 ≤ (curT v (2 ^ N) k).1
  nd : (curT v (2 ^ N) k).1 ≤ (curT v (2 ^ N) k).2
  all : ∀ e, e < k → lostN v (2 ^ N) e * (curT v (2 ^ N) k).2 ≤ (curT v (2 ^ N) k).1 * gv v (p2 e)
  some : (curT v (2 ^ N) k).1 = 0 ∨ ∃ e, e < k ∧ (curT v (2 ^ N) k).1 = lostN v (2 ^ N) e
theorem cur_inv' (hN : N ≤ 5) (hf : M.Smod (gv v) N) (hi : M.Incr (gv v) N) (f0 : gv v 0 = 0) : ∀ k, k ≤ N → CurInv v N k
  | 0, _ => ⟨by simp [curT], by simp [curT], by simp [curT], fun e he => by omega, .inl rfl⟩
  | k + 1, hk => by
    have ih := cur_inv' hN hf hi f0 k (by omega)
    obtain ⟨l0, l1, _⟩ := lost_bd hN hf hi f0 (k := k) (by omega)
    have own0 : ∀ e, e < N → 0 ≤ gv v (p2 e) := fun e he => by have := lost_bd hN hf hi f0 he; omega
    obtain ⟨d1, n0, nd, all, some⟩ := ih
    cases hb : curB v (2 ^ N) k (curT v (2 ^ N) k).1 (curT v (2 ^ N) k).2
    · have e : curT v (2 ^ N) (k + 1) = curT v (2 ^ N) k := by show (if curB v (2 ^ N) k _ _ then _ else _) = _; rw [hb]; rfl
      refine ⟨by rw [e]; exact d1, by rw [e]; exact n0, by rw [e]; exact nd, fun e' he' => ?_, ?_⟩
      · rw [e]
        by_cases hek : e' = k
        · subst hek
          simp only [curB, Bool.and_eq_false_iff, decide_eq_false_iff_not] at hb
          rcases hb with h1 | h1
          · have h2 : gv v (p2 e') = 0 := by have := own0 e' (by omega); omega
            have h3 : lostN v (2 ^ N) e' = 0 := by omega
            rw [h2, h3]; simp
          · omega
        · exact all e' (by omega)
      · rw [e]
        rcases some with h | ⟨e', h1, h2⟩
        · exact .inl h
        · exact .inr ⟨e', by omega, h2⟩
    · have e : curT v (2 ^ N) (k + 1) = (lostN v (2 ^ N) k, gv v (p2 k)) := by show (if curB v (2 ^ N) k _ _ then _ else _) = _; rw [hb]; rfl
      simp only [curB, Bool.and_eq_true, decide_eq_true_eq] at hb
      refine ⟨by rw [e]; simp only; omega, by rw [e]; exact l0, by rw [e]; exact l1, fun e' he' => ?_, .inr ⟨k, by omega, by rw [e]⟩⟩
      rw [e]
      by_cases hek : e' = k
      · subst hek; exact Int.le_refl _
      · have h1 := all e' (by omega)
        have h2 := own0 e' (by omega)
        simp only
        apply Int.le_of_mul_le_mul_right (a := (curT v (2 ^ N) k).2) _ (by omega)
        have h3 := Int.mul_le_mul_of_nonneg_right h1 (show 0 ≤ gv v (p2 k) by omega)
        have h4 := Int.mul_le_mul_of_nonneg_right (Int.le_of_lt hb.2) h2
        grind
theorem cur_n (hN : N ≤ 5) (hf : M.Smod (gv v) N) (hi : M.Incr (gv v) N) (f0 : gv v 0 = 0) : (curT v (2 ^ N) N).1 = 0 ↔ ∀ e, e < N → lostN v (2 ^ N) e = 0 := by
  have ih := cur_inv' hN hf hi f0 N (Nat.le_refl _)
  constructor
  · intro h e he
    have h1 := ih.all e he
    rw [h, Int.zero_mul] at h1
    have h2 := (lost_bd hN hf hi f0 he).1
    have h3 := ih.d1
    rcases Int.lt_or_le 0 (lostN v (2 ^ N) e) with h4 | h4
    · have := Int.mul_pos h4 (show 0 < (curT v (2 ^ N) N).2 by omega)
      omega
    · omega
  · intro h
    rcases ih.some with h1 | ⟨e, he, h1⟩
    · exact h1
    · rw [h1, h e he]
theorem neg_gv {s : Nat} (hs : s < v.length) : gv (valL (negV v) v.length) s = -(gv v s) := by
  rw [gv_get (by rw [valL_len]; exact hs)]
  simp [valL, negV]
/-- No element loses anything exactly if the function is modular. -/
theorem lost_mod (hN : N ≤ 5) (hl : v.length = 2 ^ N) (hfn : isFn N v = true) (hf : M.Smod (gv v) N) (hi : M.Incr (gv v) N) (f0 : gv v 0 = 0) : modB N v = true ↔ ∀ e, e < N → lostN v (2 ^ N) e = 0 := by
  have hsub : subB N v = true := by
    simp only [subB, hfn, Bool.true_and]
    exact smod_sub (N := N) hl hf
  have hnl : (valL (negV v) v.length).length = 2 ^ N := by rw [valL_len, hl]
  have hfull : 2 ^ N - 1 < 2 ^ N := by have := Nat.two_pow_pos N; omega
  constructor
  · intro h e he
    simp only [modB, supB, Bool.and_eq_true] at h
    obtain ⟨N', hNN, _, _, _, hg⟩ := sub_ok h.2.2
    obtain rfl : N = N' := by omega
    have hbit : (2 ^ N - 1).testBit e = true := by rw [Nat.testBit_two_pow_sub_one]; simpa using he
    have h1 := hg.dr (s := 0) (t := (2 ^ N - 1) ^^^ 2 ^ e) (k := e) (M.xor_lt hfull he) (fun i hb => by simp at hb) he (by rw [M.xor_bit, hbit]; simp)
    rw [M.xor_ins hbit, Nat.zero_or, neg_gv (by rw [hl]; exact hfull), neg_gv (by rw [hl]; exact M.xor_lt hfull he), neg_gv (by rw [hl]; exact Nat.pow_lt_pow_right (by omega) he), neg_gv (by rw [hl]; exact Nat.two_pow_pos N), f0] at h1
    obtain ⟨l0, l1, l2⟩ := lost_bd hN hf hi f0 he
    unfold lostN at *
    unfold p2 at *
    omega
  · intro h
    have key : ∀ s k, s < 2 ^ N → k < N → s.testBit k = false → gv v (s ||| 2 ^ k) - gv v s = gv v (2 ^ k) := by
      intro s k hs hk hsk
      have hbit : (2 ^ N - 1).testBit k = true := by rw [Nat.testBit_two_pow_sub_one]; simpa using hk
      have h1 := hf.dr (s := 0) (t := s) (k := k) hs (fun i hb => by simp at hb) hk hsk
      have h2 := hf.dr (s := s) (t := (2 ^ N - 1) ^^^ 2 ^ k) (k := k) (M.xor_lt hfull hk) (fun i hb => by
        rw [M.xor_bit]
        by_cases hki : k = i
        · subst hki; rw [hsk] at hb; cases hb
        · have := M.part_full hs i hb
          simp [this, hki]) hk (by rw [M.xor_bit, hbit]; simp)
      rw [M.xor_ins hbit] at h2
      rw [Nat.zero_or, f0] at h1
      have h3 := h k hk
      obtain ⟨_, _, l2⟩ := lost_bd hN hf hi f0 hk
      unfold lostN at h3
      rw [l2] at h3
      unfold p2 at h3
      omega
    have hneg : subB N (valL (negV v) v.length) = true := by
      simp only [subB, neg_fn hfn, Bool.true_and]
      refine smod_sub (N := N) hnl ?_
      intro s i k hs hi' hk' hik h1 h2
      have h3 : (s ||| 2 ^ i).testBit k = false := by rw [M.ins_bit, h2]; simp [hik]
      have k1 := key s i hs hi' h1
      have k2 := key s k hs hk' h2
      have k3 := key (s ||| 2 ^ i) k (M.ins_lt hs hi') hk' h3
      rw [neg_gv (s := s) (by rw [hl]; exact hs), neg_gv (s := s ||| 2 ^ i) (by rw [hl]; exact M.ins_lt hs hi'), neg_gv (s := s ||| 2 ^ k) (by rw [hl]; exact M.ins_lt hs hk'), neg_gv (s := s ||| 2 ^ i ||| 2 ^ k) (by rw [hl]; exact M.ins_lt (M.ins_lt hs hi') hk')]
      omega
    simp [modB, supB, hsub, hfn, hneg]
end
/-- What the law says of the curvature. -/
structure CurFacts (E : Int) (v : List Int) : Prop where
  pos : decide (curX E v < 0) = false
  le : curX E v ≤ curY E v
  md : (curX E v == 0) = modB E v
  d1 : 1 ≤ curY E v
  x0 : 0 ≤ curX E v
  y1000 : curY E v ≤ 1000
  law : ∃ n d H : Int, n = curX E v * H ∧ d = curY E v * H ∧ 0 < H ∧ n = (curT v v.length E.toNat).1 ∧ d = (curT v v.length E.toNat).2
theorem cur_facts {E : Int} {v : List Int} (h : polyB E v = true) : CurFacts E v := by
  have hp := h
  obtain ⟨N, rfl, hN, hl, ha, f0, hf, hi⟩ := poly_ok h
  have ih := cur_inv' hN hf hi f0 N (Nat.le_refl _)
  have hfn := poly_fn hp
  have fo : FnOk N (2 ^ N) v := ⟨hN, rfl, hl, ha⟩
  have hbd := cur_inv fo N (Nat.le_refl _)
  obtain ⟨n, hn⟩ : ∃ n, n = (curT v (2 ^ N) N).1.toNat := ⟨_, rfl⟩
  obtain ⟨d, hd⟩ : ∃ d, d = (curT v (2 ^ N) N).2.toNat := ⟨_, rfl⟩
  obtain ⟨g, hg⟩ : ∃ g, g = Nat.gcd n d := ⟨_, rfl⟩
  have hd1 : 1 ≤ d := by have := ih.d1; omega
  have hg0 : 0 < g := by rw [hg]; exact Nat.gcd_pos_of_pos_right _ hd1
  have hgn : g ∣ n := by rw [hg]; exact Nat.gcd_dvd_left _ _
  have hgd : g ∣ d := by rw [hg]; exact Nat.gcd_dvd_right _ _
  have eX : curX N v = ((n / g : Nat) : Int) := by
    unfold curX curA curD
    rw [if_pos hp, hl]
    simp only [Int.toNat_natCast]
    rw [← hn, ← hd, ← hg]
  have eY : curY N v = ((d / g : Nat) : Int) := by
    unfold curY curA curD
    rw [if_pos hp, hl]
    simp only [Int.toNat_natCast]
    rw [← hn, ← hd, ← hg]
  have hnd : n ≤ d := by have := ih.nd; omega
  have hdg : 1 ≤ d / g := Nat.div_pos (Nat.le_of_dvd hd1 hgd) hg0
  have hdle : d / g ≤ d := Nat.div_le_self _ _
  refine ⟨?_, ?_, ?_, ?_, ?_, ?_, ?_⟩
  · rw [eX]
    have := Int.natCast_nonneg (n / g)
    exact decide_eq_false (Int.not_lt.2 this)
  · rw [eX, eY]; exact_mod_cast Nat.div_le_div_right hnd
  · have h1 : ((n / g : Nat) : Int) = 0 ↔ (curT v (2 ^ N) N).1 = 0 := by
      constructor
      · intro h0
        have h2 : n / g = 0 := by omega
        have h3 : n = 0 := by
          obtain ⟨q, rfl⟩ := hgn
          rw [Nat.mul_div_cancel_left _ hg0] at h2
          rw [h2]; simp
        have := ih.n0
        omega
      · intro h0
        have : n = 0 := by omega
        rw [this]; simp
    have h2 := cur_n hN hf hi f0
    have h3 := lost_mod hN hl hfn hf hi f0
    rw [eX, Bool.eq_iff_iff, beq_iff_eq, h1, h2, h3]
  · rw [eY]; omega
  · rw [eX]; exact Int.natCast_nonneg (n / g)
  · rw [eY]; omega
  · refine ⟨(n : Int), (d : Int), (g : Int), ?_, ?_, by omega, ?_, ?_⟩
    · rw [eX]; exact_mod_cast (Nat.div_mul_cancel hgn).symm
    · rw [eY]; exact_mod_cast (Nat.div_mul_cancel hgd).symm
    · rw [hl, Int.toNat_natCast]; have := ih.n0; omega
    · rw [hl, Int.toNat_natCast]; have := ih.d1; omega
/-- What the law says of the ratio. -/
structure RatFacts (E : Int) (v : List Int) (k : Int) : Prop where
  le : ratA E v k ≤ ratB E v k
  x0 : 0 ≤ ratA E v k
  b1000 : ratB E v k ≤ 1000
  law : ratB E v k * curY E v ≤ ratA E v k * (curY E v + curX E v)
theorem rat_facts {E : Int} {v : List Int} {k : Int} (h : ratOk E v k = true) : RatFacts E v k := by
  have hok := h
  simp only [ratOk, Bool.and_eq_true] at h
  have hc := cur_facts h.1
  obtain ⟨N, rfl, hN, hl, ha, f0, hf, hi⟩ := poly_ok h.1
  have hk := h.2
  simp only [bestOk, Bool.and_eq_true] at hk
  obtain ⟨k0, k1⟩ := inR_true hk.2
  obtain ⟨K, rfl⟩ := Int.eq_ofNat_of_zero_le k0
  have hK : K ≤ N := by omega
  obtain ⟨hch, hgr⟩ := gr_chain v hN hK
  obtain ⟨O, hO, hOe, hOc, hOm⟩ := best_facts (v := v) hN hl (K := K)
  obtain ⟨n, d, H, hn, hd, hH, en, ed⟩ := hc.law
  have ci := cur_inv' hN hf hi f0 N (Nat.le_refl _)
  rw [hl, Int.toNat_natCast] at en ed
  have hn0 : 0 ≤ n := by rw [en]; exact ci.n0
  have hnd : n ≤ d := by rw [en, ed]; exact ci.nd
  have hd1 : 1 ≤ d := by rw [ed]; exact ci.d1
  have hSlt := hch.set_lt (i := K) (Nat.le_refl _)
  have hcnt := hch.cnt (i := K) (Nat.le_refl _)
  have hcurv := hch.curv hf hi f0 hgr hO hOc hn0 hnd (fun e he => by
    have h1 := ci.all e he
    rw [← en, ← ed] at h1
    obtain ⟨_, _, l2⟩ := lost_bd hN hf hi f0 he
    unfold lostN at h1
    rw [l2] at h1
    unfold p2 at h1
    have e1 : (d - n) * gv v (2 ^ e) = d * gv v (2 ^ e) - n * gv v (2 ^ e) := by rw [Int.sub_mul]
    have e2 : (gv v (2 ^ e) - (gv v (2 ^ N - 1) - gv v ((2 ^ N - 1) ^^^ 2 ^ e))) * d = d * gv v (2 ^ e) - d * (gv v (2 ^ N - 1) - gv v ((2 ^ N - 1) ^^^ 2 ^ e)) := by rw [Int.sub_mul, Int.mul_comm d, Int.mul_comm d]
    rw [e1]; rw [e2] at h1; omega)
  have hg0 : 0 ≤ gr1 v N K := by
    have := hi.part (a := 0) (b := (grN v N K).2) (fun i hb => by simp at hb) hSlt
    unfold gr1; omega
  have hgb : gr1 v N K ≤ best1 v v.length K := hOm _ hSlt (by rw [hcnt]; exact Int.le_refl _)
  have hb1000 : best1 v v.length K ≤ 1000 := by rw [hOe]; exact (allIn_gv (v := v) (k := O) (by rw [hl]; exact hO) ha).2
  by_cases hz : best1 v v.length K = 0
  · have eA : ratA N v K = 1 := by unfold ratA; rw [if_pos hok, Int.toNat_natCast, if_pos hz]
    have eB : ratB N v K = 1 := by unfold ratB; rw [if_pos hok, Int.toNat_natCast, if_pos hz]
    refine ⟨by rw [eA, eB]; exact Int.le_refl _, by rw [eA]; omega, by rw [eB]; omega, ?_⟩
    rw [eA, eB]
    have := hc.x0
    omega
  · obtain ⟨g, hg⟩ : ∃ g, g = (gr1 v N K).toNat := ⟨_, rfl⟩
    obtain ⟨b, hb⟩ : ∃ b, b = (best1 v v.length K).toNat := ⟨_, rfl⟩
    obtain ⟨G, hG⟩ : ∃ G, G = Nat.gcd g b := ⟨_, rfl⟩
    have hb1 : 1 ≤ b := by omega
    have hG0 : 0 < G := by rw [hG]; exact Nat.gcd_pos_of_pos_right _ hb1
    have hGg : G ∣ g := by rw [hG]; exact Nat.gcd_dvd_left _ _
    have hGb : G ∣ b := by rw [hG]; exact Nat.gcd_dvd_right _ _
    have eA : ratA N v K = ((g / G : Nat) : Int) := by
      unfold ratA
      rw [if_pos hok]
      simp only [Int.toNat_natCast]
      rw [if_neg hz, ← hg, ← hb, ← hG]
    have eB : ratB N v K = ((b / G : Nat) : Int) := by
      unfold ratB
      rw [if_pos hok]
      simp only [Int.toNat_natCast]
      rw [if_neg hz, ← hg, ← hb, ← hG]
    have hgb' : g ≤ b := by omega
    refine ⟨?_, ?_, ?_, ?_⟩
    · rw [eA, eB]; exact_mod_cast Nat.div_le_div_right hgb'
    · rw [eA]; exact Int.natCast_nonneg _
    · rw [eB]
      have := Nat.div_le_self b G
      have h3 : ((b / G : Nat) : Int) ≤ (b : Int) := by exact_mod_cast this
      omega
    · have e1 : (g : Int) = ((g / G : Nat) : Int) * G := by exact_mod_cast (Nat.div_mul_cancel hGg).symm
      have e2 : (b : Int) = ((b / G : Nat) : Int) * G := by exact_mod_cast (Nat.div_mul_cancel hGb).symm
      rw [eA, eB]
      obtain ⟨p, hp⟩ : ∃ p : Int, p = ((g / G : Nat) : Int) := ⟨_, rfl⟩
      obtain ⟨q, hq⟩ : ∃ q : Int, q = ((b / G : Nat) : Int) := ⟨_, rfl⟩
      rw [← hp] at e1
      rw [← hq] at e2
      rw [← hp, ← hq]
      have hmain : d * (b : Int) ≤ (d + n) * (g : Int) := by
        have h1 : (b : Int) = gv v O := by omega
        have h2 : (g : Int) = gv v (grN v N K).2 := by unfold gr1 at hg hg0; omega
        rw [h1, h2]; exact hcurv
      rw [e1, e2, hn, hd] at hmain
      apply Int.le_of_mul_le_mul_right (a := (G : Int) * H) _ (Int.mul_pos (by omega) hH)
      grind
/-- The gap is 0 exactly for submodular functions. -/
theorem gap_law {E : Int} {v : List Int} (hf : isFn E v = true) : (gapR E v == 0) = subB E v := by
  obtain ⟨h1, h2, h3⟩ := gapL_spec v (allP E.toNat v.length)
  unfold gapR gapN subB
  rw [if_pos hf, hf, Bool.true_and, Bool.eq_iff_iff, beq_iff_eq]
  unfold okL
  rw [List.all_eq_true]
  constructor
  · intro h0 t ht
    have := h2 t ht
    simp only [decide_eq_true_eq]
    omega
  · intro hall
    rcases h3 with h | ⟨t, ht, h⟩
    · exact h
    · have := hall t ht
      simp only [decide_eq_true_eq] at this
      omega
end Go.Proofs.Ytokeejachclpeaa
