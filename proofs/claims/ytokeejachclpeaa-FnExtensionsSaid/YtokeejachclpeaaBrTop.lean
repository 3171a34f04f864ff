/-
  Plain words for the law FnTop: corners, the minimizers' lattice.
-/
import Derived.Test.YtokeejachclpeaaBr1
import Derived.Test.YtokeejachclpeaaBrRaise
import Derived.Test.YtokeejachclpeaaCorM
import Derived.Test.YtokeejachclpeaaLawW
import Derived.Test.YtokeejachclpeaaExtr
namespace Go.Proofs.Ytokeejachclpeaa
open Go.RowKit

theorem mem_addNew {out : List (List Int)} {x y : List Int} : y ∈ addNew out x ↔ y ∈ out ∨ y = x := by
  unfold addNew
  split
  · rename_i h
    rw [List.any_eq_true] at h
    obtain ⟨z, hz, he⟩ := h
    have := of_decide_eq_true he
    subst this
    constructor
    · exact .inl
    · rintro (h | rfl)
      · exact h
      · exact hz
  · simp
theorem cornsP_mem {N : Nat} {v : List Int} {Ls : List (List Int)} : ∀ k, k ≤ Ls.length → ∀ L, L ∈ cornsP N v Ls k ↔ ∃ o, o ∈ Ls.take k ∧ L = cornT N v o N
  | 0, _, L => by simp [cornsP]
  | k + 1, hk, L => by
    have hlt : k < Ls.length := by omega
    have e : Ls.getD k [] = Ls[k] := by simp [List.getD, List.getElem?_eq_getElem hlt]
    unfold cornsP
    rw [mem_addNew, cornsP_mem k (by omega), List.take_add_one, List.getElem?_eq_getElem hlt, e]
    simp only [Option.toList_some, List.mem_append, List.mem_singleton]
    constructor
    · rintro (⟨o, h1, h2⟩ | h)
      · exact ⟨o, .inl h1, h2⟩
      · exact ⟨_, .inr rfl, h⟩
    · rintro ⟨o, h1 | h1, h2⟩
      · exact .inl ⟨o, h1, h2⟩
      · subst h1; exact .inr h2
theorem cornersL_mem {N : Nat} {v : List Int} (h : cornersOk N v = true) (L : List Int) : L ∈ cornersL N v ↔ ∃ o, o ∈ ordsR N N [] ∧ L = cornT N v o N := by
  unfold cornersL
  rw [if_pos h]
  simp only [Int.toNat_natCast]
  rw [cornsP_mem _ (Nat.le_refl _), List.take_length]
theorem ords_through : ∀ N : Fin 5, ∀ s : Fin 16, ∀ i k : Fin 4, s.val < 2 ^ N.val → i.val < N.val → k.val < N.val → i.val ≠ k.val → s.val.testBit i.val = false → s.val.testBit k.val = false →
    ((ordsR N.val N.val []).any fun o => (List.range 4).any fun j => decide (j + 1 < N.val) && (decide (seenN o j = s.val) && (decide (gv o j = (i.val : Int)) && decide (gv o (j + 1) = (k.val : Int))))) = true := by decide +kernel
theorem corner_len (N : Nat) (v o : List Int) : (cornT N v o N).length = N := cornT_length N v o N
theorem corner_bd {N : Nat} {v o : List Int} (hl : v.length = 2 ^ N) (ha : allIn v (-1000) 1000 = true) (ho : ordB N o = true) : ∀ k, k < N → -2000 ≤ gv (cornT N v o N) k ∧ gv (cornT N v o N) k ≤ 2000 := by
  intro k hk
  have hO := ord_ord ho
  obtain ⟨i, hi, he⟩ := hO.onto hk
  have he' : (gv o i).toNat = k := he
  have h1 : gv (cornT N v o N) (gv o i).toNat = gv v (seenN o (i + 1)) - gv v (seenN o i) := corn_corn (v := v) ho i hi
  rw [he'] at h1
  have h2 := allIn_gv (v := v) (k := seenN o (i + 1)) (by rw [hl]; exact hO.set_lt (by omega)) ha
  have h3 := allIn_gv (v := v) (k := seenN o i) (by rw [hl]; exact hO.set_lt (by omega)) ha
  omega
theorem corner_base {N : Nat} {v o : List Int} (hf : isFn N v = true) (h0 : gv v 0 = 0) (hs : M.Smod (gv v) N) (ho : ordB N o = true) : baseB N v (cornT N v o N) = true := by
  obtain ⟨N', hNN, _, hl, ha⟩ := isFn_true hf
  obtain rfl : N = N' := by omega
  have hO := ord_ord ho
  have hC := corn_corn (v := v) ho
  have hb := corner_bd hl ha ho
  have hbel : belowB N v (cornT N v o N) = true := plain_below hf hl h0 (corner_len N v o) (fun k hk => by have := hb k hk; omega) (fun s hs' => hO.below hC h0 hs hs')
  have ht := hO.tight hC h0 (Nat.le_refl N)
  rw [hO.full] at ht
  have : slk v (cornT N v o N) (v.length - 1) = 0 := by rw [slk_wt (corner_len N v o), hl]; omega
  simp [baseB, hbel, this]
theorem corner_not {N : Nat} {v o : List Int} {j s i k : Nat} (hl : v.length = 2 ^ N) (h0 : gv v 0 = 0) (ho : ordB N o = true) (hj : j + 1 < N) (hs : seenN o j = s) (hi : gv o j = (i : Int)) (hk : gv o (j + 1) = (k : Int))
    (hbad : gv v (s ||| 2 ^ i) + gv v (s ||| 2 ^ k) < gv v (s ||| 2 ^ i ||| 2 ^ k) + gv v s) : baseB N v (cornT N v o N) = false := by
  cases hb : baseB N v (cornT N v o N)
  · rfl
  simp only [baseB, Bool.and_eq_true] at hb
  obtain ⟨_, p2, _, p4⟩ := below_plain hl hb.1
  have hO := ord_ord ho
  have hC := corn_corn (v := v) ho
  have t := hO.tight hC h0 (i := j) (by omega)
  have ei : (gv o j).toNat = i := by rw [hi]; simp
  have ek : (gv o (j + 1)).toNat = k := by rw [hk]; simp
  have s1 : seenN o (j + 1) = s ||| 2 ^ i := by
    have : seenN o (j + 1) = seenN o j ||| 2 ^ (gv o j).toNat := hO.succ j (by omega)
    rw [this, hs, ei]
  have s2 : seenN o (j + 1 + 1) = s ||| 2 ^ i ||| 2 ^ k := by
    have : seenN o (j + 1 + 1) = seenN o (j + 1) ||| 2 ^ (gv o (j + 1)).toNat := hO.succ (j + 1) (by omega)
    rw [this, s1, ek]
  have c1 : gv (cornT N v o N) (gv o (j + 1)).toNat = gv v (seenN o (j + 1 + 1)) - gv v (seenN o (j + 1)) := hC (j + 1) (by omega)
  rw [ek, s2, s1] at c1
  have hkN : k < N := by have : (gv o (j + 1)).toNat < N := hO.lt (j + 1) hj
                         rwa [ek] at this
  have hfr : (seenN o (j + 1)).testBit (gv o (j + 1)).toNat = false := hO.fresh (j + 1) hj
  rw [ek, s1, M.ins_bit] at hfr
  have hks : s.testBit k = false := by cases h : s.testBit k <;> simp_all
  have hw := M.wt_ins (gv (cornT N v o N)) hkN hks
  have hsl : s < 2 ^ N := by rw [← hs]; exact hO.set_lt (by omega)
  have := p4 (s ||| 2 ^ k) (M.ins_lt hsl hkN)
  rw [hs] at t
  omega
theorem corners_law {E : Int} {v : List Int} (h : cornersOk E v = true) : (cornersL E v).all (fun x => baseB E v x) = subB E v := by
  have hok := h
  simp only [cornersOk, grdB, Bool.and_eq_true, decide_eq_true_eq] at h
  obtain ⟨⟨hf, h0⟩, h4⟩ := h
  obtain ⟨N, rfl, hN, hl, ha⟩ := isFn_true hf
  have hN4 : N ≤ 4 := by omega
  cases hs : subB N v
  · simp only [subB, hf, Bool.true_and, Int.toNat_natCast] at hs
    unfold okL at hs
    rw [List.all_eq_false] at hs
    obtain ⟨⟨s, i, k⟩, ht, hx⟩ := hs
    obtain ⟨h1, h2, h3, h5⟩ := mem_allP.1 ht
    simp only [offB, hasB, Bool.and_eq_true] at h5
    simp only [decide_eq_true_eq] at hx
    simp only at h1 h2 h3 hx
    have hs16 : s < 16 := by
      have : 2 ^ N ≤ 2 ^ 4 := Nat.pow_le_pow_right (by omega) hN4
      omega
    have hth := ords_through ⟨N, by omega⟩ ⟨s, hs16⟩ ⟨i, by omega⟩ ⟨k, by omega⟩ (by simp only; omega) (by simp only; omega) h3 (by simp only; omega) (not_bit h5.1) (not_bit h5.2)
    rw [List.any_eq_true] at hth
    obtain ⟨o, ho, hth⟩ := hth
    rw [List.any_eq_true] at hth
    obtain ⟨j, _, hj⟩ := hth
    simp only [Bool.and_eq_true, decide_eq_true_eq] at hj
    obtain ⟨j1, j2, j3, j4⟩ := hj
    have hno := corner_not (v := v) hl h0 (ords_ok ⟨N, by omega⟩ o ho) j1 j2 j3 j4 (by unfold excN insN at hx; omega)
    rw [List.all_eq_false]
    exact ⟨_, (cornersL_mem hok _).2 ⟨o, ho, rfl⟩, by rw [hno]; simp⟩
  · rw [List.all_eq_true]
    intro L hL
    obtain ⟨o, ho, rfl⟩ := (cornersL_mem hok _).1 hL
    obtain ⟨N2, hN2, _, _, _, hsm⟩ := sub_ok hs
    obtain rfl : N = N2 := by omega
    exact corner_base hf h0 hsm (ords_ok ⟨N, by omega⟩ o ho)

/-! The minimizers. -/
theorem sel_mem {p : Nat → Bool} {n : Nat} {x : Int} : x ∈ selI p n ↔ ∃ j : Nat, j < n ∧ p j = true ∧ x = (j : Int) := by
  unfold selI
  simp only [List.mem_map, List.mem_filter, List.mem_range]
  constructor
  · rintro ⟨j, ⟨h1, h2⟩, h3⟩
    exact ⟨j, h1, h2, h3.symm⟩
  · rintro ⟨j, h1, h2, h3⟩
    exact ⟨j, ⟨h1, h2⟩, h3.symm⟩
theorem sel_has {p : Nat → Bool} {n j : Nat} (hj : j < n) (hp : p j = true) : hasI (selI p n) (j : Int) = true := by
  unfold hasI
  exact decide_eq_true (sel_mem.2 ⟨j, hj, hp, rfl⟩)
/-- A list of sets that is closed under union and intersection is a lattice for the program. -/
theorem sel_latt {p : Nat → Bool} {N n : Nat} (hN : N ≤ 5) (hn : n = 2 ^ N) (hc : ∀ a b, a < n → b < n → p a = true → p b = true → p (a ||| b) = true ∧ p (a &&& b) = true) : lattB (selI p n) = true := by
  have h32 : 2 ^ N ≤ 32 := Nat.pow_le_pow_right (n := 2) (by omega) hN
  have hlen : (selI p n).length ≤ n := by
    unfold selI
    rw [List.length_map]
    exact Nat.le_trans (List.length_filter_le _ _) (by simp)
  have hall : allIn (selI p n) 0 1023 = true := allIn_of' fun k hk => by
    obtain ⟨j, h1, h2, _⟩ := selI_gv hk
    omega
  have h64 : (selI p n).length ≤ 64 := by omega
  have hpair : ∀ i, i < (selI p n).length → ∀ k, k < (selI p n).length → lpair (selI p n) i k = true := fun i hi k hk => by
    obtain ⟨a, a1, a2, a3⟩ := selI_gv hi
    obtain ⟨b, b1, b2, b3⟩ := selI_gv hk
    obtain ⟨c1, c2⟩ := hc a b a2 b2 a3 b3
    unfold lpair
    rw [a1, b1]
    unfold orI andI
    rw [bor_n _ _ (by omega) (by omega), band_n _ _ (by omega) (by omega)]
    have o1 : a ||| b < n := by subst hn; exact Nat.or_lt_two_pow a2 b2
    have o2 : a &&& b < n := by subst hn; exact Nat.and_lt_two_pow _ b2
    have e1 := sel_has (p := p) o1 c1
    have e2 := sel_has (p := p) o2 c2
    unfold orN andN
    rw [e1, e2]; rfl
  simp [lattB, hall, h64]
  exact hpair
theorem andL_bit (i : Nat) : ∀ (L : List Int) (a : Nat), (andL a L).testBit i = (a.testBit i && L.all fun x => x.toNat.testBit i)
  | [], a => by simp [andL]
  | x :: L, a => by
    have := andL_bit i L (andN a x.toNat)
    unfold andL at this ⊢
    rw [List.foldl_cons, this]
    unfold andN
    rw [Nat.testBit_and, List.all_cons, Bool.and_assoc]
theorem orL_bit' (i : Nat) : ∀ (L : List Int) (a : Nat), (L.foldl (fun a x => orN a x.toNat) a).testBit i = (a.testBit i || L.any fun x => x.toNat.testBit i)
  | [], a => by simp
  | x :: L, a => by
    rw [List.foldl_cons, orL_bit' i L (orN a x.toNat)]
    unfold orN
    rw [Nat.testBit_or, List.any_cons, Bool.or_assoc]
theorem and_in {p : Nat → Bool} {N n : Nat} (hn : n = 2 ^ N) (hc : ∀ a b, a < n → b < n → p a = true → p b = true → p (a &&& b) = true) : ∀ k, 0 < k → k ≤ (selI p n).length → andL (n - 1) ((selI p n).take k) < n ∧ p (andL (n - 1) ((selI p n).take k)) = true
  | 0, h, _ => by omega
  | k + 1, _, h => by
    obtain ⟨j, j1, j2, j3⟩ := selI_gv (p := p) (n := n) (k := k) (by omega)
    rw [andL_snoc _ (by omega), j1, Int.toNat_natCast]
    by_cases hk : k = 0
    · subst hk
      have : andL (n - 1) ((selI p n).take 0) = n - 1 := rfl
      rw [this]
      subst hn
      rw [and_full j2]
      exact ⟨j2, j3⟩
    · obtain ⟨h1, h2⟩ := and_in hn hc k (by omega) (by omega)
      unfold andN
      exact ⟨by subst hn; exact Nat.and_lt_two_pow _ j2, hc _ _ h1 j2 h2 j3⟩
theorem or_in {p : Nat → Bool} {N n : Nat} (hn : n = 2 ^ N) (hc : ∀ a b, a < n → b < n → p a = true → p b = true → p (a ||| b) = true) : ∀ k, 0 < k → k ≤ (selI p n).length → orL ((selI p n).take k) < n ∧ p (orL ((selI p n).take k)) = true
  | 0, h, _ => by omega
  | k + 1, _, h => by
    obtain ⟨j, j1, j2, j3⟩ := selI_gv (p := p) (n := n) (k := k) (by omega)
    rw [orL_snoc (by omega), j1, Int.toNat_natCast]
    by_cases hk : k = 0
    · subst hk
      have : orL ((selI p n).take 0) = 0 := rfl
      rw [this]
      unfold orN
      rw [Nat.zero_or]
      exact ⟨j2, j3⟩
    · obtain ⟨h1, h2⟩ := or_in hn hc k (by omega) (by omega)
      unfold orN
      exact ⟨by subst hn; exact Nat.or_lt_two_pow h1 j2, hc _ _ h1 j2 h2 j3⟩
/-- What the law says of the minimizers. -/
structure MinzFacts (E : Int) (v : List Int) : Prop where
  latt : lattB (minzL E v) = true
  hasL : hasI (minzL E v) (lminR E v) = true
  hasG : hasI (minzL E v) (gminR E v) = true
  low : ∀ k, k < (minzL E v).length → (bits .and .i64 (gv (minzL E v) k) (lminR E v) != lminR E v) = false
  up : ∀ k, k < (minzL E v).length → (bits .or .i64 (gv (minzL E v) k) (gminR E v) != gminR E v) = false
theorem minz_facts {E : Int} {v : List Int} (hs : subB E v = true) : MinzFacts E v := by
  have hsub := hs
  obtain ⟨N, rfl, hN, hl, ha, hsm⟩ := sub_ok hs
  have hf := sub_fn hs
  have h32 : 2 ^ N ≤ 32 := Nat.pow_le_pow_right (n := 2) (by omega) hN
  have hp0 := Nat.two_pow_pos N
  obtain ⟨_, r2, _⟩ := minR_spec hf hl
  have hc : ∀ a b, a < v.length → b < v.length → minzP v a = true → minzP v b = true → minzP v (a ||| b) = true ∧ minzP v (a &&& b) = true := fun a b h1 h2 h3 h4 => by
    simp only [minzP, decide_eq_true_eq] at h3 h4 ⊢
    exact hsm.closed r2 (by omega) (by omega) h3 h4
  have el : minzL N v = selI (minzP v) v.length := by unfold minzL; rw [if_pos hf]
  have hpos := minz_pos (v := v) rfl (by omega)
  obtain ⟨a1, a2⟩ := and_in (p := minzP v) hl (fun a b h1 h2 h3 h4 => (hc a b h1 h2 h3 h4).2) _ hpos (Nat.le_refl _)
  obtain ⟨o1, o2⟩ := or_in (p := minzP v) hl (fun a b h1 h2 h3 h4 => (hc a b h1 h2 h3 h4).1) _ hpos (Nat.le_refl _)
  rw [List.take_length] at a1 a2 o1 o2
  have eL : lminR N v = ((andL (v.length - 1) (selI (minzP v) v.length) : Nat) : Int) := by unfold lminR; rw [if_pos hsub, el]
  have eG : gminR N v = ((orL (selI (minzP v) v.length) : Nat) : Int) := by unfold gminR; rw [if_pos hsub, el]
  rw [show MinzFacts N v ↔ MinzFacts N v from Iff.rfl]
  refine ⟨?_, ?_, ?_, ?_, ?_⟩
  · rw [el]; exact sel_latt hN hl hc
  · rw [el, eL]; exact sel_has a1 a2
  · rw [el, eG]; exact sel_has o1 o2
  · intro k hk
    rw [el] at hk
    rw [el, eL]
    obtain ⟨j, j1, j2, _⟩ := selI_gv hk
    have hm := gv_mem hk
    rw [j1] at hm ⊢
    rw [band_n _ _ (by omega) (by omega)]
    have : andN j (andL (v.length - 1) (selI (minzP v) v.length)) = andL (v.length - 1) (selI (minzP v) v.length) := by
      apply Nat.eq_of_testBit_eq; intro i
      unfold andN
      rw [Nat.testBit_and]
      cases hb : (andL (v.length - 1) (selI (minzP v) v.length)).testBit i
      · simp
      · rw [andL_bit, Bool.and_eq_true, List.all_eq_true] at hb
        have := hb.2 _ hm
        rw [Int.toNat_natCast] at this
        rw [this]; rfl
    rw [this]; simp
  · intro k hk
    rw [el] at hk
    rw [el, eG]
    obtain ⟨j, j1, j2, _⟩ := selI_gv hk
    have hm := gv_mem hk
    rw [j1] at hm ⊢
    rw [bor_n _ _ (by omega) (by omega)]
    have : orN j (orL (selI (minzP v) v.length)) = orL (selI (minzP v) v.length) := by
      apply Nat.eq_of_testBit_eq; intro i
      unfold orN
      rw [Nat.testBit_or]
      cases hb : j.testBit i
      · simp
      · have h2 : (orL (selI (minzP v) v.length)).testBit i = true := by
          unfold orL
          rw [orL_bit', Bool.or_eq_true]
          right
          rw [List.any_eq_true]
          exact ⟨_, hm, by rw [Int.toNat_natCast]; exact hb⟩
        rw [h2]; rfl
    rw [this]; simp
theorem viol_not {E : Int} {v : List Int} (hf : isFn E v = true) : (subB E v == violB E v) = false := by
  unfold subB violB
  rw [hf]
  cases okL v (allP E.toNat v.length) <;> rfl
theorem all_snoc {p : List Int → Bool} {l : List (List Int)} {k : Nat} (hk : k < l.length) : (l.take (k + 1)).all p = ((l.take k).all p && p (l.getD k [])) := by
  have e : l.getD k [] = l[k] := by simp [List.getD, List.getElem?_eq_getElem hk]
  rw [List.take_add_one, List.getElem?_eq_getElem hk, e, List.all_append]
  simp
theorem neg_corner {E : Int} {v : List Int} (hs : subB E v = true) (hg : grdB E v = true) {j : Nat} (hj : j < (cornersL E v).length) : decide (minR E v < negR ((cornersL E v).getD j [])) = false := by
  have hok : cornersOk E v = true := by
    cases h : cornersOk E v
    · unfold cornersL at hj
      rw [h] at hj
      simp at hj
    · rfl
  have hlaw := corners_law hok
  rw [hs, List.all_eq_true] at hlaw
  have hm : (cornersL E v).getD j [] ∈ cornersL E v := by simp [List.getD, List.getElem?_eq_getElem hj]
  have hb := hlaw _ hm
  simp only [baseB, Bool.and_eq_true] at hb
  obtain ⟨N, rfl, hN, hl, _, _⟩ := sub_ok hs
  have := neg_base (grd_fn hg) hl hb.1
  exact decide_eq_false (by omega)
end Go.Proofs.Ytokeejachclpeaa
