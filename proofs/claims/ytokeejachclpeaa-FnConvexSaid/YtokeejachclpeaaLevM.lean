/-
  Walks: level sets.
  Walks: level sets, by the program and by the reference.
-/
import Derived.Test.YtokeejachclpeaaOrdM
namespace Go.Proofs.Ytokeejachclpeaa
open Go.RowKit

/-- Behind which places of the order a level ends. -/
def levP (x o : List Int) (i : Nat) : Bool := decide (i + 1 = o.length) || decide (gv x (gv o (i + 1)).toNat < gv x (gv o i).toNat)
/-- The sets of the levels that end before place k. -/
def levT (x o : List Int) : Nat → List Int
  | 0 => []
  | k + 1 => if levP x o k then levT x o k ++ [((seenN o (k + 1) : Nat) : Int)] else levT x o k
theorem levT_le (x o : List Int) : ∀ k, (levT x o k).length ≤ k
  | 0 => Nat.le_refl _
  | k + 1 => by have ih := levT_le x o k; unfold levT; split <;> simp <;> omega
/-- The order is by descending numbers. -/
def Desc (x L : List Int) : Prop := ∀ a b, a < b → b < L.length → gv x (gv L b).toNat ≤ gv x (gv L a).toNat
theorem posN_after {x L : List Int} {e : Nat} : ∀ k j, posN x L e k ≤ j → j < k → gv x (gv L j).toNat < gv x e
  | 0, j, _, h => by omega
  | k + 1, j, h1, h2 => by
    unfold posN at h1
    split at h1
    · rename_i h3
      by_cases h4 : j = k
      · subst h4; exact h3
      · exact posN_after k j h1 (by omega)
    · omega
theorem posN_before {x L : List Int} {e : Nat} (hL : Desc x L) : ∀ k, k ≤ L.length → ∀ j, j < posN x L e k → gv x e ≤ gv x (gv L j).toNat
  | 0, _, j, h => by simp [posN] at h
  | k + 1, hk, j, h => by
    unfold posN at h
    split at h
    · exact posN_before hL k (by omega) j h
    · rename_i h3
      by_cases h4 : j = k
      · subst h4; omega
      · have := hL j k (by omega) (by omega)
        omega
theorem putE_gv {L : List Int} {e p j : Nat} (hp : p ≤ L.length) (hj : j < L.length + 1) : gv (putE L e p) j = if j < p then gv L j else if j = p then (e : Int) else gv L (j - 1) := by
  have hl := putE_len (L := L) (e := e) hp
  have htl : (L.take p).length = p := by simp; omega
  by_cases h1 : j < p
  · rw [if_pos h1]
    unfold putE
    rw [gv_append (by omega), gv_get (by omega), gv_get (by omega)]
    simp
  · rw [if_neg h1]
    by_cases h2 : j = p
    · rw [if_pos h2]
      unfold putE
      exact gv_append2 (by omega)
    · rw [if_neg h2, gv_get (by omega), gv_get (by omega)]
      unfold putE
      rw [List.getElem_append_right (by omega)]
      obtain ⟨d, hd⟩ : ∃ d, j - (L.take p).length = d + 1 := ⟨j - p - 1, by omega⟩
      simp only [hd, List.getElem_cons_succ, List.getElem_drop]
      congr 1
      omega
theorem putE_desc {x L : List Int} {e : Nat} (hL : Desc x L) : Desc x (insE x L e) := by
  intro a b hab hb
  have hp := posN_le x L e L.length
  unfold insE at *
  rw [putE_len hp] at hb
  rw [putE_gv hp (by omega), putE_gv hp (by omega)]
  have hA := fun j => posN_after (x := x) (L := L) (e := e) L.length j
  have hB := fun j => posN_before (x := x) (L := L) (e := e) hL L.length (Nat.le_refl _) j
  generalize posN x L e L.length = p at *
  by_cases h1 : b < p
  · rw [if_pos h1, if_pos (by omega)]
    exact hL a b hab (by omega)
  · rw [if_neg h1]
    by_cases h2 : b = p
    · rw [if_pos h2, if_pos (by omega), Int.toNat_natCast]
      exact hB a (by omega)
    · rw [if_neg h2]
      have h3 := hA (b - 1) (by omega) (by omega)
      by_cases h4 : a < p
      · rw [if_pos h4]
        exact hL a (b - 1) (by omega) (by omega)
      · rw [if_neg h4]
        by_cases h5 : a = p
        · rw [if_pos h5, Int.toNat_natCast]; omega
        · rw [if_neg h5]
          exact hL (a - 1) (b - 1) (by omega) (by omega)
theorem ordD_desc (x : List Int) : ∀ k, Desc x (ordD x k)
  | 0 => fun a b _ hb => by simp [ordD] at hb
  | k + 1 => putE_desc (ordD_desc x k)
/-- Equal or less: the two ways to say that a level ends. -/
theorem lev_ne {x : List Int} {n i : Nat} (hi : i + 1 < n) : decide (gv x (gv (ordD x n) (i + 1)).toNat < gv x (gv (ordD x n) i).toNat) = (gv x (gv (ordD x n) (i + 1)).toNat != gv x (gv (ordD x n) i).toNat) := by
  have h := ordD_desc x n i (i + 1) (by omega) (by rw [ordD_len]; exact hi)
  rw [Bool.eq_iff_iff]
  simp
  omega
theorem app_belowN {B nq : Nat} {w0 wr w1 : World} {o : Obj} {n c : Nat} {A : Option Addr} {xs : List Int} (hb : Below B w0 wr) (hown : Own wr B A n c xs) (hg : ((wr.drewN nq).alloc o).grownBy w1 (A.map (·.block))) (hB : B ≤ wr.heap.size) : Below B w0 w1 :=
  ((below_drewN hb nq).alloc hB o).grown hg (by simp; exact Nat.le_trans hB (Nat.le_succ _)) (fun k hk => by
    rcases hown.where_ with e | ⟨g, e, h1, _⟩
    · subst e; cases hk
    · subst e; simp at hk; omega)
def levL (x : List Int) : List Int := if vecOk 1000 x then levT x (ordD x x.length) x.length else []
set_option maxHeartbeats 2000000 in
theorem levelsOf_any (A : Option Addr) (n c : Nat) (x : List Int) (w : World) (hx : Ints w A n x) (hk : vecOk 1000 x = true) :
    Calls Try.prog 188 #[.slice A n c] w fun e w' => ∃ B r cr, e = .returned (.slice B r cr) ∧ Own w' w.heap.size B r cr (levT x (ordD x n) n) ∧ r ≤ 1048576 ∧ Below w.heap.size w w' := by
  have hxl := hide hx.len
  have hn5 : n ≤ 5 := by rw [← hxl.out]; exact (vecOk_true hk).1
  have HD := hide (descending_any A n c x w hx hk)
  have hO := ordD_ok x n
  have hol := hide (ordD_len x n)
  have HE := hide (fun k (hkn : k < n) => ord_elem hO (k := k) (by rw [hol.out]; exact hkn))
  have HS := hide (fun k (hkn : k ≤ n) => (show seenN (ordD x n) k < 32 by
    have h1 := ord_seen hO (k := k) (by rw [hol.out]; exact hkn)
    have h2 : (2 : Nat) ^ n ≤ 32 := Nat.pow_le_pow_right (by omega) hn5
    omega))
  have HN := hide (fun i (hi : i + 1 < n) => lev_ne (x := x) hi)
  clear hk hO
  generalize ordD x n = O at *
  go_enter Try.func188, Try.ntmps188
  go_wp2_with fail
  refine HD.out.mono ?_
  rintro e w1 ⟨B0, cr0, rfl, own0, hb1⟩
  go_wp2
  go_loopw [3, 4, 12] (fun l s t wr => ∃ (k r : Nat) (B : Option Addr) (cr : Nat), k ≤ n ∧ t = .int .i64 k ∧ s = .int .i64 ((seenN O k : Nat) : Int) ∧ l = .slice B r cr ∧ r ≤ k ∧ Own wr w1.heap.size B r cr (levT x O k) ∧ Below w1.heap.size w1 wr) (fun _ _ t _ => n - (intOf t).toNat)
  case atStart => exact ⟨0, 0, none, 0, Nat.zero_le _, rfl, rfl, rfl, Nat.le_refl _, own_nil _ _, Below.refl _ _⟩
  case round =>
    obtain ⟨k, r, B, cr, hk, rfl, rfl, rfl, hrk, hown, hbel⟩ := hrel
    have ownO := own0.below hbel (Nat.le_refl _)
    by_cases hlt : k < n
    · obtain ⟨e, he, hen, hsn⟩ := HE.out k hlt
      have hs := HS.out k (by omega)
      have hs2 := HS.out (k + 1) (by omega)
      rw [hsn] at hs2
      have hsn' := hide hsn
      obtain ⟨bo, rfl, hboB, hbol⟩ := own0.form (by omega)
      have o1 := ownO.cell hlt
      rw [he] at o1
      have hst := hide (show levT x O (k + 1) = if levP x O k then levT x O k ++ [((seenN O (k + 1) : Nat) : Int)] else levT x O k from rfl)
      obtain ⟨b, off, rfl, hb, hc⟩ := hx.all_ (by omega)
      have hbel2 : Below w.heap.size w wr := hb1.trans (hbel.mono hb1.size)
      have cE : wr.cell? ⟨b, off + e, none⟩ = some (.int .i64 (gv x e)) := (hbel2.cell (p := ⟨b, off + e, none⟩) hb).trans (hc e hen)
      have s10 : seenN O k < 1024 := by omega
      have e40 : e ≤ 40 := by omega
      have i1 : (0 : Int) ≤ (k : Int) := by omega
      have i2 : (k : Int) < (n : Int) := by omega
      have i3 : (0 : Int) ≤ (e : Int) := by omega
      have i4 : (e : Int) < (n : Int) := by omega
      by_cases hlast : k + 1 = n
      · have hs3 := hide (show levT x O (k + 1) = levT x O k ++ [((insN (seenN O k) e : Nat) : Int)] by rw [hst.out, show levP x O k = true by simp [levP, hol.out, hlast], if_pos rfl, hsn'.out])
        have hd : ((k : Int) + 1 == (n : Int)) = true := by simp; omega
        clear he hsn
        generalize seenN O k = s at *
        generalize levT x O k = L at *
        go_wp2
        go_quiet (fail)
        go_wp2_with (refine wpl_app (by rfl) _ _ (by rfl) w1.heap.size B r cr (wr.drewN nq).heap.size L ((insN s e : Nat) : Int) (by rfl) (by rfl) ((hown.below (below_drewN (Below.refl wr.heap.size wr) nq) (Nat.le_refl _)).alloc _) (cell_new (wr.drewN nq) _) (by omega) (by have := hbel.size; simp; omega) ?_; intro g cap w3 hown3 hgrow hat hlt3)
        go_roundw
        case rel => exact ⟨k + 1, r + 1, _, cap, by omega, by go_num, by rw [hsn'.out], rfl, by omega, by rw [hs3.out]; exact hown3, app_belowN hbel hown hgrow hbel.size⟩
        case measure => simp [intOf]; omega
      · have hk1 : k + 1 < n := by omega
        obtain ⟨q, hq, hqn, _⟩ := HE.out (k + 1) hk1
        have hN := HN.out k hk1
        rw [hq, he, Int.toNat_natCast, Int.toNat_natCast] at hN
        have o2 := ownO.cell hk1
        rw [hq] at o2
        have cQ : wr.cell? ⟨b, off + q, none⟩ = some (.int .i64 (gv x q)) := (hbel2.cell (p := ⟨b, off + q, none⟩) hb).trans (hc q hqn)
        have i5 : (0 : Int) ≤ (k : Int) + 1 := by omega
        have i6 : (k : Int) + 1 < (n : Int) := by omega
        have i7 : (0 : Int) ≤ (q : Int) := by omega
        have i8 : (q : Int) < (n : Int) := by omega
        have hd : ((k : Int) + 1 == (n : Int)) = false := by simp; omega
        have hP := hide (show levP x O k = decide (gv x q < gv x e) by
          have h0 : decide (k + 1 = O.length) = false := by simp [hol.out]; omega
          unfold levP
          rw [hq, he, Int.toNat_natCast, Int.toNat_natCast, h0, Bool.false_or])
        clear he hsn hq hc
        cases hne : (gv x q != gv x e)
        · have hs3 := hide (show levT x O (k + 1) = levT x O k by rw [hst.out, hP.out, hN, hne]; rfl)
          clear hN
          generalize seenN O k = s at *
          go_wp2
          go_quiet (fail)
          go_wp2
          go_roundw
          case rel => exact ⟨k + 1, r, B, cr, by omega, by go_num, by rw [hsn'.out], rfl, by omega, by rw [hs3.out]; exact hown.below (below_drewN (Below.refl wr.heap.size wr) _) (Nat.le_refl _), below_drewN hbel _⟩
          case measure => simp [intOf]; omega
        · have hs3 := hide (show levT x O (k + 1) = levT x O k ++ [((insN (seenN O k) e : Nat) : Int)] by rw [hst.out, hP.out, hN, hne, if_pos rfl, hsn'.out])
          clear hN
          generalize seenN O k = s at *
          generalize levT x O k = L at *
          go_wp2
          go_quiet (fail)
          go_wp2_with (refine wpl_app (by rfl) _ _ (by rfl) w1.heap.size B r cr (wr.drewN nq).heap.size L ((insN s e : Nat) : Int) (by rfl) (by rfl) ((hown.below (below_drewN (Below.refl wr.heap.size wr) nq) (Nat.le_refl _)).alloc _) (cell_new (wr.drewN nq) _) (by omega) (by have := hbel.size; simp; omega) ?_; intro g cap w3 hown3 hgrow hat hlt3)
          go_roundw
          case rel => exact ⟨k + 1, r + 1, _, cap, by omega, by go_num, by rw [hsn'.out], rfl, by omega, by rw [hs3.out]; exact hown3, app_belowN hbel hown hgrow hbel.size⟩
          case measure => simp [intOf]; omega
    · obtain rfl : k = n := by omega
      go_wp2
      go_ret
      exact ⟨B, r, cr, rfl, hown.less hb1.size, by omega, hb1.trans (hbel.mono hb1.size)⟩
end Go.Proofs.Ytokeejachclpeaa
namespace Go.Proofs.Ytokeejachclpeaa
open Go.RowKit

theorem row_low {w : World} {B n c g : Nat} {A : Option Addr} {xs : List Int} (h : Own w B A n c xs) (hA : A = some ⟨g, 0, none⟩) : B ≤ g := (own_range h g hA).1
set_option maxHeartbeats 1000000 in
theorem levelSets_any (A : Option Addr) (n c : Nat) (x : List Int) (w : World) (hx : Ints w A n x) :
    Calls Try.prog 85 #[.slice A n c] w fun e w' => ∃ B r cr, e = .returned (.tuple #[.slice B r cr, .bool (vecOk 1000 x)]) ∧ Own w' w.heap.size B r cr (levL x) ∧ r ≤ 1048576 ∧ Below w.heap.size w w' := by
  have HV := hide (isVector_any A n c x w hx)
  have hxl := hx.len
  cases hok : vecOk 1000 x
  · have e0 : levL x = [] := by simp [levL, hok]
    rw [e0]; clear e0
    rw [hok] at HV
    go_enter Try.func85, Try.ntmps85
    go_wp2_with fail
    refine HV.out.mono ?_
    rintro e w1 ⟨rfl, rfl⟩
    go_wp2
    go_ret2
    exact ⟨none, 0, 0, rfl, own_nil _ _, by omega, Below.refl _ _⟩
  · have e0 : levL x = levT x (ordD x n) n := by simp [levL, hok, hxl]
    rw [e0]; clear e0
    rw [hok] at HV
    have HD := hide (levelsOf_any A n c x w hx hok)
    clear hok hxl
    go_enter Try.func85, Try.ntmps85
    go_wp2_with fail
    refine HV.out.mono ?_
    rintro e w1 ⟨rfl, rfl⟩
    go_wp2_with fail
    refine HD.out.mono ?_
    rintro e w2 ⟨B, r, cr, rfl, hown, hr, hb2⟩
    go_wp2
    go_ret2
    exact ⟨B, r, cr, rfl, hown, hr, hb2⟩
set_option maxHeartbeats 2000000 in
theorem specLevelSets_any (A : Option Addr) (n c : Nat) (x : List Int) (w : World) (hx : Ints w A n x) :
    Calls Try.prog 86 #[.slice A n c] w fun e w' => ∃ B r cr, e = .returned (.tuple #[.slice B r cr, .bool (vecOk 1000 x)]) ∧ Own w' w.heap.size B r cr (levL x) ∧ r ≤ 1048576 ∧ Below w.heap.size w w' := by
  have hxl := hide hx.len
  have hB0 := (Below.refl w.heap.size w).alloc (Nat.le_refl _) (.cells #[] 3)
  have hO0 := own_zero w (Nat.le_refl w.heap.size)
  have HD := hide (specOrderFor_any A n c x _ (hx.alloc (.cells #[] 3)))
  cases hok : vecOk 1000 x
  · have e0 : levL x = [] := by simp [levL, hok]
    have e1 : ordF x = [] := by simp [ordF, hok]
    rw [e0]; clear e0
    rw [hok, e1] at HD
    clear hok e1
    go_enter Try.func86, Try.ntmps86
    go_wp2_with fail
    refine HD.out.mono ?_
    rintro e w1 ⟨B0, r0, cr0, rfl, own0, hr0, hb1⟩
    have hz : r0 = 0 := own0.len.symm
    subst hz
    have ho1 := hO0.below hb1 (by simp)
    go_wp2
    go_loopw [4, 8] (fun l t wr => l = .slice (some ⟨w.heap.size, 0, none⟩) 0 0 ∧ t = .int .i64 0 ∧ wr = w1) (fun _ _ _ => 0)
    case atStart => exact ⟨rfl, rfl, rfl⟩
    case round =>
      obtain ⟨rfl, rfl, rfl⟩ := hrel
      go_wp2
      go_ret2
      exact ⟨_, 0, 0, rfl, ho1, by omega, hB0.trans (hb1.mono (by simp))⟩
  have e0 : levL x = levT x (ordD x n) n := by simp [levL, hok, hxl.out]
  have e1 : ordF x = ordD x n := by simp [ordF, hok, hxl.out]
  rw [e0]; clear e0
  rw [hok, e1] at HD
  have hn5 : n ≤ 5 := by rw [← hxl.out]; exact (vecOk_true hok).1
  have hO := ordD_ok x n
  have hol := hide (ordD_len x n)
  have HE := hide (fun k (hkn : k < n) => ord_elem hO (k := k) (by rw [hol.out]; exact hkn))
  have HS := hide (fun k (hkn : k ≤ n) => (show seenN (ordD x n) k < 32 by
    have h1 := ord_seen hO (k := k) (by rw [hol.out]; exact hkn)
    have h2 : (2 : Nat) ^ n ≤ 32 := Nat.pow_le_pow_right (by omega) hn5
    omega))
  clear hok hO e1
  generalize ordD x n = O at *
  go_enter Try.func86, Try.ntmps86
  go_wp2_with fail
  refine HD.out.mono ?_
  rintro e w1 ⟨B0, rr, cr0, rfl, own0, hr0, hb1⟩
  have hrn : rr = n := by have := own0.len; have := hol.out; omega
  subst hrn
  have ho1 := hO0.below hb1 (by simp)
  have hbw : Below w.heap.size w w1 := hB0.trans (hb1.mono (by simp))
  have hne0 : ∀ g, (some ⟨w.heap.size, 0, none⟩ : Option Addr) = some ⟨g, 0, none⟩ → ∀ g', B0 = some ⟨g', 0, none⟩ → g ≠ g' := by
    intro g h1 g' h2
    injection h1 with h1; injection h1 with h1 _
    have := row_low own0 h2
    simp at this; omega
  have own0' := own0.less (B' := w.heap.size) (by simp)
  go_wp2
  go_loopw [4, 7, 8] (fun l s t wr => ∃ (k r : Nat) (B : Option Addr) (cr : Nat), k ≤ rr ∧ t = .int .i64 k ∧ s = .int .i64 ((seenN O k : Nat) : Int) ∧ l = .slice B r cr ∧ r ≤ k ∧ Own wr w.heap.size B r cr (levT x O k) ∧ Own wr w.heap.size B0 rr cr0 O ∧ (∀ g, B = some ⟨g, 0, none⟩ → ∀ g', B0 = some ⟨g', 0, none⟩ → g ≠ g') ∧ Below w.heap.size w wr) (fun _ _ t _ => rr - (intOf t).toNat)
  case atStart => exact ⟨0, 0, _, 0, Nat.zero_le _, rfl, rfl, rfl, Nat.le_refl _, ho1, own0', hne0, hbw⟩
  clear ho1 own0' hne0 hbw
  case round =>
    obtain ⟨k, r, B, cr, hk, rfl, rfl, rfl, hrk, hown, ownO, hne, hbel⟩ := hrel
    have Hne := hide hne; clear hne
    by_cases hlt : k < rr
    · obtain ⟨e, he, hen, hsn⟩ := HE.out k hlt
      have hs := HS.out k (by omega)
      have hs2 := HS.out (k + 1) (by omega)
      rw [hsn] at hs2
      have hsn' := hide hsn
      obtain ⟨bo, rfl, hboB, hbol⟩ := ownO.form (by omega)
      have o1 := ownO.cell hlt
      rw [he] at o1
      have hst := hide (show levT x O (k + 1) = if levP x O k then levT x O k ++ [((seenN O (k + 1) : Nat) : Int)] else levT x O k from rfl)
      obtain ⟨b, off, rfl, hb, hc⟩ := hx.all_ (by omega)
      have cE : wr.cell? ⟨b, off + e, none⟩ = some (.int .i64 (gv x e)) := (hbel.cell (p := ⟨b, off + e, none⟩) hb).trans (hc e hen)
      have s10 : seenN O k < 1024 := by omega
      have e40 : e ≤ 40 := by omega
      have i1 : (0 : Int) ≤ (k : Int) := by omega
      have i2 : (k : Int) < (rr : Int) := by omega
      have i3 : (0 : Int) ≤ (e : Int) := by omega
      have i4 : (e : Int) < (rr : Int) := by omega
      have HG := hide (fun (g cap : Nat) (L2 : List Int) (w3 : World) (q : Nat) (y : Int) (hgrow : ((wr.drewN q).alloc (.cells #[.int .i64 y] 3)).grownBy w3 (B.map (·.block))) (hat : B = some ⟨g, 0, none⟩ ∨ g = ((wr.drewN q).alloc (.cells #[.int .i64 y] 3)).heap.size) =>
        (show Own w3 w.heap.size (some ⟨bo, 0, none⟩) rr cr0 O ∧ (∀ g2, (some ⟨g, 0, none⟩ : Option Addr) = some ⟨g2, 0, none⟩ → ∀ g', (some ⟨bo, 0, none⟩ : Option Addr) = some ⟨g', 0, none⟩ → g2 ≠ g') ∧ Below w.heap.size w w3 from by
          refine ⟨(((ownO.below (below_drewN (Below.refl wr.heap.size wr) q) (Nat.le_refl _)).alloc _).keep fun g2 hg2 hA => hgrow.block g2 hg2 (fun hk2 => ?_)), ?_, app_belowN hbel hown hgrow hbel.size⟩
          · injection hA with hA; injection hA with hA _
            rcases hown.where_ with h0 | ⟨gb, h1, _, _⟩
            · rw [h0] at hk2; cases hk2
            · rw [h1] at hk2; simp at hk2
              exact Hne.out gb h1 bo rfl (by omega)
          · intro g2 h1 g' h2
            injection h1 with h1; injection h1 with h1 _
            injection h2 with h2; injection h2 with h2 _
            rcases hat with h | h
            · subst h1; exact fun h5 => Hne.out g h bo rfl (by omega)
            · simp at h
              omega))
      by_cases hlast : k + 1 = rr
      · have hs3 := hide (show levT x O (k + 1) = levT x O k ++ [((insN (seenN O k) e : Nat) : Int)] by rw [hst.out, show levP x O k = true by simp [levP, hol.out, hlast], if_pos rfl, hsn'.out])
        have hd : ((k : Int) + 1 == (rr : Int)) = true := by simp; omega
        clear he hsn
        generalize seenN O k = s at *
        generalize levT x O k = L at *
        go_wp2
        go_quiet (fail)
        go_wp2_with (refine wpl_app (by rfl) _ _ (by rfl) w.heap.size B r cr (wr.drewN nq).heap.size L ((insN s e : Nat) : Int) (by rfl) (by rfl) ((hown.below (below_drewN (Below.refl wr.heap.size wr) nq) (Nat.le_refl _)).alloc _) (cell_new (wr.drewN nq) _) (by omega) (by have := hbel.size; simp; omega) ?_; intro g cap w3 hown3 hgrow hat hlt3)
        have H3 := HG.out g cap L w3 nq _ hgrow hat
        go_roundw
        case rel => exact ⟨k + 1, r + 1, _, cap, by omega, by go_num, by rw [hsn'.out], rfl, by omega, by rw [hs3.out]; exact hown3, H3.1, H3.2.1, H3.2.2⟩
        case measure => simp [intOf]; omega
      · have hk1 : k + 1 < rr := by omega
        obtain ⟨q, hq, hqn, _⟩ := HE.out (k + 1) hk1
        have o2 := ownO.cell hk1
        rw [hq] at o2
        have cQ : wr.cell? ⟨b, off + q, none⟩ = some (.int .i64 (gv x q)) := (hbel.cell (p := ⟨b, off + q, none⟩) hb).trans (hc q hqn)
        have i5 : (0 : Int) ≤ (k : Int) + 1 := by omega
        have i6 : (k : Int) + 1 < (rr : Int) := by omega
        have i7 : (0 : Int) ≤ (q : Int) := by omega
        have i8 : (q : Int) < (rr : Int) := by omega
        have hd : ((k : Int) + 1 == (rr : Int)) = false := by simp; omega
        have hP := hide (show levP x O k = decide (gv x q < gv x e) by
          have h0 : decide (k + 1 = O.length) = false := by simp [hol.out]; omega
          unfold levP
          rw [hq, he, Int.toNat_natCast, Int.toNat_natCast, h0, Bool.false_or])
        clear he hsn hq hc
        cases hne : decide (gv x q < gv x e)
        · have hs3 := hide (show levT x O (k + 1) = levT x O k by rw [hst.out, hP.out, hne]; rfl)
          generalize seenN O k = s at *
          go_wp2
          go_quiet (fail)
          go_wp2
          go_roundw
          case rel => exact ⟨k + 1, r, B, cr, by omega, by go_num, by rw [hsn'.out], rfl, by omega, by rw [hs3.out]; exact hown.below (below_drewN (Below.refl wr.heap.size wr) _) (Nat.le_refl _), ownO.below (below_drewN (Below.refl wr.heap.size wr) _) (Nat.le_refl _), Hne.out, below_drewN hbel _⟩
          case measure => simp [intOf]; omega
        · have hs3 := hide (show levT x O (k + 1) = levT x O k ++ [((insN (seenN O k) e : Nat) : Int)] by rw [hst.out, hP.out, hne, if_pos rfl, hsn'.out])
          generalize seenN O k = s at *
          generalize levT x O k = L at *
          go_wp2
          go_quiet (fail)
          go_wp2_with (refine wpl_app (by rfl) _ _ (by rfl) w.heap.size B r cr (wr.drewN nq).heap.size L ((insN s e : Nat) : Int) (by rfl) (by rfl) ((hown.below (below_drewN (Below.refl wr.heap.size wr) nq) (Nat.le_refl _)).alloc _) (cell_new (wr.drewN nq) _) (by omega) (by have := hbel.size; simp; omega) ?_; intro g cap w3 hown3 hgrow hat hlt3)
          have H3 := HG.out g cap L w3 nq _ hgrow hat
          go_roundw
          case rel => exact ⟨k + 1, r + 1, _, cap, by omega, by go_num, by rw [hsn'.out], rfl, by omega, by rw [hs3.out]; exact hown3, H3.1, H3.2.1, H3.2.2⟩
          case measure => simp [intOf]; omega
    · obtain rfl : k = rr := by omega
      go_wp2
      go_ret2
      exact ⟨B, r, cr, rfl, hown, by omega, hbel⟩
end Go.Proofs.Ytokeejachclpeaa
