/-
  Walks: the elements by descending numbers, by the reference.
-/
import Derived.Test.YtokeejachclpeaaDesc2
import Derived.Test.YtokeejachclpeaaApp
import Derived.Deep.RegionLaw
namespace Go.Proofs.Ytokeejachclpeaa
open Go.RowKit

def ordOk (x : List Int) : Bool := vecOk 1000 x
def ordF (x : List Int) : List Int := if vecOk 1000 x then ordD x x.length else []
theorem ints_take {w : World} {A : Option Addr} {n k : Nat} {L : List Int} (h : Ints w A n L) (hk : k ≤ n) : Ints w A k (L.take k) :=
  ⟨by rw [List.length_take, h.len]; omega, by have := h.le; omega, fun h0 => by
    obtain ⟨b, off, rfl, hb, hc⟩ := h.all_ (by omega)
    refine ⟨b, off, rfl, fun j hj => ?_⟩
    rw [hc j (by omega)]
    congr 2
    rw [gv_get (by rw [h.len]; omega), gv_get (by rw [List.length_take, h.len]; omega)]
    simp⟩
theorem ints_drop {w : World} {b off n k : Nat} {L : List Int} (h : Ints w (some ⟨b, off, none⟩) n L) : Ints w (some ⟨b, off + k, none⟩) (n - k) (L.drop k) :=
  ⟨by rw [List.length_drop, h.len], by have := h.le; omega, fun h0 => by
    obtain ⟨b', off', e, hb, hc⟩ := h.all_ (by omega)
    injection e with e; injection e with e1 e2 _; subst e1; subst e2
    refine ⟨b, off + k, rfl, fun j hj => ?_⟩
    have := hc (k + j) (by omega)
    rw [show off + (k + j) = off + k + j by omega] at this
    rw [this]
    congr 2
    rw [gv_get (by rw [h.len]; omega), gv_get (by rw [List.length_drop, h.len]; omega)]
    simp⟩
theorem own_zeroC (W : World) (o : Obj) {B : Nat} (hB : B ≤ W.heap.size) : Own ((W.alloc o).alloc (.cells #[] 3)) B (some ⟨W.heap.size + 1, 0, none⟩) 0 0 [] := by
  have h := own_zero (W.alloc o) (B := B) (by simp; omega)
  rwa [show (W.alloc o).heap.size = W.heap.size + 1 by simp] at h
theorem cell_growB {W w1 : World} {o : Obj} {y : Int} {S : Nat} (h : ((W.alloc o).alloc (.cells #[.int .i64 y] 3)).grownBy w1 (some S)) (hS : S = W.heap.size := by rfl) : w1.cell? ⟨W.heap.size + 1, 0, none⟩ = some (.int .i64 y) := by
  have h1 := cell_new (W.alloc o) y
  rw [show (W.alloc o).heap.size = W.heap.size + 1 by simp] at h1
  exact grown_cell2 h (by omega) (by simp) h1
theorem cell_growC {W w1 : World} {o : Obj} {y : Int} {S : Nat} (h : ((W.alloc (.cells #[.int .i64 y] 3)).alloc o).grownBy w1 (some S)) (hS : S = W.heap.size + 1 := by rfl) : w1.cell? ⟨W.heap.size, 0, none⟩ = some (.int .i64 y) := by
  have h1 : ((W.alloc (.cells #[.int .i64 y] 3)).alloc o).cell? ⟨W.heap.size, 0, none⟩ = some (.int .i64 y) := (World.cell?_alloc_lt _ o _ (by simp)).trans (cell_new W y)
  exact grown_cell2 h (by omega) (by simp; omega) h1
theorem own_range {w : World} {B n c : Nat} {A : Option Addr} {xs : List Int} (h : Own w B A n c xs) : ∀ g, A = some ⟨g, 0, none⟩ → B ≤ g ∧ g < w.heap.size := by
  intro g hA
  rcases h.where_ with h0 | ⟨g', h1, h2, h3⟩
  · rw [h0] at hA; cases hA
  · rw [h1] at hA
    simp at hA
    subst hA
    exact ⟨h2, h3⟩
theorem ints_dropif {w : World} {g i cr p : Nat} {L : List Int} (h : Ints w (some ⟨g, 0, none⟩) i L) (_hp : p ≤ i) (hc : i ≤ cr) : Ints w (if cr = p then some ⟨g, 0, none⟩ else some ⟨g, p, none⟩) (i - p) (L.drop p) := by
  split
  · refine ⟨by rw [List.length_drop, h.len], by omega, fun h0 => by omega⟩
  · have := ints_drop (k := p) h
    rwa [Nat.zero_add] at this
theorem own_cast {w : World} {B n c n' : Nat} {A : Option Addr} {xs ys : List Int} (h : Own w B A n c xs) (hn : n = n') (hx : xs = ys) : Own w B A n' c ys := by subst hn; subst hx; exact h
set_option maxHeartbeats 4000000 in
theorem specOrderFor_any (A : Option Addr) (n c : Nat) (x : List Int) (w : World) (hx : Ints w A n x) :
    Calls Try.prog 81 #[.slice A n c] w fun e w' => ∃ B r cr, e = .returned (.tuple #[.slice B r cr, .bool (vecOk 1000 x)]) ∧ Own w' w.heap.size B r cr (ordF x) ∧ r ≤ 1048576 ∧ Below w.heap.size w w' := by
  have hxl := hide hx.len
  have hle := hx.le
  have hB0 := (Below.refl w.heap.size w).alloc (Nat.le_refl _) (.cells #[] 3)
  have hO0 := own_zero w (Nat.le_refl w.heap.size)
  have HV := hide (l7Vector_any A n c x _ (hx.alloc (.cells #[] 3)))
  cases hok : vecOk 1000 x
  · have e0 : ordF x = [] := by simp [ordF, hok]
    rw [e0]; clear e0
    rw [hok] at HV
    go_enter Try.func81, Try.ntmps81
    go_wp2_with fail
    refine HV.out.mono ?_
    rintro e w1 ⟨rfl, rfl⟩
    go_wp2
    go_ret2
    exact ⟨_, 0, 0, rfl, hO0, by omega, hB0⟩
  rw [hok] at HV
  have e0 : ordF x = ordD x n := by simp [ordF, hok, hxl.out]
  rw [e0]; clear e0
  have hn5 : n ≤ 5 := by rw [← hxl.out]; exact (vecOk_true hok).1
  have Hok := hide hok; clear hok
  go_enter Try.func81, Try.ntmps81
  go_wp2_with fail
  refine HV.out.mono ?_
  rintro e w1 ⟨rfl, rfl⟩
  go_wp2
  go_loopw [4, 5] (fun l t wr => ∃ (i g cr : Nat), i ≤ n ∧ t = .int .i64 i ∧ l = .slice (some ⟨g, 0, none⟩) i cr ∧ Own wr w.heap.size (some ⟨g, 0, none⟩) i cr (ordD x i) ∧ Below w.heap.size w wr) (fun _ t _ => n - (intOf t).toNat)
  case atStart => exact ⟨0, _, 0, Nat.zero_le _, rfl, rfl, hO0, hB0⟩
  clear hO0 hB0
  case round =>
    obtain ⟨i, g, cr, hi, rfl, rfl, hown, hbel⟩ := hrel
    by_cases hlt : i < n
    · obtain ⟨b, off, rfl, hb, hc⟩ := hx.all_ (by omega)
      have HC := hide hc; clear hc
      have hLl := hide (ordD_len x i)
      have HE := hide (fun j (hj : j < i) => ordD_elem (x := x) hj)
      have hst := hide (show ordD x (i + 1) = (ordD x i).take (posN x (ordD x i) i i) ++ (i : Int) :: (ordD x i).drop (posN x (ordD x i) i i) by
        have h : ordD x (i + 1) = putE (ordD x i) i (posN x (ordD x i) i (ordD x i).length) := rfl
        rw [hLl.out] at h; exact h)
      generalize ordD x i = L at *
      go_wp2
      go_loopw [6] (fun t wi => ∃ k : Nat, k ≤ i ∧ t = .int .i64 k ∧ Hid (posN x L i i = posN x L i k) ∧ Own wi w.heap.size (some ⟨g, 0, none⟩) i cr L ∧ Below w.heap.size w wi) (fun t _ => (intOf t).toNat)
      case atStart => exact ⟨i, Nat.le_refl _, rfl, hide rfl, hown, hbel⟩
      clear hown hbel
      case round =>
        obtain ⟨k, hk, rfl, hpos, hown, hbel⟩ := hrel
        obtain ⟨hgB, hgl⟩ := own_range hown g rfl
        have hbsz := hbel.size
        have i7 : (0 : Int) ≤ (i : Int) := by omega
        have i8 : (i : Int) < (n : Int) := by omega
        have hpc := own_cap hown
        have i9 : (i : Int) ≤ (cr : Int) := by omega
        by_cases hk0 : k = 0
        · subst hk0
          have hp := hide (show posN x L i i = 0 from hpos.out.trans rfl)
          go_wp2
          go_quiet (fail)
          go_wp2
          have HI : Ints (wr.drewN (nq + 1)) (some ⟨g, 0, none⟩) i L := hown.ints.below (below_drewN (Below.refl _ _) _) (Nat.le_refl _)
          have HW : Below wr.heap.size wr (wr.drewN (nq + 1)) := below_drewN (Below.refl _ _) _
          go_region_law (first
            | (refine step_apps (by rfl) (.tmp 39) (.tmp 42) (by rfl) w.heap.size _ 0 0 [] (some ⟨g, 0, none⟩) (0) cr (L.take (0)) (by rfl) (by rfl) (by first | exact own_zero _ (by simp; omega) | exact (own_zero _ (by simp; omega)).alloc _ | exact own_zeroC _ _ (by simp; omega) | fail) (by first | exact (ints_take HI (by omega)).alloc _ | exact ((ints_take HI (by omega)).alloc _).alloc _ | fail) (by omega) (by omega) (by simp; omega) ?_
               intro A43 c43 w43 hown43 hgrow43 hat43
               rw [Nat.zero_add] at hown43
               have HB43 : Below wr.heap.size wr w43 := by first | exact (HW.alloc (Nat.le_refl _) _).grown hgrow43 (by simp) (fun k hk => by simp at hk; omega) | exact ((HW.alloc (Nat.le_refl _) _).alloc (by simp) _).grown hgrow43 (by simp; omega) (fun k hk => by simp at hk; omega)
               have HA43 : ∀ k, A43.map (·.block) = some k → wr.heap.size ≤ k := by
                 intro k hk
                 rcases hat43 with h | h <;> (rw [h] at hk; simp at hk; omega)
               have hs43 : w.heap.size ≤ w43.heap.size := Nat.le_trans hbsz HB43.size)
            | (refine step_app (by rfl) (.tmp 43) (.tmp 45) (by rfl) w.heap.size A43 (0) c43 _ (L.take (0)) (i : Int) (by rfl) (by rfl) (by first | exact hown43 | exact hown43.alloc _ | fail) (by first | exact cell_new _ _ | (have h8 := cell_growB hgrow43; exact h8) | (have h8 := cell_growC hgrow43; exact h8) | fail) (by omega) (by first | exact hs43 | (simp; omega)) ?_
               intro g46 cap46 w46 hown46 hgrow46 hat46 hlt46
               have HB46 : Below wr.heap.size wr w46 := by first | exact HB43.grown hgrow46 HB43.size HA43 | exact (HB43.alloc HB43.size _).grown hgrow46 (by have := HB43.size; simp; omega) HA43)
            | (refine step_apps (by rfl) (.tmp 46) (.tmp 49) (by rfl) w.heap.size (some ⟨g46, 0, none⟩) (0 + 1) cap46 (L.take (0) ++ [(i : Int)]) _ (i - (0)) _ (L.drop (0)) (by rfl) (by rfl) hown46 (by first | exact hown.ints.below HB46 (Nat.le_refl _) | exact ints_dropif (hown.ints.below HB46 (Nat.le_refl _)) (by omega) hpc | fail) (by omega) (by omega) (Nat.le_trans hbsz HB46.size) ?_
               intro A50 c50 w50 hown50 hgrow50 hat50)
            | fail)
          all_goals
            have HE50 := ((hbel.trans (HB46.mono hbsz)).grown hgrow50 (Nat.le_trans hbsz HB46.size) (fun k hk => by simp at hk; have := own_range hown46 g46 rfl; omega))
            have HO50 := own_cast (hown50) (show (0) + 1 + (i - (0)) = i + 1 by omega) (show L.take (0) ++ [(i : Int)] ++ L.drop (0) = ordD x (i + 1) by rw [hst.out, hp.out, List.append_assoc]; rfl)
            have hA50 : ∃ g', A50 = some ⟨g', 0, none⟩ := by rcases hat50 with h | h <;> exact ⟨_, h⟩
            obtain ⟨g', rfl⟩ := hA50
            have HO := hide HO50
            have HE' := hide HE50
            clear HO50 HE50 hat50 hgrow50 hown50
            go_wp2
            go_roundw
            case rel => exact ⟨i + 1, g', c50, by omega, by go_num, by congr 1; omega, HO.out, HE'.out⟩
            case measure => simp [intOf]; omega
        · obtain ⟨K, rfl⟩ : ∃ K, k = K + 1 := ⟨k - 1, by omega⟩
          obtain ⟨q, hq, hqi⟩ := HE.out K (by omega)
          have hsp := hide (show posN x L i (K + 1) = if gv x (gv L K).toNat < gv x i then posN x L i K else K + 1 from rfl)
          rw [hq, Int.toNat_natCast] at hsp
          have m2 := hown.cell (k := K) (by omega)
          rw [hq] at m2
          clear hq
          have c1 : wr.cell? ⟨b, off + i, none⟩ = some (.int .i64 (gv x i)) := (hbel.cell (p := ⟨b, off + i, none⟩) hb).trans (HC.out _ hlt)
          have c2 : wr.cell? ⟨b, off + q, none⟩ = some (.int .i64 (gv x q)) := (hbel.cell (p := ⟨b, off + q, none⟩) hb).trans (HC.out _ (by omega))
          have i1 : (0 : Int) ≤ (K : Int) := by omega
          have i2 : (K : Int) < (i : Int) := by omega
          have i3 : (0 : Int) ≤ (q : Int) := by omega
          have i4 : (q : Int) < (n : Int) := by omega
          have i5 : (0 : Int) < (K : Int) + 1 := by omega
          have i10 : (0 : Int) ≤ (K : Int) + 1 := by omega
          have i11 : (K : Int) + 1 ≤ (cr : Int) := by omega
          have i12 : (K : Int) + 1 ≤ (i : Int) := by omega
          have i13 : ((K : Int) + 1).toNat = K + 1 := by omega
          have i14 : ((i : Int) - ((K : Int) + 1)).toNat = i - (K + 1) := by omega
          have t0 : IntKind.i64.wrap ((K : Int) + 1 - 1) = (K : Int) := by rw [IntWalk.i64_in _ (by omega)]; omega
          by_cases hlt3 : gv x q < gv x i
          · have hp := hide (show posN x L i i = posN x L i K by rw [hpos.out, hsp.out, if_pos hlt3])
            have hd : decide (gv x q < gv x i) = true := by simp [hlt3]
            clear hlt3
            go_wp2
            go_quiet (fail)
            go_wp2
            go_roundw
            case rel => exact ⟨K, by omega, by go_num, hide hp.out, hown.below (below_drewN (Below.refl _ _) _) (Nat.le_refl _), below_drewN hbel _⟩
            case measure => simp [intOf]
          · have hp := hide (show posN x L i i = K + 1 by rw [hpos.out, hsp.out, if_neg hlt3])
            have hd : decide (gv x q < gv x i) = false := by simp [hlt3]
            clear hlt3
            go_wp2
            go_quiet (fail)
            go_wp2
            have HI : Ints (wr.drewN (nq + 1)) (some ⟨g, 0, none⟩) i L := hown.ints.below (below_drewN (Below.refl _ _) _) (Nat.le_refl _)
            have HW : Below wr.heap.size wr (wr.drewN (nq + 1)) := below_drewN (Below.refl _ _) _
            go_region_law (first
              | (refine step_apps (by rfl) (.tmp 39) (.tmp 42) (by rfl) w.heap.size _ 0 0 [] (some ⟨g, 0, none⟩) (K + 1) cr (L.take (K + 1)) (by rfl) (by rfl) (by first | exact own_zero _ (by simp; omega) | exact (own_zero _ (by simp; omega)).alloc _ | exact own_zeroC _ _ (by simp; omega) | fail) (by first | exact (ints_take HI (by omega)).alloc _ | exact ((ints_take HI (by omega)).alloc _).alloc _ | fail) (by omega) (by omega) (by simp; omega) ?_
                 intro A43 c43 w43 hown43 hgrow43 hat43
                 rw [Nat.zero_add] at hown43
                 have HB43 : Below wr.heap.size wr w43 := by first | exact (HW.alloc (Nat.le_refl _) _).grown hgrow43 (by simp) (fun k hk => by simp at hk; omega) | exact ((HW.alloc (Nat.le_refl _) _).alloc (by simp) _).grown hgrow43 (by simp; omega) (fun k hk => by simp at hk; omega)
                 have HA43 : ∀ k, A43.map (·.block) = some k → wr.heap.size ≤ k := by
                   intro k hk
                   rcases hat43 with h | h <;> (rw [h] at hk; simp at hk; omega)
                 have hs43 : w.heap.size ≤ w43.heap.size := Nat.le_trans hbsz HB43.size)
              | (refine step_app (by rfl) (.tmp 43) (.tmp 45) (by rfl) w.heap.size A43 (K + 1) c43 _ (L.take (K + 1)) (i : Int) (by rfl) (by rfl) (by first | exact hown43 | exact hown43.alloc _ | fail) (by first | exact cell_new _ _ | (have h8 := cell_growB hgrow43; exact h8) | (have h8 := cell_growC hgrow43; exact h8) | fail) (by omega) (by first | exact hs43 | (simp; omega)) ?_
                 intro g46 cap46 w46 hown46 hgrow46 hat46 hlt46
                 have HB46 : Below wr.heap.size wr w46 := by first | exact HB43.grown hgrow46 HB43.size HA43 | exact (HB43.alloc HB43.size _).grown hgrow46 (by have := HB43.size; simp; omega) HA43)
              | (refine step_apps (by rfl) (.tmp 46) (.tmp 49) (by rfl) w.heap.size (some ⟨g46, 0, none⟩) (K + 1 + 1) cap46 (L.take (K + 1) ++ [(i : Int)]) _ (i - (K + 1)) _ (L.drop (K + 1)) (by rfl) (by rfl) hown46 (by first | exact hown.ints.below HB46 (Nat.le_refl _) | exact ints_dropif (hown.ints.below HB46 (Nat.le_refl _)) (by omega) hpc | fail) (by omega) (by omega) (Nat.le_trans hbsz HB46.size) ?_
                 intro A50 c50 w50 hown50 hgrow50 hat50)
              | fail)
            all_goals
              have HE50 := ((hbel.trans (HB46.mono hbsz)).grown hgrow50 (Nat.le_trans hbsz HB46.size) (fun k hk => by simp at hk; have := own_range hown46 g46 rfl; omega))
              have HO50 := own_cast (hown50) (show (K + 1) + 1 + (i - (K + 1)) = i + 1 by omega) (show L.take (K + 1) ++ [(i : Int)] ++ L.drop (K + 1) = ordD x (i + 1) by rw [hst.out, hp.out, List.append_assoc]; rfl)
              have hA50 : ∃ g', A50 = some ⟨g', 0, none⟩ := by rcases hat50 with h | h <;> exact ⟨_, h⟩
              obtain ⟨g', rfl⟩ := hA50
              have HO := hide HO50
              have HE' := hide HE50
              clear HO50 HE50 hat50 hgrow50 hown50
              go_wp2
              go_roundw
              case rel => exact ⟨i + 1, g', c50, by omega, by go_num, by congr 1; omega, HO.out, HE'.out⟩
              case measure => simp [intOf]; omega
    · obtain rfl : i = n := by omega
      go_wp2
      go_ret2
      exact ⟨_, i, cr, rfl, hown, by omega, hbel⟩
end Go.Proofs.Ytokeejachclpeaa
