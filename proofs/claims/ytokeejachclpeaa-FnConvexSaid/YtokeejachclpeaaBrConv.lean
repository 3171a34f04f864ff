/-
  Plain words for the law FnConvex.
-/
import Derived.Test.YtokeejachclpeaaBr1
import Derived.Test.YtokeejachclpeaaConv
import Derived.Test.YtokeejachclpeaaLeaM
namespace Go.Proofs.Ytokeejachclpeaa
open Go.RowKit

theorem allIn_of {x : List Int} {l h : Int} (hx : ∀ k, k < x.length → l ≤ gv x k ∧ gv x k ≤ h) : allIn x l h = true := by
  unfold allIn
  rw [List.all_eq_true]
  intro y hy
  obtain ⟨k, hk, rfl⟩ := List.getElem_of_mem hy
  have := hx k hk
  rw [gv_get hk] at this
  simp [inR]; omega
theorem gv_zip {f : Int → Int → Int} {x y : List Int} {k : Nat} (hx : k < x.length) (hy : k < y.length) : gv (List.zipWith f x y) k = f (gv x k) (gv y k) := by
  rw [gv_get (by simp; omega), gv_get hx, gv_get hy]; simp
theorem mn_min (a b : Int) : mn a b = min a b := by unfold mn; split <;> omega
theorem mx_max (a b : Int) : mx a b = max a b := by unfold mx; split <;> omega
/-- The extension is known where the function and the vector are valid. -/
theorem ext_some {E : Int} {v x : List Int} (h : extOk E v x = true) : ∃ N : Nat, E = (N : Int) ∧ N ≤ 5 ∧ v.length = 2 ^ N ∧ x.length = N ∧ (∀ k, k < N → -1000 ≤ gv x k ∧ gv x k ≤ 1000) ∧ extV E v x = gv v 0 + M.dot (gv x) (gv (cornT N v (ordD x N) N)) N := by
  obtain ⟨h1, h2, h3⟩ := ext_ok h
  obtain ⟨N, rfl, hN, hl, _⟩ := isFn_true h1
  have hxl : x.length = N := by omega
  exact ⟨N, rfl, hN, hl, hxl, fun k hk => vecOk_gv h2 (by omega), (ext_dot h).1⟩
theorem ext_vec {E : Int} {v x z : List Int} (h : extOk E v x = true) (hz : z.length = x.length) (hb : ∀ k, k < z.length → -1000 ≤ gv z k ∧ gv z k ≤ 1000) : extOk E v z = true := by
  obtain ⟨h1, h2, h3⟩ := ext_ok h
  have h4 := (vecOk_true h2).1
  have h5 : allIn z (-1000) 1000 = true := allIn_of hb
  have h6 : ((z.length : Int) = E) := by rw [hz]; exact h3
  have h7 : z.length ≤ 5 := by omega
  simp [extOk, h1, h6, vecOk, h5, h7]
theorem conv_law {E : Int} {v x y : List Int} (h1 : extOk E v x = true) (h2 : extOk E v y = true) (h3 : subB E v = true) :
    (hunB x = true → hunB y = true → convB E v x y = true) ∧ extV E v (leastL x y) + extV E v (greatL x y) ≤ extV E v x + extV E v y := by
  obtain ⟨N, rfl, hN, hl, hxl, hxb, ex⟩ := ext_some h1
  obtain ⟨N', hNN, _, _, hyl, hyb, ey⟩ := ext_some h2
  obtain rfl : N = N' := by omega
  obtain ⟨N2, hN2, _, _, _, hf⟩ := sub_ok h3
  obtain rfl : N = N2 := by omega
  have o : ∀ z : List Int, M.Ord N (fun i => (gv (ordD z N) i).toNat) (seenN (ordD z N)) := fun z => ord_ord (ordD_ok z N)
  have cr : ∀ z : List Int, M.Corn (gv v) N (fun i => (gv (ordD z N) i).toNat) (seenN (ordD z N)) (gv (cornT N v (ordD z N) N)) := fun z => corn_corn (ordD_ok z N)
  have ds : ∀ z : List Int, ∀ i, i + 1 < N → gv z (gv (ordD z N) (i + 1)).toNat ≤ gv z (gv (ordD z N) i).toNat := fun z => desc_desc z N
  constructor
  · intro hx hy
    have hal : (addL x y).length = x.length := addL_len (by omega)
    have hag : ∀ k, k < N → gv (addL x y) k = gv x k + gv y k := fun k hk => gv_zip (f := (· + ·)) (by omega) (by omega)
    have hz : extOk N v (addL x y) = true := ext_vec h1 hal (fun k hk => by
      rw [hal] at hk
      rw [hag k (by omega)]
      have q1 := allIn_gv (v := x) (k := k) hk hx
      have q2 := allIn_gv (v := y) (k := k) (by omega) hy
      omega)
    obtain ⟨N3, hN3, _, _, _, _, ez⟩ := ext_some hz
    obtain rfl : N = N3 := by omega
    have := hf.convex (o x) (cr x) (ds x) (o y) (cr y) (ds y) (o (addL x y)) (cr (addL x y))
    rw [M.dot_congr (y := gv (addL x y)) (d := gv (cornT N v (ordD (addL x y) N) N)) (fun k hk => (hag k hk).symm) (fun _ _ => rfl)] at this
    have hd : extV N v (addL x y) + gv v 0 ≤ extV N v x + extV N v y := by rw [ex, ey, ez]; omega
    simp [convB, hx, hy, h1, h2, hz, hd]
  · have hp : pairOk x y = true := by
      obtain ⟨_, q1, _⟩ := ext_ok h1
      obtain ⟨_, q2, _⟩ := ext_ok h2
      simp [pairOk, q1, q2]; omega
    have eu : leastL x y = List.zipWith mn x y := by simp [leastL, hp]
    have ev : greatL x y = List.zipWith mx x y := by simp [greatL, hp]
    have ul : (leastL x y).length = x.length := by rw [eu]; simp; omega
    have vl : (greatL x y).length = x.length := by rw [ev]; simp; omega
    have ug : ∀ k, k < N → gv (leastL x y) k = min (gv x k) (gv y k) := fun k hk => by rw [eu, gv_zip (by omega) (by omega), mn_min]
    have vg : ∀ k, k < N → gv (greatL x y) k = max (gv x k) (gv y k) := fun k hk => by rw [ev, gv_zip (by omega) (by omega), mx_max]
    have hu : extOk N v (leastL x y) = true := ext_vec h1 ul (fun k hk => by
      rw [ug k (by omega)]
      have := hxb k (by omega)
      have := hyb k (by omega)
      omega)
    have hv : extOk N v (greatL x y) = true := ext_vec h1 vl (fun k hk => by
      rw [vg k (by omega)]
      have := hxb k (by omega)
      have := hyb k (by omega)
      omega)
    obtain ⟨N3, hN3, _, _, _, _, eeu⟩ := ext_some hu
    obtain rfl : N = N3 := by omega
    obtain ⟨N4, hN4, _, _, _, _, eev⟩ := ext_some hv
    obtain rfl : N = N4 := by omega
    have := hf.lattice (o x) (cr x) (ds x) (o y) (cr y) (ds y) (o (leastL x y)) (cr (leastL x y)) (ds (leastL x y)) (o (greatL x y)) (cr (greatL x y)) (ds (greatL x y)) ug vg 1000 (fun k hk => by have := hxb k hk; omega) (fun k hk => by have := hyb k hk; omega)
    rw [ex, ey, eeu, eev]
    omega
end Go.Proofs.Ytokeejachclpeaa
