/-
  Walks: is an extension convex at two vectors.
-/
import Derived.Test.YtokeejachclpeaaExt
import Derived.Test.YtokeejachclpeaaLeaM
namespace Go.Proofs.Ytokeejachclpeaa
open Go.RowKit

def addL (x y : List Int) : List Int := List.zipWith (· + ·) x y
theorem addL_len {x y : List Int} (h : x.length = y.length) : (addL x y).length = x.length := by simp [addL, h]
theorem addL_snoc {x y : List Int} {k : Nat} (hx : k < x.length) (hy : k < y.length) : (addL x y).take (k + 1) = (addL x y).take k ++ [gv x k + gv y k] := by
  have hl : k < (addL x y).length := by simp [addL]; omega
  rw [take_gv hl, gv_get hl, gv_get hx, gv_get hy]; simp [addL]
theorem extV_bd (E : Int) (v x : List Int) : -10001000 ≤ extV E v x ∧ extV E v x ≤ 10001000 := by
  unfold extV
  split
  · rename_i ho
    obtain ⟨hf, hk, hl⟩ := ext_ok ho
    obtain ⟨N, rfl, hN, hl2, ha⟩ := isFn_true hf
    have fo : FnOk N v.length v := ⟨hN, hl2, rfl, ha⟩
    have hx : x.length = N := by omega
    have h := prodT_bd (x := x) (y := cornT N v (ordD x x.length) x.length) (n := x.length) (fun j hj => vecOk_gv hk hj) (fun j hj =>
      cornT_bd fo (x := ordD x x.length) (by have := ordD_ok x x.length; rwa [hx] at this ⊢) x.length (by rw [ordD_len]; exact Nat.le_refl _) j (by omega)) x.length (Nat.le_refl _)
    have h2 := fo.bd (s := 0) (by rw [hl2]; exact Nat.two_pow_pos N)
    rw [Int.toNat_natCast]
    omega
  · omega
def hunB (x : List Int) : Bool := allIn x (-100) 100
def convB (E : Int) (v x y : List Int) : Bool := hunB x && (hunB y && (extOk E v x && (extOk E v y && (extOk E v (addL x y) && decide (extV E v (addL x y) + gv v 0 ≤ extV E v x + extV E v y)))))
theorem fb_set3 {w wr : World} {E : Int} {A : Option Addr} {n c : Nat} (h : FB w wr E A n c) {p : Addr} (hp : w.heap.size < p.block) (u : Value) : FB w (wr.setCell p u) E A n c := FB.set_ h hp u
set_option maxHeartbeats 4000000 in
theorem isConvexAt_any (E : Int) (A : Option Addr) (n c : Nat) (v : List Int) (A' : Option Addr) (m c' : Nat) (x : List Int) (A2 : Option Addr) (m2 c2 : Nat) (y : List Int) (w : World) (hv : Ints w A n v) (hx : Ints w A' m x) (hy : Ints w A2 m2 y) :
    Calls Try.prog 65 #[.agg #[.int .i64 E, .slice A n c], .slice A' m c', .slice A2 m2 c2] w fun e w' => e = .returned (.bool (convB E v x y)) ∧ Below w.heap.size w w' := by
  have hF0 := FB.start w E A n c
  obtain ⟨hbel0, hz0, r0, r1⟩ := hF0.parts
  have hxl := hide hx.len
  have hyl := hide hy.len
  have HH := hide (fun W (h : Below w.heap.size w W) => areWithin_any A' m c' x (-100) 100 W (hx.below h (Nat.le_refl _)))
  have HH2 := hide (fun W (h : Below w.heap.size w W) => areWithin_any A2 m2 c2 y (-100) 100 W (hy.below h (Nat.le_refl _)))
  have HX := hide (fun W (h : Below w.heap.size w W) => extensionAt_any E A n c v A' m c' x W (hv.below h (Nat.le_refl _)) (hx.below h (Nat.le_refl _)))
  have HY := hide (fun W (h : Below w.heap.size w W) => extensionAt_any E A n c v A2 m2 c2 y W (hv.below h (Nat.le_refl _)) (hy.below h (Nat.le_refl _)))
  cases h1 : allIn x (-100) 100
  · have e0 : convB E v x y = false := by simp [convB, hunB, h1]
    rw [e0]; clear e0
    rw [h1] at HH
    go_enter Try.func65, Try.ntmps65
    go_wp2_with fail
    refine (HH.out _ hbel0).mono ?_
    rintro e w1 ⟨rfl, rfl⟩
    go_wp2
    go_ret
    exact ⟨rfl, hbel0⟩
  cases h2 : allIn y (-100) 100
  · have e0 : convB E v x y = false := by simp [convB, hunB, h2]
    rw [e0]; clear e0
    rw [h1] at HH
    rw [h2] at HH2
    clear h1 h2
    go_enter Try.func65, Try.ntmps65
    go_wp2_with fail
    refine (HH.out _ hbel0).mono ?_
    rintro e w1 ⟨rfl, rfl⟩
    go_wp2_with fail
    refine (HH2.out _ hbel0).mono ?_
    rintro e w1 ⟨rfl, rfl⟩
    go_wp2
    go_ret
    exact ⟨rfl, hbel0⟩
  rw [h1] at HH
  rw [h2] at HH2
  cases h3 : extOk E v x
  · have e0 : convB E v x y = false := by simp [convB, h3]
    rw [e0]; clear e0
    rw [h3] at HX
    clear h1 h2 h3
    go_enter Try.func65, Try.ntmps65
    go_wp2_with fail
    refine (HH.out _ hbel0).mono ?_
    rintro e w1 ⟨rfl, rfl⟩
    go_wp2_with fail
    refine (HH2.out _ hbel0).mono ?_
    rintro e w1 ⟨rfl, rfl⟩
    go_wp2_with fail
    refine (HX.out _ hbel0).mono ?_
    rintro e w2 ⟨rfl, hb2⟩
    have hF2 := hF0.step hb2
    clear r0 r1
    obtain ⟨hbel2, hz2, r0, r1⟩ := hF2.parts
    go_wp2_with fail
    refine (HY.out _ hbel2).mono ?_
    rintro e w3 ⟨rfl, hb3⟩
    go_wp2
    go_ret
    exact ⟨rfl, (hF2.step hb3).1⟩
  cases h4 : extOk E v y
  · have e0 : convB E v x y = false := by simp [convB, h4]
    rw [e0]; clear e0
    rw [h3] at HX
    rw [h4] at HY
    clear h1 h2 h3 h4
    go_enter Try.func65, Try.ntmps65
    go_wp2_with fail
    refine (HH.out _ hbel0).mono ?_
    rintro e w1 ⟨rfl, rfl⟩
    go_wp2_with fail
    refine (HH2.out _ hbel0).mono ?_
    rintro e w1 ⟨rfl, rfl⟩
    go_wp2_with fail
    refine (HX.out _ hbel0).mono ?_
    rintro e w2 ⟨rfl, hb2⟩
    have hF2 := hF0.step hb2
    clear r0 r1
    obtain ⟨hbel2, hz2, r0, r1⟩ := hF2.parts
    go_wp2_with fail
    refine (HY.out _ hbel2).mono ?_
    rintro e w3 ⟨rfl, hb3⟩
    go_wp2
    go_ret
    exact ⟨rfl, (hF2.step hb3).1⟩
  rw [h3] at HX
  rw [h4] at HY
  obtain ⟨hf, hk, hl⟩ := ext_ok h3
  obtain ⟨_, hk2, hl2⟩ := ext_ok h4
  obtain ⟨N, rfl, fo⟩ := FnOk.of hf hv
  have hm2 : m2 = m := by have := hxl.out; have := hyl.out; omega
  subst hm2
  have e0 : convB N v x y = (extOk N v (addL x y) && decide (extV N v (addL x y) + gv v 0 ≤ extV N v x + extV N v y)) := by simp [convB, hunB, h1, h2, h3, h4]
  rw [e0]; clear e0
  have hm5 : m2 ≤ 5 := by have := fo.hN; have := hxl.out; omega
  have HB1 := hide (fun j (hj : j < m2) => vecOk_gv hk (k := j) (by rw [hxl.out]; exact hj))
  have HB2 := hide (fun j (hj : j < m2) => vecOk_gv hk2 (k := j) (by rw [hyl.out]; exact hj))
  have HS := hide (fun k (hk : k < m2) => addL_snoc (x := x) (y := y) (k := k) (by rw [hxl.out]; exact hk) (by rw [hyl.out]; exact hk))
  have hzl := hide (show (addL x y).length = m2 by rw [addL_len (by rw [hxl.out, hyl.out]), hxl.out])
  have HZ := hide (fun W (h : Below w.heap.size w W) (B : Option Addr) (cr : Nat) (hB : Ints W B m2 (addL x y)) => extensionAt_any N A n c v B m2 cr (addL x y) W (hv.below h (Nat.le_refl _)) hB)
  have b1 := extV_bd N v x
  have b2 := extV_bd N v y
  have b3 := extV_bd N v (addL x y)
  have hv0 := fo.bd fo.n0
  obtain ⟨b, off, rfl, hbb, hcc⟩ := hv.all_ fo.n0
  have hc0 := hcc 0 fo.n0
  rw [Nat.add_zero] at hc0
  have n0 := fo.n0
  have i0 : (0 : Int) < (n : Int) := by omega
  have hmk := fun W => make_ints m2 (by omega) W
  clear hcc h1 h2 h3 h4 hf hk hl hk2 hl2
  generalize addL x y = z at *
  generalize extV N v x = X at *
  generalize extV N v y = Y at *
  generalize extV N v z = Z at *
  have t1 : wrap64 (Z + gv v 0) = Z + gv v 0 := IntWalk.wrap64_in _ (by omega)
  have t2 : wrap64 (X + Y) = X + Y := IntWalk.wrap64_in _ (by omega)
  go_enter Try.func65, Try.ntmps65
  go_wp2_with fail
  refine (HH.out _ hbel0).mono ?_
  rintro e w1 ⟨rfl, rfl⟩
  go_wp2_with fail
  refine (HH2.out _ hbel0).mono ?_
  rintro e w1 ⟨rfl, rfl⟩
  go_wp2_with fail
  refine (HX.out _ hbel0).mono ?_
  rintro e w2 ⟨rfl, hb2⟩
  have hF2 := hF0.step hb2
  clear r0 r1
  obtain ⟨hbel2, hz2, r0, r1⟩ := hF2.parts
  go_wp2_with fail
  refine (HY.out _ hbel2).mono ?_
  rintro e w3 ⟨rfl, hb3⟩
  have hF3 := hF2.step hb3
  clear r0 r1
  obtain ⟨hbel3, hz3, r0, r1⟩ := hF3.parts
  have hO := own_made m2 (by omega) w3 (B := w.heap.size + 1) hz3
  have hF4 := hF3.step ((Below.refl w3.heap.size w3).alloc (Nat.le_refl _) (.cells (madeCells #[.int .i64 0] m2) 3))
  go_wp2
  clear r0 r1
  go_loopw [45] (fun t wr => ∃ (k : Nat) (zs : List Int), k ≤ m2 ∧ t = .int .i64 k ∧ Own wr (w.heap.size + 1) (some ⟨w3.heap.size, 0, none⟩) m2 m2 zs ∧ zs.take k = z.take k ∧ FB w wr N (some ⟨b, off, none⟩) n c) (fun t _ => m2 - (intOf t).toNat)
  case atStart => exact ⟨0, _, Nat.zero_le _, rfl, hO, rfl, hF4⟩
  clear hO hF4
  case round =>
    obtain ⟨k, zs, hk, rfl, hown, htake, hFBr⟩ := hrel
    obtain ⟨hbelr, hzr, r0, r1⟩ := hFBr.parts
    have Ht := hide htake; clear htake
    have hzsl := hide hown.len
    by_cases hlt : k < m2
    · obtain ⟨b2', off2, rfl, hbx, hcx⟩ := hx.at_ hlt
      obtain ⟨b3', off3, rfl, hby, hcy⟩ := hy.at_ hlt
      have c1 : wr.cell? ⟨b2', off2 + k, none⟩ = some (.int .i64 (gv x k)) := (hbelr.cell (p := ⟨b2', off2 + k, none⟩) hbx).trans hcx
      have c2' : wr.cell? ⟨b3', off3 + k, none⟩ = some (.int .i64 (gv y k)) := (hbelr.cell (p := ⟨b3', off3 + k, none⟩) hby).trans hcy
      have d1 := hown.cell hlt
      have d2 := hown.frozen k
      have q1 := HB1.out k hlt
      have q2 := HB2.out k hlt
      have i1 : (0 : Int) ≤ (k : Int) := by omega
      have i2 : (k : Int) < (m2 : Int) := by omega
      have u1 : IntKind.i64.wrap (gv x k + gv y k) = gv x k + gv y k := IntWalk.i64_in _ (by omega)
      have ht2 := hide (take_set_snoc (zs := zs) (k := k) (u := gv x k + gv y k) (by rw [hzsl.out]; exact hlt) Ht.out)
      rw [← HS.out k hlt] at ht2
      clear hcx hcy
      go_wp2
      go_region
      all_goals
        go_wp2
        go_roundw
        case rel => exact ⟨k + 1, zs.set k (gv x k + gv y k), by omega, by go_num, hown.set_ k _, ht2.out, fb_set3 hFBr.drew (p := ⟨w3.heap.size, k, none⟩) hz3 _⟩
        case measure => simp [intOf]; omega
    · obtain rfl : k = m2 := by omega
      have ez : zs = z := by
        have := Ht.out
        rwa [List.take_of_length_le (by rw [hzsl.out]; exact Nat.le_refl _), List.take_of_length_le (by rw [hzl.out]; exact Nat.le_refl _)] at this
      rw [ez] at hown
      clear ez hmk
      have HZ1 := hide (HZ.out wr hbelr _ k hown.ints)
      cases hzo : extOk N v z
      · have Hzo := hide hzo
        rw [hzo] at HZ1
        clear hzo
        go_wp2_with fail
        refine HZ1.out.mono ?_
        rintro e w5 ⟨rfl, hb5⟩
        go_wp2
        go_ret
        exact ⟨ret_bool (by rw [Hzo.out]; rfl), (hFBr.step hb5).1⟩
      · have Hzo := hide hzo
        rw [hzo] at HZ1
        clear hzo
        go_wp2_with fail
        refine HZ1.out.mono ?_
        rintro e w5 ⟨rfl, hb5⟩
        have hF5 := hFBr.step hb5
        clear r0 r1
        obtain ⟨hbel5, hz5, r0, r1⟩ := hF5.parts
        have d0 : w5.cell? ⟨b, off, none⟩ = some (.int .i64 (gv v 0)) := (hbel5.cell (p := ⟨b, off, none⟩) hbb).trans hc0
        go_wp2
        go_ret
        exact ⟨ret_bool (by rw [Hzo.out, Bool.true_and]), hbel5⟩
set_option maxHeartbeats 4000000 in
theorem specIsConvexAt_any (E : Int) (A : Option Addr) (n c : Nat) (v : List Int) (A' : Option Addr) (m c' : Nat) (x : List Int) (A2 : Option Addr) (m2 c2 : Nat) (y : List Int) (w : World) (hv : Ints w A n v) (hx : Ints w A' m x) (hy : Ints w A2 m2 y) :
    Calls Try.prog 66 #[.agg #[.int .i64 E, .slice A n c], .slice A' m c', .slice A2 m2 c2] w fun e w' => e = .returned (.bool (convB E v x y)) ∧ Below w.heap.size w w' := by
  have hFs := FB.start w E A n c
  have hF0 := hFs.step ((Below.refl _ _).alloc (Nat.le_refl _) (.cells #[] 3))
  obtain ⟨hbel0, hz0, r0, r1⟩ := hF0.parts
  have hO0 := own_zero (w := w.alloc (.cells #[.int .i64 E, .slice A n c] 26)) (B := w.heap.size + 1) (by simp)
  have z1 : (w.alloc (.cells #[.int .i64 E, .slice A n c] 26)).heap.size = w.heap.size + 1 := by simp
  rw [z1] at hO0
  clear hFs z1
  have hxl := hide hx.len
  have hyl := hide hy.len
  have hle := hx.le
  have HP := hide (fun W (h : Below w.heap.size w W) => l7Fit_any A' A2 m c' m2 c2 x y W (hx.below h (Nat.le_refl _)) (hy.below h (Nat.le_refl _)))
  have HX := hide (fun W (h : Below w.heap.size w W) => specExtensionAt_any E A n c v A' m c' x W (hv.below h (Nat.le_refl _)) (hx.below h (Nat.le_refl _)))
  have HY := hide (fun W (h : Below w.heap.size w W) => specExtensionAt_any E A n c v A2 m2 c2 y W (hv.below h (Nat.le_refl _)) (hy.below h (Nat.le_refl _)))
  have HZ := hide (fun W (h : Below w.heap.size w W) (B : Option Addr) (r cr : Nat) (zs : List Int) (hB : Ints W B r zs) => specExtensionAt_any E A n c v B r cr zs W (hv.below h (Nat.le_refl _)) hB)
  cases hp : pairOk x y
  · rw [hp] at HP
    have hno : extOk E v x = true → extOk E v y = true → False := by
      intro h3 h4
      obtain ⟨_, hk, hl⟩ := ext_ok h3
      obtain ⟨_, hk2, hl2⟩ := ext_ok h4
      have : pairOk x y = true := by simp [pairOk, hk, hk2]; omega
      rw [hp] at this; cases this
    have e0 : convB E v x y = false := by
      cases h3 : extOk E v x
      · simp [convB, h3]
      cases h4 : extOk E v y
      · simp [convB, h4]
      exact (hno h3 h4).elim
    rw [e0]; clear e0
    have Hno := hide hno
    clear hno hp
    go_enter Try.func66, Try.ntmps66
    go_wp2
    clear r0 r1
    go_loopw [7, 8] (fun l t wr => l = .slice (some ⟨w.heap.size + 1, 0, none⟩) 0 0 ∧ t = .int .i64 0 ∧ Own wr (w.heap.size + 1) (some ⟨w.heap.size + 1, 0, none⟩) 0 0 [] ∧ FB w wr E A n c) (fun _ _ _ => 0)
    case atStart => exact ⟨rfl, rfl, hO0, hF0⟩
    clear hO0 hF0
    case round =>
      obtain ⟨rfl, rfl, hown, hFBr⟩ := hrel
      obtain ⟨hbelr, hzr, r0, r1⟩ := hFBr.parts
      have HZ1 := hide (fun W (hb : Below wr.heap.size wr W) => HZ.out W (hFBr.step hb).1 _ 0 0 [] (hown.below hb (Nat.le_refl _)).ints)
      cases h3 : extOk E v x
      all_goals cases h4 : extOk E v y
      case true.true => exact (Hno.out h3 h4).elim
      all_goals
        rw [h3] at HX
        rw [h4] at HY
        by_cases h0 : 0 < m
        · go_wp2_with fail
          refine (HP.out _ hbelr).mono ?_
          rintro e w' ⟨rfl, rfl⟩
          go_wp2_with fail
          refine (HX.out _ hbelr).mono ?_
          rintro e w2 ⟨rfl, hb2⟩
          have hF2 := hFBr.step hb2
          clear r0 r1
          obtain ⟨hbel2, hz2, r0, r1⟩ := hF2.parts
          go_wp2_with fail
          refine (HY.out _ hbel2).mono ?_
          rintro e w3 ⟨rfl, hb3⟩
          have hF3 := hF2.step hb3
          clear r0 r1
          obtain ⟨hbel3, hz3, r0, r1⟩ := hF3.parts
          go_wp2_with fail
          refine (HZ1.out _ (hb2.trans (hb3.mono hb2.size))).mono ?_
          rintro e w4 ⟨rfl, hb4⟩
          go_wp2
          go_ret
          exact ⟨rfl, (hF3.step hb4).1⟩
        · obtain rfl : m = 0 := by omega
          go_wp2_with fail
          refine (HX.out _ hbelr).mono ?_
          rintro e w2 ⟨rfl, hb2⟩
          have hF2 := hFBr.step hb2
          clear r0 r1
          obtain ⟨hbel2, hz2, r0, r1⟩ := hF2.parts
          go_wp2_with fail
          refine (HY.out _ hbel2).mono ?_
          rintro e w3 ⟨rfl, hb3⟩
          have hF3 := hF2.step hb3
          clear r0 r1
          obtain ⟨hbel3, hz3, r0, r1⟩ := hF3.parts
          go_wp2_with fail
          refine (HZ1.out _ (hb2.trans (hb3.mono hb2.size))).mono ?_
          rintro e w4 ⟨rfl, hb4⟩
          go_wp2
          go_ret
          exact ⟨rfl, (hF3.step hb4).1⟩
  rw [hp] at HP
  have hpp : vecOk 1000 x = true ∧ vecOk 1000 y = true ∧ x.length = y.length := by
    simp only [pairOk, Bool.and_eq_true, decide_eq_true_eq] at hp
    exact ⟨hp.1, hp.2.1, by omega⟩
  obtain ⟨hk, hk2, hll⟩ := hpp
  have hm2 : m2 = m := by have := hxl.out; have := hyl.out; omega
  subst hm2
  have hm5 : m2 ≤ 5 := by have := (vecOk_true hk).1; have := hxl.out; omega
  have HB1 := hide (fun j (hj : j < m2) => vecOk_gv hk (k := j) (by rw [hxl.out]; exact hj))
  have HB2 := hide (fun j (hj : j < m2) => vecOk_gv hk2 (k := j) (by rw [hyl.out]; exact hj))
  have HS := hide (fun k (hk : k < m2) => addL_snoc (x := x) (y := y) (k := k) (by rw [hxl.out]; exact hk) (by rw [hyl.out]; exact hk))
  have hzl := hide (show (addL x y).length = m2 by rw [addL_len hll, hxl.out])
  have b1 := extV_bd E v x
  have b2 := extV_bd E v y
  have b3 := extV_bd E v (addL x y)
  clear hp hk hk2 hll
  go_enter Try.func66, Try.ntmps66
  go_wp2
  clear r0 r1
  go_loopw [7, 8] (fun l t wr => ∃ (k : Nat) (B : Option Addr) (cr : Nat), k ≤ m2 ∧ t = .int .i64 k ∧ l = .slice B k cr ∧ Own wr (w.heap.size + 1) B k cr ((addL x y).take k) ∧ allIn (x.take k) (-100) 100 = true ∧ allIn (y.take k) (-100) 100 = true ∧ FB w wr E A n c) (fun _ t _ => m2 - (intOf t).toNat)
  case atStart => exact ⟨0, _, 0, Nat.zero_le _, rfl, rfl, hO0, rfl, rfl, hF0⟩
  clear hO0 hF0
  case round =>
    obtain ⟨k, B, cr, hk, rfl, rfl, hown, ha1, ha2, hFBr⟩ := hrel
    obtain ⟨hbelr, hzr, r0, r1⟩ := hFBr.parts
    have Ha1 := hide ha1
    have Ha2 := hide ha2
    clear ha1 ha2
    by_cases hlt : k < m2
    · obtain ⟨b2', off2, rfl, hbx, hcx⟩ := hx.at_ hlt
      obtain ⟨b3', off3, rfl, hby, hcy⟩ := hy.at_ hlt
      have c1 : wr.cell? ⟨b2', off2 + k, none⟩ = some (.int .i64 (gv x k)) := (hbelr.cell (p := ⟨b2', off2 + k, none⟩) hbx).trans hcx
      have c2' : wr.cell? ⟨b3', off3 + k, none⟩ = some (.int .i64 (gv y k)) := (hbelr.cell (p := ⟨b3', off3 + k, none⟩) hby).trans hcy
      have hbx2 : b2' < wr.heap.size := Nat.lt_of_lt_of_le hbx hbelr.size
      have hby2 : b3' < wr.heap.size := Nat.lt_of_lt_of_le hby hbelr.size
      have hbx3 : b2' < w.heap.size + 1 := by omega
      have hby3 : b3' < w.heap.size + 1 := by omega
      have q1 := HB1.out k hlt
      have q2 := HB2.out k hlt
      have i1 : (0 : Int) ≤ (k : Int) := by omega
      have i2 : (k : Int) < (m2 : Int) := by omega
      have u1 : IntKind.i64.wrap (gv x k + gv y k) = gv x k + gv y k := IntWalk.i64_in _ (by omega)
      clear hcx hcy
      cases h5 : inR (gv x k) (-100) 100
      · have e0 := hide (show convB E v x y = false by
          have : allIn x (-100) 100 = false := allIn_false (k := k) (by rw [hxl.out]; exact hlt) h5
          simp [convB, hunB, this])
        go_wp2_with fail
        refine (HP.out _ hbelr).mono ?_
        rintro e w' ⟨rfl, rfl⟩
        go_wp2_with fail
        refine (l1In_any _ _ _ _).mono ?_
        rintro e w' ⟨rfl, rfl⟩
        rw [h5]
        go_wp2
        go_ret
        exact ⟨ret_bool e0.out.symm, hbelr⟩
      cases h6 : inR (gv y k) (-100) 100
      · have e0 := hide (show convB E v x y = false by
          have : allIn y (-100) 100 = false := allIn_false (k := k) (by rw [hyl.out]; exact hlt) h6
          simp [convB, hunB, this])
        go_wp2_with fail
        refine (HP.out _ hbelr).mono ?_
        rintro e w' ⟨rfl, rfl⟩
        go_wp2_with fail
        refine (l1In_any _ _ _ _).mono ?_
        rintro e w' ⟨rfl, rfl⟩
        rw [h5]
        go_wp2_with fail
        refine (l1In_any _ _ _ _).mono ?_
        rintro e w' ⟨rfl, rfl⟩
        rw [h6]
        go_wp2
        go_ret
        exact ⟨ret_bool e0.out.symm, hbelr⟩
      have hn1 := hide (show allIn (x.take (k + 1)) (-100) 100 = true by rw [allIn_snoc (by rw [hxl.out]; exact hlt), Ha1.out, h5]; rfl)
      have hn2 := hide (show allIn (y.take (k + 1)) (-100) 100 = true by rw [allIn_snoc (by rw [hyl.out]; exact hlt), Ha2.out, h6]; rfl)
      have hs := hide (HS.out k hlt)
      go_wp2_with fail
      refine (HP.out _ hbelr).mono ?_
      rintro e w' ⟨rfl, rfl⟩
      go_wp2_with fail
      refine (l1In_any _ _ _ _).mono ?_
      rintro e w' ⟨rfl, rfl⟩
      rw [h5]
      go_wp2_with fail
      refine (l1In_any _ _ _ _).mono ?_
      rintro e w' ⟨rfl, rfl⟩
      rw [h6]
      go_wp2
      go_region_held3 (fun w' => w'.cell? ⟨b2', off2 + k, none⟩ = some (.int .i64 (gv x k)) ∧ w'.cell? ⟨b3', off3 + k, none⟩ = some (.int .i64 (gv y k)))
        (first
          | go_keep
          | exact ⟨app_keep hown hgrow rfl hbx3 hbx2 c1, app_keep hown hgrow rfl hby3 hby2 c2'⟩)
        (first
          | (refine step_app (by rfl) _ _ (by rfl) (w.heap.size + 1) B k cr wr.heap.size ((addL x y).take k) (gv x k + gv y k) (by rfl) (by rfl) (hown.alloc _) (cell_new wr _) (by omega) (by simp; omega) ?_; intro g cap w1 hown1 hgrow hat hlt1))
      go_wp2
      go_roundw
      case rel => exact ⟨k + 1, _, cap, by omega, by go_num, rfl, by rw [hs.out]; exact hown1, hn1.out, hn2.out, app_FB hFBr hown hgrow (Below.refl _ _).drew rfl⟩
      case measure => simp [intOf]; omega
    · obtain rfl : k = m2 := by omega
      have hx1 : allIn x (-100) 100 = true := by have h := Ha1.out; rwa [List.take_of_length_le (by rw [hxl.out]; exact Nat.le_refl _)] at h
      have hy1 : allIn y (-100) 100 = true := by have h := Ha2.out; rwa [List.take_of_length_le (by rw [hyl.out]; exact Nat.le_refl _)] at h
      rw [List.take_of_length_le (by rw [hzl.out]; exact Nat.le_refl _)] at hown
      have E0 := hide (show convB E v x y = (extOk E v x && (extOk E v y && (extOk E v (addL x y) && decide (extV E v (addL x y) + gv v 0 ≤ extV E v x + extV E v y)))) by simp [convB, hunB, hx1, hy1])
      clear hx1 hy1
      have HZ1 := hide (fun W (hb : Below wr.heap.size wr W) => HZ.out W (hFBr.step hb).1 B k cr (addL x y) (hown.below hb (Nat.le_refl _)).ints)
      cases h3 : (extOk E v x && (extOk E v y && extOk E v (addL x y)))
      · have e0 := hide (show convB E v x y = false by
          rw [E0.out]
          cases h7 : extOk E v x
          · rfl
          cases h8 : extOk E v y
          · rfl
          cases h9 : extOk E v (addL x y)
          · rfl
          · rw [h7, h8, h9] at h3; cases h3)
        cases h7 : extOk E v x
        all_goals cases h8 : extOk E v y
        all_goals cases h9 : extOk E v (addL x y)
        case true.true.true => rw [h7, h8, h9] at h3; cases h3
        all_goals
          rw [h7] at HX
          rw [h8] at HY
          rw [h9] at HZ1
          go_wp2_with fail
          refine (HX.out _ hbelr).mono ?_
          rintro e w2 ⟨rfl, hb2⟩
          have hF2 := hFBr.step hb2
          clear r0 r1
          obtain ⟨hbel2, hz2, r0, r1⟩ := hF2.parts
          go_wp2_with fail
          refine (HY.out _ hbel2).mono ?_
          rintro e w3 ⟨rfl, hb3⟩
          have hF3 := hF2.step hb3
          clear r0 r1
          obtain ⟨hbel3, hz3, r0, r1⟩ := hF3.parts
          go_wp2_with fail
          refine (HZ1.out _ (hb2.trans (hb3.mono hb2.size))).mono ?_
          rintro e w4 ⟨rfl, hb4⟩
          go_wp2
          go_ret
          exact ⟨ret_bool e0.out.symm, (hF3.step hb4).1⟩
      · simp only [Bool.and_eq_true] at h3
        obtain ⟨h7, h8, h9⟩ := h3
        have hf := (ext_ok h7).1
        have e0 := hide (show convB E v x y = decide (extV E v (addL x y) + gv v 0 ≤ extV E v x + extV E v y) by rw [E0.out, h7, h8, h9]; rfl)
        rw [h7] at HX
        rw [h8] at HY
        rw [h9] at HZ1
        obtain ⟨N, rfl, fo⟩ := FnOk.of hf hv
        have hv0 := fo.bd fo.n0
        have n0 := fo.n0
        obtain ⟨b, off, rfl, hbb, hcc⟩ := hv.all_ fo.n0
        have hc0 := hcc 0 fo.n0
        rw [Nat.add_zero] at hc0
        have i0 : (0 : Int) < (n : Int) := by omega
        clear hcc hf h7 h8 h9 E0
        generalize addL x y = z at *
        generalize extV N v x = X at *
        generalize extV N v y = Y at *
        generalize extV N v z = Z at *
        have t1 : wrap64 (Z + gv v 0) = Z + gv v 0 := IntWalk.wrap64_in _ (by omega)
        have t2 : wrap64 (X + Y) = X + Y := IntWalk.wrap64_in _ (by omega)
        go_wp2_with fail
        refine (HX.out _ hbelr).mono ?_
        rintro e w2 ⟨rfl, hb2⟩
        have hF2 := hFBr.step hb2
        clear r0 r1
        obtain ⟨hbel2, hz2, r0, r1⟩ := hF2.parts
        go_wp2_with fail
        refine (HY.out _ hbel2).mono ?_
        rintro e w3 ⟨rfl, hb3⟩
        have hF3 := hF2.step hb3
        clear r0 r1
        obtain ⟨hbel3, hz3, r0, r1⟩ := hF3.parts
        go_wp2_with fail
        refine (HZ1.out _ (hb2.trans (hb3.mono hb2.size))).mono ?_
        rintro e w4 ⟨rfl, hb4⟩
        have hF4 := hF3.step hb4
        clear r0 r1
        obtain ⟨hbel4, hz4, r0, r1⟩ := hF4.parts
        have d0 : w4.cell? ⟨b, off, none⟩ = some (.int .i64 (gv v 0)) := (hbel4.cell (p := ⟨b, off, none⟩) hbb).trans hc0
        go_wp2
        go_ret
        exact ⟨ret_bool (by rw [e0.out]), hbel4⟩
end Go.Proofs.Ytokeejachclpeaa
