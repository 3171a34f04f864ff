/-
  Walks: values of extensions.
-/
import Derived.Test.YtokeejachclpeaaOrdM
import Derived.Test.YtokeejachclpeaaCorner
import Derived.Test.YtokeejachclpeaaLinM
namespace Go.Proofs.Ytokeejachclpeaa
open Go.RowKit

def extOk (E : Int) (v x : List Int) : Bool := isFn E v && (vecOk 1000 x && decide ((x.length : Int) = E))
/-- The value at x: the value of the empty set and the pairing of x with the corner of its order. -/
def extV (E : Int) (v x : List Int) : Int := if extOk E v x then gv v 0 + prodT x (cornT E.toNat v (ordD x x.length) x.length) x.length else 0
/-- What the first k elements of the order bring. -/
def extT (v x o : List Int) : Nat → Int
  | 0 => gv v 0
  | k + 1 => extT v x o k + gv x (gv o k).toNat * gainN v (seenN o k) (gv o k).toNat
theorem ext_ok {E : Int} {v x : List Int} (h : extOk E v x = true) : isFn E v = true ∧ vecOk 1000 x = true ∧ (x.length : Int) = E := by
  simp only [extOk, Bool.and_eq_true, decide_eq_true_eq] at h
  exact h
theorem prodT_congr {x y z : List Int} : ∀ k, (∀ j, j < k → gv y j = gv z j) → prodT x y k = prodT x z k
  | 0, _ => rfl
  | k + 1, h => by
    simp only [prodT, prodT_congr k (fun j hj => h j (by omega)), h k (by omega)]
/-- The sum of products, an entry turned. -/
theorem prodT_set {x L : List Int} {e : Nat} {u : Int} (he : e < L.length) : ∀ k, k ≤ L.length → prodT x (L.set e u) k = prodT x L k + (if e < k then gv x e * (u - gv L e) else 0)
  | 0, _ => by simp [prodT]
  | k + 1, hk => by
    have ih := prodT_set (x := x) (u := u) he k (by omega)
    simp only [prodT, ih, gv_set2 (L := L) (e := e) (u := u) (show k < L.length by omega)]
    by_cases h1 : e = k
    · subst h1
      simp [Int.mul_sub]
      omega
    · by_cases h2 : e < k
      · have h3 : e < k + 1 := by omega
        simp only [h1, h2, h3, if_true, if_false]
        omega
      · have h3 : ¬ e < k + 1 := by omega
        simp only [h1, h2, h3, if_false]
        omega
/-- An entry that was not yet set is 0. -/
theorem corn_zero {N : Nat} {v o : List Int} (ho : ordB N o = true) : ∀ k, k ≤ o.length → ∀ j, j < N → hasB (seenN o k) j = false → gv (cornT N v o k) j = 0
  | 0, _, j, hj, _ => by rw [gv_get (by simp [cornT]; exact hj)]; simp [cornT]
  | k + 1, hk, j, hj, hh => by
    obtain ⟨e, he, heN, hs⟩ := ord_elem ho (k := k) (by omega)
    rw [hs] at hh
    simp only [hasB, insN, Nat.testBit_or, Bool.or_eq_false_iff] at hh
    have hne : e ≠ j := by
      rintro rfl
      have := hh.2
      rw [Nat.testBit_two_pow_self] at this
      cases this
    have ih := corn_zero (v := v) ho k (by omega) j hj hh.1
    simp only [cornT, he, Int.toNat_natCast]
    rw [gv_set2 (by rw [cornT_len]; exact hj), if_neg hne]
    exact ih
theorem ord_fresh {N : Nat} {o : List Int} (ho : ordB N o = true) {k : Nat} (hk : k < o.length) : hasB (seenN o k) (gv o k).toNat = false := by
  simp only [ordB, Bool.and_eq_true] at ho
  have h2 := ordT_le (k := k + 1) (by omega) ho.2
  simp only [ordT, Bool.and_eq_true] at h2
  simpa using h2.2.2
theorem ext_eq {N : Nat} {v x o : List Int} (ho : ordB N o = true) : ∀ k, k ≤ o.length → extT v x o k = gv v 0 + prodT x (cornT N v o k) N
  | 0, _ => by
    have h0 : ∀ k, k ≤ N → prodT x (List.replicate N 0) k = 0 := by
      intro k
      induction k with
      | zero => intro _; rfl
      | succ k ih =>
        intro hk
        simp only [prodT, ih (by omega)]
        rw [show gv (List.replicate N (0 : Int)) k = 0 by rw [gv_get (by simp; omega)]; simp]
        simp
    simp only [extT, cornT, h0 N (Nat.le_refl _)]
    omega
  | k + 1, hk => by
    have ih := ext_eq (v := v) (x := x) ho k (by omega)
    obtain ⟨e, he, heN, _⟩ := ord_elem ho (k := k) (by omega)
    have hf := ord_fresh ho (k := k) (by omega)
    rw [he, Int.toNat_natCast] at hf
    have hz := corn_zero (v := v) ho k (by omega) e heN hf
    simp only [extT, cornT, he, Int.toNat_natCast]
    rw [prodT_set (by rw [cornT_len]; exact heN) N (by rw [cornT_len]; exact Nat.le_refl _), if_pos heN, hz, ih]
    rw [Int.sub_zero]
    omega
set_option maxHeartbeats 1000000 in
theorem extensionAt_any (E : Int) (A : Option Addr) (n c : Nat) (v : List Int) (A' : Option Addr) (m c' : Nat) (x : List Int) (w : World) (hv : Ints w A n v) (hx : Ints w A' m x) :
    Calls Try.prog 60 #[.agg #[.int .i64 E, .slice A n c], .slice A' m c'] w fun e w' => e = .returned (.tuple #[.int .i64 (extV E v x), .bool (extOk E v x)]) ∧ Below w.heap.size w w' := by
  have hF0 := FB.start w E A n c
  obtain ⟨hbel0, hz0, r0, r1⟩ := hF0.parts
  have hcall := isFunction_any E A n c v _ (hv.below hbel0 (Nat.le_refl _))
  have HV := hide (fun W (h : Below w.heap.size w W) => isVectorFor_any E A A' n c m c' x W (hx.below h (Nat.le_refl _)))
  cases hf : isFn E v
  · have e0 : extOk E v x = false := by simp [extOk, hf]
    have e1 : extV E v x = 0 := by simp [extV, e0]
    rw [e0, e1]; clear e0 e1
    rw [hf] at hcall
    have HC := hide hcall; clear hcall
    go_enter Try.func60, Try.ntmps60
    go_wp2_with fail
    refine HC.out.mono ?_
    rintro e w1 ⟨rfl, hb1⟩
    go_wp2
    go_ret2
    exact ⟨rfl, (hF0.step hb1).1⟩
  rw [hf] at hcall
  have HC := hide hcall; clear hcall
  cases ho : (vecOk 1000 x && decide ((x.length : Int) = E))
  · have e0 : extOk E v x = false := by simp only [extOk, ho, Bool.and_false]
    have e1 : extV E v x = 0 := by simp [extV, e0]
    rw [e0, e1]; clear e0 e1
    rw [ho] at HV
    clear ho hf
    go_enter Try.func60, Try.ntmps60
    go_wp2_with fail
    refine HC.out.mono ?_
    rintro e w1 ⟨rfl, hb1⟩
    have hF1 := hF0.step hb1
    clear r0 r1
    obtain ⟨hbel1, hz1, r0, r1⟩ := hF1.parts
    go_wp2_with fail
    refine (HV.out _ hbel1).mono ?_
    rintro e w2 ⟨rfl, hb2⟩
    go_wp2
    go_ret2
    exact ⟨rfl, (hF1.step hb2).1⟩
  rw [ho] at HV
  have hok : extOk E v x = true := by simp only [extOk, hf, ho, Bool.and_self]
  obtain ⟨_, hk, hl⟩ := ext_ok hok
  have hxl := hx.len
  obtain ⟨N, rfl, fo⟩ := FnOk.of hf hv
  have hmN : m = N := by omega
  subst hmN
  have e1 : extV m v x = gv v 0 + prodT x (cornT m v (ordD x m) m) m := by simp [extV, hok, hxl]
  rw [hok, e1]; clear e1
  have HD := hide (fun W (h : Below w.heap.size w W) => descending_any A' m c' x W (hx.below h (Nat.le_refl _)) hk)
  have HO := hide (fun W (h : Below w.heap.size w W) (B : Option Addr) (cr : Nat) (hB : Ints W B m (ordD x m)) => corner_any m A n c v B m cr (ordD x m) W (hv.below h (Nat.le_refl _)) hB hf (ordD_ok x m))
  have HBD := cornT_bd fo (ordD_ok x m) m (by rw [ordD_len]; exact Nat.le_refl _)
  have HXD := fun j (hj : j < m) => vecOk_gv hk (k := j) (by omega)
  have hpb := prodT_bd HXD HBD m (Nat.le_refl _)
  have HB := hide HBD
  have HX := hide HXD
  clear HBD HXD
  have hm5 := fo.hN
  have hcl := hide (cornT_len m v (ordD x m) m)
  obtain ⟨b, off, rfl, hbb, hcc⟩ := hv.all_ fo.n0
  have hc0 := hcc 0 fo.n0
  rw [Nat.add_zero] at hc0
  have hv0 := fo.bd fo.n0
  have n0 := fo.n0
  clear hcc
  clear hf hk hl hxl ho hok
  generalize cornT m v (ordD x m) m = C at *
  generalize ordD x m = O at *
  have t1 : IntKind.i64.wrap (gv v 0 + prodT x C m) = gv v 0 + prodT x C m := IntWalk.i64_in _ (by omega)
  go_enter Try.func60, Try.ntmps60
  go_wp2_with fail
  refine HC.out.mono ?_
  rintro e w1 ⟨rfl, hb1⟩
  have hF1 := hF0.step hb1
  clear r0 r1
  obtain ⟨hbel1, hz1, r0, r1⟩ := hF1.parts
  go_wp2_with fail
  refine (HV.out _ hbel1).mono ?_
  rintro e w2 ⟨rfl, hb2⟩
  have hF2 := hF1.step hb2
  clear r0 r1
  obtain ⟨hbel2, hz2, r0, r1⟩ := hF2.parts
  have d0 : w2.cell? ⟨b, off, none⟩ = some (.int .i64 (gv v 0)) := (hbel2.cell (p := ⟨b, off, none⟩) hbb).trans hc0
  have i0 : (0 : Int) < (n : Int) := by omega
  go_wp2
  go_region_held3 (fun w' => w'.cell? ⟨w.heap.size, 0, none⟩ = some (.int .i64 (m : Int)) ∧ w'.cell? ⟨w.heap.size, 1, none⟩ = some (.slice (some ⟨b, off, none⟩) n c) ∧ w'.cell? ⟨b, off, none⟩ = some (.int .i64 (gv v 0)))
    (first
      | go_keep
      | exact ⟨hFc.2.2.1, hFc.2.2.2, (hFc.1.cell (p := ⟨b, off, none⟩) hbb).trans hc0⟩
      | exact ⟨hFb.2.2.1, hFb.2.2.2, (hFb.1.cell (p := ⟨b, off, none⟩) hbb).trans hc0⟩
      | exact ⟨hFa.2.2.1, hFa.2.2.2, (hFa.1.cell (p := ⟨b, off, none⟩) hbb).trans hc0⟩)
    (first
      | (go_at_call 180; refine (HD.out _ (hF2.drew).1).mono ?_; rintro e w3 ⟨B, cr, rfl, hown, hb3⟩; have hFa := hF2.drew.step hb3)
      | (go_at_call 141; refine (HO.out _ hFa.1 B cr hown.ints).mono ?_; rintro e w4 ⟨B2, r2, cr2, rfl, hown2, hr2, hb4⟩; have hFb := hFa.step hb4; have hr : r2 = m := by (have := hown2.len; have := hcl.out; omega))
      | (go_at_call 179; refine (product_any A' B2 m c' cr2 x C _ (hx.below hFb.1 (Nat.le_refl _)) (hr ▸ hown2).ints (by omega) HX.out HB.out).mono ?_; rintro e w5 ⟨rfl, hb5⟩; have hFc := hFb.step hb5))
  go_wp2
  go_ret2
  exact ⟨rfl, hFc.1⟩
set_option maxHeartbeats 2000000 in
theorem specExtensionAt_any (E : Int) (A : Option Addr) (n c : Nat) (v : List Int) (A' : Option Addr) (m c' : Nat) (x : List Int) (w : World) (hv : Ints w A n v) (hx : Ints w A' m x) :
    Calls Try.prog 61 #[.agg #[.int .i64 E, .slice A n c], .slice A' m c'] w fun e w' => e = .returned (.tuple #[.int .i64 (extV E v x), .bool (extOk E v x)]) ∧ Below w.heap.size w w' := by
  have hF0 := FB.start w E A n c
  obtain ⟨hbel0, hz0, r0, r1⟩ := hF0.parts
  have hcall := specOrderFor_any A' m c' x _ (hx.below hbel0 (Nat.le_refl _))
  have HV := hide (fun W (h : Below w.heap.size w W) => specIsFunction_any E A n c v W (hv.below h (Nat.le_refl _)))
  cases hk : vecOk 1000 x
  · have e0 : extOk E v x = false := by simp [extOk, hk]
    have e1 : extV E v x = 0 := by simp [extV, e0]
    rw [e0, e1]; clear e0 e1
    rw [hk] at hcall
    have HC := hide hcall; clear hcall
    go_enter Try.func61, Try.ntmps61
    go_wp2_with fail
    refine HC.out.mono ?_
    rintro e w1 ⟨B, r, cr, rfl, hown, hr, hb1⟩
    go_wp2
    go_ret2
    exact ⟨rfl, (hF0.step hb1).1⟩
  rw [hk] at hcall
  have HC := hide hcall; clear hcall
  cases hf : isFn E v
  · have e0 : extOk E v x = false := by simp [extOk, hf]
    have e1 : extV E v x = 0 := by simp [extV, e0]
    rw [e0, e1]; clear e0 e1
    rw [hf] at HV
    clear hk hf
    go_enter Try.func61, Try.ntmps61
    go_wp2_with fail
    refine HC.out.mono ?_
    rintro e w1 ⟨B, r, cr, rfl, hown, hr, hb1⟩
    have hF1 := hF0.step hb1
    clear r0 r1
    obtain ⟨hbel1, hz1, r0, r1⟩ := hF1.parts
    go_wp2_with fail
    refine (HV.out _ hbel1).mono ?_
    rintro e w2 ⟨rfl, hb2⟩
    go_wp2
    go_ret2
    exact ⟨rfl, (hF1.step hb2).1⟩
  rw [hf] at HV
  have hxl := hx.len
  obtain ⟨N, rfl, fo⟩ := FnOk.of hf hv
  by_cases hl : m = N
  case neg =>
    have e0 : extOk N v x = false := by simp [extOk]; omega
    have e1 : extV N v x = 0 := by simp [extV, e0]
    have e2 : ((m : Int) != (N : Int)) = true := by simp; omega
    rw [e0, e1]; clear e0 e1
    clear hk hf hl hxl
    go_enter Try.func61, Try.ntmps61
    go_wp2_with fail
    refine HC.out.mono ?_
    rintro e w1 ⟨B, r, cr, rfl, hown, hr, hb1⟩
    have hF1 := hF0.step hb1
    clear r0 r1
    obtain ⟨hbel1, hz1, r0, r1⟩ := hF1.parts
    go_wp2_with fail
    refine (HV.out _ hbel1).mono ?_
    rintro e w2 ⟨rfl, hb2⟩
    have hF2 := hF1.step hb2
    clear r0 r1
    obtain ⟨hbel2, hz2, r0, r1⟩ := hF2.parts
    go_wp2
    go_ret2
    exact ⟨rfl, hbel2⟩
  subst hl
  have hok : extOk m v x = true := by simp [extOk, hf, hk, hxl]
  have hO := ordD_ok x m
  have hol := ordD_len x m
  have e1 : extV m v x = extT v x (ordD x m) m := by
    rw [ext_eq hO m (by omega)]
    simp [extV, hok, hxl]
  have e2 : ordF x = ordD x m := by simp [ordF, hk, hxl]
  rw [hok, e1]; clear e1
  rw [e2] at HC
  have hm5 := fo.hN
  have HXD := fun j (hj : j < m) => vecOk_gv hk (k := j) (by omega)
  have hbd := hide (fun k (hkm : k ≤ m) => (show -10001000 ≤ extT v x (ordD x m) k ∧ extT v x (ordD x m) k ≤ 10001000 by
    rw [ext_eq hO k (by omega)]
    have h1 := prodT_bd HXD (cornT_bd fo hO k (by omega)) m (Nat.le_refl _)
    have h2 := fo.bd fo.n0
    omega))
  have HX := hide HXD
  have HE := hide (fun k (hkm : k < m) => ord_elem hO (k := k) (by omega))
  have HSN := hide (fun k (hkm : k ≤ m) => (show seenN (ordD x m) k < n by rw [fo.hn]; exact ord_seen hO (by omega)))
  have HL := hide hol
  obtain ⟨b, off, rfl, hbb, hcc⟩ := hv.all_ fo.n0
  have HCC := hide hcc
  have n0 := fo.n0
  have n32 := fo.n32
  clear hcc hO hol e2 HXD hf hk hxl hok r0 r1
  generalize ordD x m = O at *
  go_enter Try.func61, Try.ntmps61
  go_wp2_with fail
  refine HC.out.mono ?_
  rintro e w1 ⟨B, r, cr, rfl, hown, hr, hb1⟩
  have hrm : r = m := by have := hown.len; have := HL.out; omega
  subst hrm
  have hF1 := hF0.step hb1
  obtain ⟨hbel1, hz1, r0, r1⟩ := hF1.parts
  go_wp2_with fail
  refine (HV.out _ hbel1).mono ?_
  rintro e w2 ⟨rfl, hb2⟩
  have hF2 := hF1.step hb2
  have own2 := hown.below hb2 (Nat.le_refl _)
  clear r0 r1
  obtain ⟨hbel2, hz2, r0, r1⟩ := hF2.parts
  have d0 : w2.cell? ⟨b, off, none⟩ = some (.int .i64 (gv v 0)) := by
    have h := HCC.out 0 n0
    rw [Nat.add_zero] at h
    exact (hbel2.cell (p := ⟨b, off, none⟩) hbb).trans h
  have i0 : (0 : Int) < (n : Int) := by omega
  go_wp2
  clear r0 r1 d0 i0
  go_loopw [8, 9, 10] (fun a s t wr => ∃ k : Nat, k ≤ r ∧ t = .int .i64 k ∧ s = .int .i64 ((seenN O k : Nat) : Int) ∧ a = .int .i64 (extT v x O k) ∧ Ints wr B r O ∧ FB w wr r (some ⟨b, off, none⟩) n c) (fun _ _ t _ => r - (intOf t).toNat)
  case atStart => exact ⟨0, Nat.zero_le _, rfl, rfl, rfl, own2.ints, hF2⟩
  clear hF2 own2 hown
  case round =>
    obtain ⟨k, hk, rfl, rfl, rfl, hIO, hFBr⟩ := hrel
    obtain ⟨hbelr, hzr, r0, r1⟩ := hFBr.parts
    by_cases hlt : k < r
    · obtain ⟨e, he, heN, hsn⟩ := HE.out k hlt
      have hs := HSN.out k (by omega)
      have hs2 := HSN.out (k + 1) (by omega)
      have hsn' := hide hsn
      rw [hsn] at hs2
      clear hsn
      have hst := hide (show extT v x O (k + 1) = extT v x O k + gv x e * gainN v (seenN O k) e by simp only [extT, he, Int.toNat_natCast])
      obtain ⟨b2, off2, rfl, hbb2, hc2⟩ := hIO.at_ hlt
      rw [he] at hc2; clear he
      obtain ⟨b3, off3, rfl, hbb3, hc3⟩ := (hx.below hbelr (Nat.le_refl _)).at_ heN
      have s10 : seenN O k < 1024 := by omega
      have e40 : e ≤ 40 := by omega
      have c1 : wr.cell? ⟨b, off + seenN O k, none⟩ = some (.int .i64 (gv v (seenN O k))) := (hbelr.cell (p := ⟨b, off + seenN O k, none⟩) hbb).trans (HCC.out _ hs)
      have c2 : wr.cell? ⟨b, off + insN (seenN O k) e, none⟩ = some (.int .i64 (gv v (insN (seenN O k) e))) := (hbelr.cell (p := ⟨b, off + insN (seenN O k) e, none⟩) hbb).trans (HCC.out _ hs2)
      have g1 := fo.bd hs
      have g2 := fo.bd hs2
      have q1 := HX.out e heN
      have hgd := hide (show gainN v (seenN O k) e = gv v (insN (seenN O k) e) - gv v (seenN O k) from rfl)
      have q3 := mul_bd q1.1 q1.2 (show -2000 ≤ gainN v (seenN O k) e by rw [hgd.out]; omega) (by rw [hgd.out]; omega)
      have q4 := hbd.out (k + 1) (by omega)
      rw [hst.out] at q4
      generalize seenN O k = s at *
      have i1 : (0 : Int) ≤ (s : Int) := by omega
      have i2 : (s : Int) < (n : Int) := by omega
      have i3 : (0 : Int) ≤ ((insN s e : Nat) : Int) := by omega
      have i4 : ((insN s e : Nat) : Int) < (n : Int) := by omega
      have i5 : (0 : Int) ≤ (e : Int) := by omega
      have i6 : (e : Int) < (r : Int) := by omega
      have i7 : (0 : Int) ≤ (k : Int) := by omega
      have i8 : (k : Int) < (r : Int) := by omega
      have t1 : IntKind.i64.wrap (gv v (insN s e) - gv v s) = gainN v s e := IntWalk.i64_in _ (by omega)
      have t2 : IntKind.i64.wrap (gv x e * gainN v s e) = gv x e * gainN v s e := IntWalk.i64_in _ (by omega)
      have t3 : IntKind.i64.wrap (extT v x O k + gv x e * gainN v s e) = extT v x O (k + 1) := by rw [hst.out]; exact IntWalk.i64_in _ (by omega)
      clear q3 q4
      go_wp2
      go_quiet (fail)
      clear t1 t2 t3
      go_wp2
      go_roundw
      case rel => exact ⟨k + 1, by omega, by go_num, by rw [hsn'.out], rfl, hIO.below (below_drewN (Below.refl _ _) _) (Nat.le_refl _), hFBr.drewN _⟩
      case measure => simp [intOf]; omega
    · obtain rfl : k = r := by omega
      go_wp2
      go_ret2
      exact ⟨rfl, hbelr⟩
end Go.Proofs.Ytokeejachclpeaa
