/-
  Walks: greatest pairings with bases.
  Walks: least pairings with bases.
-/
import Derived.Test.YtokeejachclpeaaOrdM
import Derived.Test.YtokeejachclpeaaSubM
import Derived.Test.YtokeejachclpeaaCorner
import Derived.Test.YtokeejachclpeaaWgtM
import Derived.Deep.RegionWith
namespace Go.Proofs.Ytokeejachclpeaa
open Go.RowKit

def optB (E : Int) (v x : List Int) : Bool := grdB E v && (subB E v && (vecOk 1000 x && decide ((x.length : Int) = E)))
/-- The sum of the products at the first k places. -/
def prodT (x y : List Int) : Nat → Int
  | 0 => 0
  | k + 1 => prodT x y k + gv x k * gv y k
theorem mul_bd {a b l q : Int} (h1 : -l ≤ a) (h2 : a ≤ l) (h3 : -q ≤ b) (h4 : b ≤ q) : -(l * q) ≤ a * b ∧ a * b ≤ l * q := by
  have h : (a * b).natAbs ≤ l.natAbs * q.natAbs := by
    rw [Int.natAbs_mul]; exact Nat.mul_le_mul (by omega) (by omega)
  have hl : 0 ≤ l := by omega
  have hq : 0 ≤ q := by omega
  have e : ((l.natAbs * q.natAbs : Nat) : Int) = l * q := by
    rw [Int.natCast_mul, Int.natAbs_of_nonneg hl, Int.natAbs_of_nonneg hq]
  omega
theorem prodT_bd {x y : List Int} {n : Nat} (hx : ∀ j, j < n → -1000 ≤ gv x j ∧ gv x j ≤ 1000) (hy : ∀ j, j < n → -2000 ≤ gv y j ∧ gv y j ≤ 2000) : ∀ k, k ≤ n → -2000000 * (k : Int) ≤ prodT x y k ∧ prodT x y k ≤ 2000000 * (k : Int)
  | 0, _ => by simp [prodT]
  | k + 1, hk => by
    have ih := prodT_bd hx hy k (by omega)
    have h1 := hx k (by omega)
    have h2 := hy k (by omega)
    have h3 := mul_bd h1.1 h1.2 h2.1 h2.2
    simp only [prodT]
    omega
theorem gv_set2 {L : List Int} {e j : Nat} {u : Int} (hj : j < L.length) : gv (L.set e u) j = if e = j then u else gv L j := by
  rw [gv_get (by simpa using hj), List.getElem_set, gv_get hj]
theorem cornT_len (N : Nat) (v x : List Int) : ∀ k, (cornT N v x k).length = N
  | 0 => by simp [cornT]
  | k + 1 => by simp [cornT, cornT_len N v x k]
theorem cornT_bd {N n : Nat} {v x : List Int} (fo : FnOk N n v) (ho : ordB N x = true) : ∀ k, k ≤ x.length → ∀ j, j < N → -2000 ≤ gv (cornT N v x k) j ∧ gv (cornT N v x k) j ≤ 2000
  | 0, _, j, hj => by
    rw [gv_get (by simp [cornT]; exact hj)]
    simp [cornT]
  | k + 1, hk, j, hj => by
    have ih := cornT_bd fo ho k (by omega) j hj
    obtain ⟨e, he, heN, _⟩ := ord_elem ho (k := k) (by omega)
    have hs := ord_seen ho (k := k) (by omega)
    rw [← fo.hn] at hs
    have hg := fo.gain hs heN
    simp only [cornT, he, Int.toNat_natCast]
    rw [gv_set2 (by rw [cornT_len]; exact hj)]
    split
    · exact hg
    · exact ih
set_option maxHeartbeats 1000000 in
theorem product_any (A A' : Option Addr) (n c c' : Nat) (x y : List Int) (w : World) (hx : Ints w A n x) (hy : Ints w A' n y) (hn : n ≤ 5)
    (bx : ∀ j, j < n → -1000 ≤ gv x j ∧ gv x j ≤ 1000) (by_ : ∀ j, j < n → -2000 ≤ gv y j ∧ gv y j ≤ 2000) :
    Calls Try.prog 179 #[.slice A n c, .slice A' n c'] w fun e w' => e = .returned (.int .i64 (prodT x y n)) ∧ Below w.heap.size w w' := by
  have HX := hide bx
  have HY := hide by_
  have HP := hide (fun k (hk : k ≤ n) => prodT_bd bx by_ k hk)
  clear bx by_
  go_enter Try.func179, Try.ntmps179
  go_wp2
  go_loopw [5, 9] (fun s t wr => ∃ k : Nat, k ≤ n ∧ t = .int .i64 k ∧ s = .int .i64 (prodT x y k) ∧ Below w.heap.size w wr) (fun _ t _ => n - (intOf t).toNat)
  case atStart => exact ⟨0, Nat.zero_le _, rfl, rfl, Below.refl _ _⟩
  case round =>
    obtain ⟨k, hk, rfl, rfl, hbel⟩ := hrel
    by_cases hlt : k < n
    · obtain ⟨b, off, rfl, hb, hc⟩ := hx.at_ hlt
      obtain ⟨b', off', rfl, hb', hc'⟩ := hy.at_ hlt
      have c1 : wr.cell? ⟨b, off + k, none⟩ = some (.int .i64 (gv x k)) := (hbel.cell (p := ⟨b, off + k, none⟩) hb).trans hc
      have c2 : wr.cell? ⟨b', off' + k, none⟩ = some (.int .i64 (gv y k)) := (hbel.cell (p := ⟨b', off' + k, none⟩) hb').trans hc'
      clear hc hc'
      have q1 := HX.out k hlt
      have q2 := HY.out k hlt
      have q3 := mul_bd q1.1 q1.2 q2.1 q2.2
      have q4 := HP.out (k + 1) (by omega)
      have i1 : (0 : Int) ≤ (k : Int) := by omega
      have i2 : (k : Int) < (n : Int) := by omega
      have hs := hide (show prodT x y (k + 1) = prodT x y k + gv x k * gv y k from rfl)
      rw [hs.out] at q4
      have t1 : IntKind.i64.wrap (gv x k * gv y k) = gv x k * gv y k := IntWalk.i64_in _ (by omega)
      have t2 : IntKind.i64.wrap (prodT x y k + gv x k * gv y k) = prodT x y (k + 1) := by rw [hs.out]; exact IntWalk.i64_in _ (by omega)
      clear q3 q4
      go_wp2
      go_quiet (fail)
      clear t1 t2
      go_wp2
      go_roundw
      case rel => exact ⟨k + 1, by omega, by go_num, rfl, below_drewN hbel _⟩
      case measure => simp [intOf]; omega
    · obtain rfl : k = n := by omega
      go_wp2
      go_ret
      exact ⟨rfl, hbel⟩
set_option maxHeartbeats 400000 in
theorem canOptimize_any (E : Int) (A : Option Addr) (n c : Nat) (v : List Int) (A' : Option Addr) (m c' : Nat) (x : List Int) (w : World) (hv : Ints w A n v) (hx : Ints w A' m x) :
    Calls Try.prog 184 #[.agg #[.int .i64 E, .slice A n c], .slice A' m c'] w fun e w' => e = .returned (.bool (optB E v x)) ∧ Below w.heap.size w w' := by
  have hF0 := FB.start w E A n c
  obtain ⟨hbel0, hz0, r0, r1⟩ := hF0.parts
  have h1 := isGrounded_any E A n c v _ (hv.below hbel0 (Nat.le_refl _))
  have h2 := hide (fun W (h : Below w.heap.size w W) => isSubmodular_any E A n c v W (hv.below h (Nat.le_refl _)))
  have h3 := hide (fun W (h : Below w.heap.size w W) => isVectorFor_any E A A' n c m c' x W (hx.below h (Nat.le_refl _)))
  have hxl := hide hx.len
  cases hg : grdB E v
  · have e0 : optB E v x = false := by simp [optB, hg]
    rw [e0]; clear e0
    rw [hg] at h1
    have H1 := hide h1; clear h1 hg
    go_enter Try.func184, Try.ntmps184
    go_wp2_with fail
    refine H1.out.mono ?_
    rintro e w1 ⟨rfl, hb1⟩
    go_wp2
    go_ret
    exact ⟨rfl, (hF0.step hb1).1⟩
  rw [hg] at h1
  have H1 := hide h1; clear h1
  cases hs : subB E v
  · have e0 : optB E v x = false := by simp [optB, hs]
    rw [e0]; clear e0
    rw [hs] at h2
    clear hs hg
    go_enter Try.func184, Try.ntmps184
    go_wp2_with fail
    refine H1.out.mono ?_
    rintro e w1 ⟨rfl, hb1⟩
    have hF1 := hF0.step hb1
    clear r0 r1
    obtain ⟨hbel1, hz1, r0, r1⟩ := hF1.parts
    go_wp2_with fail
    refine (h2.out _ hbel1).mono ?_
    rintro e w2 ⟨rfl, hb2⟩
    go_wp2
    go_ret
    exact ⟨rfl, (hF1.step hb2).1⟩
  rw [hs] at h2
  have e0 : optB E v x = (vecOk 1000 x && decide ((x.length : Int) = E)) := by simp [optB, hs, hg]
  rw [e0]; clear e0 hs hg
  go_enter Try.func184, Try.ntmps184
  go_wp2_with fail
  refine H1.out.mono ?_
  rintro e w1 ⟨rfl, hb1⟩
  have hF1 := hF0.step hb1
  clear r0 r1
  obtain ⟨hbel1, hz1, r0, r1⟩ := hF1.parts
  go_wp2_with fail
  refine (h2.out _ hbel1).mono ?_
  rintro e w2 ⟨rfl, hb2⟩
  have hF2 := hF1.step hb2
  clear r0 r1
  obtain ⟨hbel2, hz2, r0, r1⟩ := hF2.parts
  go_wp2_with fail
  refine (h3.out _ hbel2).mono ?_
  rintro e w3 ⟨rfl, hb3⟩
  go_wp2
  go_ret
  exact ⟨rfl, (hF2.step hb3).1⟩
set_option maxHeartbeats 400000 in
theorem l9Fit_any (E : Int) (A : Option Addr) (n c : Nat) (v : List Int) (A' : Option Addr) (m c' : Nat) (x : List Int) (w : World) (hv : Ints w A n v) (hx : Ints w A' m x) :
    Calls Try.prog 186 #[.agg #[.int .i64 E, .slice A n c], .slice A' m c'] w fun e w' => e = .returned (.bool (optB E v x)) ∧ Below w.heap.size w w' := by
  have hF0 := FB.start w E A n c
  obtain ⟨hbel0, hz0, r0, r1⟩ := hF0.parts
  have h1 := specIsGrounded_any E A n c v _ (hv.below hbel0 (Nat.le_refl _))
  have h2 := hide (fun W (h : Below w.heap.size w W) => specIsSubmodular_any E A n c v W (hv.below h (Nat.le_refl _)))
  have h3 := hide (fun W (h : Below w.heap.size w W) => l7Vector_any A' m c' x W (hx.below h (Nat.le_refl _)))
  have hxl := hide hx.len
  cases hg : grdB E v
  · have e0 : optB E v x = false := by simp [optB, hg]
    rw [e0]; clear e0
    rw [hg] at h1
    have H1 := hide h1; clear h1 hg
    go_enter Try.func186, Try.ntmps186
    go_wp2_with fail
    refine H1.out.mono ?_
    rintro e w1 ⟨rfl, hb1⟩
    go_wp2
    go_ret
    exact ⟨rfl, (hF0.step hb1).1⟩
  rw [hg] at h1
  have H1 := hide h1; clear h1
  cases hs : subB E v
  · have e0 : optB E v x = false := by simp [optB, hs]
    rw [e0]; clear e0
    rw [hs] at h2
    clear hs hg
    go_enter Try.func186, Try.ntmps186
    go_wp2_with fail
    refine H1.out.mono ?_
    rintro e w1 ⟨rfl, hb1⟩
    have hF1 := hF0.step hb1
    clear r0 r1
    obtain ⟨hbel1, hz1, r0, r1⟩ := hF1.parts
    go_wp2_with fail
    refine (h2.out _ hbel1).mono ?_
    rintro e w2 ⟨rfl, hb2⟩
    go_wp2
    go_ret
    exact ⟨rfl, (hF1.step hb2).1⟩
  rw [hs] at h2
  cases hk : vecOk 1000 x
  · have e0 : optB E v x = false := by simp [optB, hk]
    rw [e0]; clear e0
    rw [hk] at h3
    clear hs hg hk
    go_enter Try.func186, Try.ntmps186
    go_wp2_with fail
    refine H1.out.mono ?_
    rintro e w1 ⟨rfl, hb1⟩
    have hF1 := hF0.step hb1
    clear r0 r1
    obtain ⟨hbel1, hz1, r0, r1⟩ := hF1.parts
    go_wp2_with fail
    refine (h2.out _ hbel1).mono ?_
    rintro e w2 ⟨rfl, hb2⟩
    have hF2 := hF1.step hb2
    go_wp2_with fail
    refine (h3.out _ hF2.1).mono ?_
    rintro e w3 ⟨rfl, rfl⟩
    go_wp2
    go_ret
    exact ⟨rfl, hF2.1⟩
  · have e0 : optB E v x = decide ((m : Int) = E) := by simp [optB, hk, hs, hg, hxl.out]
    rw [e0]; clear e0
    rw [hk] at h3
    have hml := hx.le
    clear hs hg hk
    go_enter Try.func186, Try.ntmps186
    go_wp2_with fail
    refine H1.out.mono ?_
    rintro e w1 ⟨rfl, hb1⟩
    have hF1 := hF0.step hb1
    clear r0 r1
    obtain ⟨hbel1, hz1, r0, r1⟩ := hF1.parts
    go_wp2_with fail
    refine (h2.out _ hbel1).mono ?_
    rintro e w2 ⟨rfl, hb2⟩
    have hF2 := hF1.step hb2
    clear r0 r1
    obtain ⟨hbel2, hz2, r0, r1⟩ := hF2.parts
    go_wp2_with fail
    refine (h3.out _ hbel2).mono ?_
    rintro e w3 ⟨rfl, rfl⟩
    go_wp2
    go_ret
    exact ⟨ret_bool (by rw [Bool.eq_iff_iff]; simp), hbel2⟩
theorem opt_ok {E : Int} {v x : List Int} (h : optB E v x = true) : isFn E v = true ∧ vecOk 1000 x = true ∧ (x.length : Int) = E := by
  simp only [optB, grdB, Bool.and_eq_true, decide_eq_true_eq] at h
  exact ⟨h.1.1, h.2.2.1, h.2.2.2⟩
def bestL (E : Int) (v x : List Int) : List Int := if optB E v x then ordD x x.length else []
def maxL (E : Int) (v x : List Int) : List Int := if optB E v x then cornT E.toNat v (ordD x x.length) x.length else []
def maxP (E : Int) (v x : List Int) : Int := if optB E v x then prodT x (cornT E.toNat v (ordD x x.length) x.length) x.length else 0
set_option maxHeartbeats 400000 in
theorem specBestOrder_any (E : Int) (A : Option Addr) (n c : Nat) (v : List Int) (A' : Option Addr) (m c' : Nat) (x : List Int) (w : World) (hv : Ints w A n v) (hx : Ints w A' m x) :
    Calls Try.prog 185 #[.agg #[.int .i64 E, .slice A n c], .slice A' m c'] w fun e w' => ∃ B r cr, e = .returned (.tuple #[.slice B r cr, .bool (optB E v x)]) ∧ Own w' w.heap.size B r cr (bestL E v x) ∧ r ≤ 1048576 ∧ Below w.heap.size w w' := by
  have hF0 := FB.start w E A n c
  obtain ⟨hbel0, hz0, r0, r1⟩ := hF0.parts
  have hcall := l9Fit_any E A n c v A' m c' x _ (hv.below hbel0 (Nat.le_refl _)) (hx.below hbel0 (Nat.le_refl _))
  cases ho : optB E v x
  · have e1 : bestL E v x = [] := by simp [bestL, ho]
    rw [e1]; clear e1
    rw [ho] at hcall
    have HC := hide hcall; clear hcall
    go_enter Try.func185, Try.ntmps185
    go_wp2_with fail
    refine HC.out.mono ?_
    rintro e w1 ⟨rfl, hb1⟩
    have hF1 := hF0.step hb1
    go_wp2
    go_ret2
    exact ⟨_, 0, 0, rfl, (own_none _).less (Nat.le_of_lt hF1.2.1), by omega, (hF1.step ((Below.refl _ _).alloc (Nat.le_refl _) _)).1⟩
  · have hxl := hx.len
    have e1 : bestL E v x = ordF x := by simp [bestL, ho, ordF, (opt_ok ho).2.1]
    rw [e1]; clear e1
    rw [ho] at hcall
    have HC := hide hcall; clear hcall
    obtain ⟨hf, hk, hl⟩ := opt_ok ho
    have HD := hide (fun W (h : Below w.heap.size w W) => hk ▸ specOrderFor_any A' m c' x W (hx.below h (Nat.le_refl _)))
    clear hf hk hl hxl ho
    go_enter Try.func185, Try.ntmps185
    go_wp2_with fail
    refine HC.out.mono ?_
    rintro e w1 ⟨rfl, hb1⟩
    have hF1 := hF0.step hb1
    go_wp2_with fail
    refine (HD.out _ hF1.1).mono ?_
    rintro e w2 ⟨B, r, cr, rfl, hown, hr, hb2⟩
    go_wp2
    go_ret2
    exact ⟨B, r, cr, rfl, hown.less hF1.1.size, hr, (hF1.step hb2).1⟩
set_option maxHeartbeats 1000000 in
theorem maximumFor_any (E : Int) (A : Option Addr) (n c : Nat) (v : List Int) (A' : Option Addr) (m c' : Nat) (x : List Int) (w : World) (hv : Ints w A n v) (hx : Ints w A' m x) :
    Calls Try.prog 68 #[.agg #[.int .i64 E, .slice A n c], .slice A' m c'] w fun e w' => ∃ B r cr, e = .returned (.tuple #[.int .i64 (maxP E v x), .slice B r cr, .bool (optB E v x)]) ∧ Own w' w.heap.size B r cr (maxL E v x) ∧ r ≤ 1048576 ∧ Below w.heap.size w w' := by
  have hF0 := FB.start w E A n c
  obtain ⟨hbel0, hz0, r0, r1⟩ := hF0.parts
  have hcall := canOptimize_any E A n c v A' m c' x _ (hv.below hbel0 (Nat.le_refl _)) (hx.below hbel0 (Nat.le_refl _))
  cases ho : optB E v x
  · have e1 : maxL E v x = [] := by simp [maxL, ho]
    have e2 : maxP E v x = 0 := by simp [maxP, ho]
    rw [e1, e2]; clear e1 e2
    rw [ho] at hcall
    have HC := hide hcall; clear hcall
    go_enter Try.func68, Try.ntmps68
    go_wp2_with fail
    refine HC.out.mono ?_
    rintro e w1 ⟨rfl, hb1⟩
    go_wp2
    go_ret3
    exact ⟨none, 0, 0, rfl, own_nil _ _, by omega, (hF0.step hb1).1⟩
  · have hxl := hx.len
    rw [ho] at hcall
    have HC := hide hcall; clear hcall
    obtain ⟨hf, hk, hl⟩ := opt_ok ho
    obtain ⟨N, rfl, fo⟩ := FnOk.of hf hv
    have hmN : m = N := by omega
    subst hmN
    have e1 : maxL m v x = cornT m v (ordD x m) m := by simp [maxL, ho, hxl]
    have e2 : maxP m v x = prodT x (cornT m v (ordD x m) m) m := by simp [maxP, ho, hxl]
    rw [e1, e2]; clear e1 e2
    have HD := hide (fun W (h : Below w.heap.size w W) => descending_any A' m c' x W (hx.below h (Nat.le_refl _)) hk)
    have HO := hide (fun W (h : Below w.heap.size w W) (B : Option Addr) (cr : Nat) (hB : Ints W B m (ordD x m)) => corner_any m A n c v B m cr (ordD x m) W (hv.below h (Nat.le_refl _)) hB hf (ordD_ok x m))
    have HB := hide (cornT_bd fo (ordD_ok x m) m (by rw [ordD_len]; exact Nat.le_refl _))
    have HX := hide (fun j (hj : j < m) => vecOk_gv hk (k := j) (by omega))
    have hm5 := fo.hN
    have hcl := hide (cornT_len m v (ordD x m) m)
    clear hf hk hl hxl ho
    generalize cornT m v (ordD x m) m = C at *
    generalize ordD x m = O at *
    go_enter Try.func68, Try.ntmps68
    go_wp2_with fail
    refine HC.out.mono ?_
    rintro e w1 ⟨rfl, hb1⟩
    have hF1 := hF0.step hb1
    clear r0 r1
    obtain ⟨hbel1, hz1, r0, r1⟩ := hF1.parts
    go_wp2
    go_region_held3 (fun w' => w'.cell? ⟨w.heap.size, 0, none⟩ = some (.int .i64 (m : Int)) ∧ w'.cell? ⟨w.heap.size, 1, none⟩ = some (.slice A n c))
      (first
        | go_keep
        | exact ⟨hFb.2.2.1, hFb.2.2.2⟩
        | exact ⟨hFa.2.2.1, hFa.2.2.2⟩)
      (first
        | (go_at_call 180; refine (HD.out _ (hF1.drew).1).mono ?_; rintro e w2 ⟨B, cr, rfl, hown, hb2⟩; have hFa := hF1.drew.step hb2)
        | (go_at_call 141; refine (HO.out _ hFa.1 B cr hown.ints).mono ?_; rintro e w3 ⟨B2, r2, cr2, rfl, hown2, hr2, hb3⟩; have hFb := hFa.step hb3))
    have hr : r2 = m := by have := hown2.len; have := hcl.out; omega
    subst hr
    go_wp2_with fail
    refine (product_any A' B2 r2 c' cr2 x C _ (hx.below hFb.1 (Nat.le_refl _)) hown2.ints (by omega) HX.out HB.out).mono ?_
    rintro e w4 ⟨rfl, hb4⟩
    have o4 := hown2.below hb4 (Nat.le_refl _)
    go_wp2
    go_ret3
    exact ⟨B2, r2, cr2, rfl, o4.less hFa.1.size, by omega, (hFb.step hb4).1⟩
set_option maxHeartbeats 1000000 in
theorem specMaximumFor_any (E : Int) (A : Option Addr) (n c : Nat) (v : List Int) (A' : Option Addr) (m c' : Nat) (x : List Int) (w : World) (hv : Ints w A n v) (hx : Ints w A' m x) :
    Calls Try.prog 69 #[.agg #[.int .i64 E, .slice A n c], .slice A' m c'] w fun e w' => ∃ B r cr, e = .returned (.tuple #[.int .i64 (maxP E v x), .slice B r cr, .bool (optB E v x)]) ∧ Own w' w.heap.size B r cr (maxL E v x) ∧ r ≤ 1048576 ∧ Below w.heap.size w w' := by
  have hF0 := FB.start w E A n c
  obtain ⟨hbel0, hz0, r0, r1⟩ := hF0.parts
  have hcall := specBestOrder_any E A n c v A' m c' x _ (hv.below hbel0 (Nat.le_refl _)) (hx.below hbel0 (Nat.le_refl _))
  cases ho : optB E v x
  · have e1 : maxL E v x = [] := by simp [maxL, ho]
    have e2 : maxP E v x = 0 := by simp [maxP, ho]
    rw [e1, e2]; clear e1 e2
    rw [ho] at hcall
    have HC := hide hcall; clear hcall
    go_enter Try.func69, Try.ntmps69
    go_wp2_with fail
    refine HC.out.mono ?_
    rintro e w1 ⟨B, r, cr, rfl, hown, hr, hb1⟩
    have hF1 := hF0.step hb1
    go_wp2
    go_ret3
    exact ⟨_, 0, 0, rfl, (own_none _).less (Nat.le_of_lt hF1.2.1), by omega, (hF1.step ((Below.refl _ _).alloc (Nat.le_refl _) _)).1⟩
  · have hxl := hx.len
    obtain ⟨hf, hk, hl⟩ := opt_ok ho
    obtain ⟨N, rfl, fo⟩ := FnOk.of hf hv
    have hmN : m = N := by omega
    subst hmN
    have e0 : bestL m v x = ordD x m := by simp [bestL, ho, hxl]
    rw [ho, e0] at hcall
    have HC := hide hcall; clear hcall
    have e1 : maxL m v x = cornT m v (ordD x m) m := by simp [maxL, ho, hxl]
    have e2 : maxP m v x = prodT x (cornT m v (ordD x m) m) m := by simp [maxP, ho, hxl]
    rw [e1, e2]; clear e0 e1 e2
    have HO := hide (fun W (h : Below w.heap.size w W) (B : Option Addr) (cr : Nat) (hB : Ints W B m (ordD x m)) => l8Corner_any m A n c v B m cr (ordD x m) W (hv.below h (Nat.le_refl _)) hB hf (ordD_ok x m))
    have HB := hide (cornT_bd fo (ordD_ok x m) m (by rw [ordD_len]; exact Nat.le_refl _))
    have HX := hide (fun j (hj : j < m) => vecOk_gv hk (k := j) (by omega))
    have hm5 := fo.hN
    have hcl := hide (cornT_len m v (ordD x m) m)
    have hol := hide (ordD_len x m)
    clear hf hk hl hxl ho
    have HP := hide (fun k (hk : k ≤ m) => prodT_bd HX.out HB.out k hk)
    generalize cornT m v (ordD x m) m = C at *
    generalize ordD x m = O at *
    go_enter Try.func69, Try.ntmps69
    go_wp2_with fail
    refine HC.out.mono ?_
    rintro e w1 ⟨B, r, cr, rfl, hown, hr, hb1⟩
    have hrm : r = m := by have := hown.len; have := hol.out; omega
    subst hrm
    have hF1 := hF0.step hb1
    clear r0 r1
    obtain ⟨hbel1, hz1, r0, r1⟩ := hF1.parts
    have HO1 := hide (HO.out _ hbel1 B cr hown.ints)
    go_wp2_with fail
    refine HO1.out.mono ?_
    rintro e w3 ⟨B2, r2, cr2, rfl, hown2, hr2, hb3⟩
    have hFb := hF1.step hb3
    have hr : r2 = r := by have := hown2.len; have := hcl.out; omega
    subst hr
    clear r0 r1
    go_wp2
    go_loopw [10, 11] (fun s t wr => ∃ k : Nat, k ≤ r2 ∧ t = .int .i64 k ∧ s = .int .i64 (prodT x C k) ∧ Own wr w.heap.size B2 r2 cr2 C ∧ FB w wr r2 A n c) (fun _ t _ => r2 - (intOf t).toNat)
    case atStart => exact ⟨0, Nat.zero_le _, rfl, rfl, hown2.less hbel1.size, hFb⟩
    case round =>
      obtain ⟨k, hk, rfl, rfl, ownr, hFBr⟩ := hrel
      by_cases hlt : k < r2
      · obtain ⟨b, off, rfl, hb, hc⟩ := (hx.below hFBr.1 (Nat.le_refl _)).at_ hlt
        obtain ⟨b', off', rfl, hb', hc'⟩ := ownr.ints.at_ hlt
        have q1 := HX.out k hlt
        have q2 := HB.out k hlt
        have q3 := mul_bd q1.1 q1.2 q2.1 q2.2
        have q4 := HP.out (k + 1) (by omega)
        have i1 : (0 : Int) ≤ (k : Int) := by omega
        have i2 : (k : Int) < (r2 : Int) := by omega
        have hs := hide (show prodT x C (k + 1) = prodT x C k + gv x k * gv C k from rfl)
        rw [hs.out] at q4
        have t1 : IntKind.i64.wrap (gv x k * gv C k) = gv x k * gv C k := IntWalk.i64_in _ (by omega)
        have t2 : IntKind.i64.wrap (prodT x C k + gv x k * gv C k) = prodT x C (k + 1) := by rw [hs.out]; exact IntWalk.i64_in _ (by omega)
        clear q3 q4
        go_wp2
        go_quiet (fail)
        clear t1 t2
        go_wp2
        go_roundw
        case rel => exact ⟨k + 1, by omega, by go_num, rfl, ownr.below (below_drewN (Below.refl _ _) _) (Nat.le_refl _), hFBr.drewN _⟩
        case measure => simp [intOf]; omega
      · obtain rfl : k = r2 := by omega
        go_wp2
        go_ret3
        exact ⟨B2, k, cr2, rfl, ownr, by omega, hFBr.1⟩
end Go.Proofs.Ytokeejachclpeaa
namespace Go.Proofs.Ytokeejachclpeaa
open Go.RowKit

def negL (x : List Int) : List Int := x.map fun a => -a
theorem negL_len (x : List Int) : (negL x).length = x.length := by simp [negL]
theorem negL_gv {x : List Int} {k : Nat} (h : k < x.length) : gv (negL x) k = - gv x k := by
  rw [gv_get (by rw [negL_len]; exact h), gv_get h]; simp [negL]
theorem neg_snoc {x : List Int} {k : Nat} (h : k < x.length) : (negL x).take (k + 1) = (negL x).take k ++ [- gv x k] := by
  rw [take_gv (by rw [negL_len]; exact h), negL_gv h]
theorem vec_neg {x : List Int} (h : vecOk 1000 x = true) : vecOk 1000 (negL x) = true := by
  simp only [vecOk, allIn, Bool.and_eq_true, decide_eq_true_eq, List.all_eq_true, negL_len] at *
  refine ⟨h.1, fun a ha => ?_⟩
  simp only [negL, List.mem_map] at ha
  obtain ⟨b, hb, rfl⟩ := ha
  have := inR_true (h.2 b hb)
  simp only [inR, decide_eq_true_eq]
  omega
theorem opt_neg {E : Int} {v x : List Int} (h : optB E v x = true) : optB E v (negL x) = true := by
  simp only [optB, Bool.and_eq_true, decide_eq_true_eq] at *
  exact ⟨h.1, h.2.1, vec_neg h.2.2.1, by rw [negL_len]; exact h.2.2.2⟩
theorem maxP_bd (E : Int) (v x : List Int) : -10000000 ≤ maxP E v x ∧ maxP E v x ≤ 10000000 := by
  unfold maxP
  split
  · rename_i ho
    obtain ⟨hf, hk, hl⟩ := opt_ok ho
    obtain ⟨N, rfl, hN, hl2, ha⟩ := isFn_true hf
    have fo : FnOk N v.length v := ⟨hN, hl2, rfl, ha⟩
    have hx : x.length = N := by omega
    have h := prodT_bd (x := x) (y := cornT N v (ordD x x.length) x.length) (n := x.length) (fun j hj => vecOk_gv hk hj) (fun j hj => by
      have h1 := cornT_bd fo (x := ordD x x.length) (by have := ordD_ok x x.length; rwa [hx] at this ⊢) x.length (by rw [ordD_len]; exact Nat.le_refl _) j (by omega)
      exact h1) x.length (Nat.le_refl _)
    rw [Int.toNat_natCast]
    omega
  · omega
def minP' (E : Int) (v x : List Int) : Int := if optB E v x then -(maxP E v (negL x)) else 0
def minL' (E : Int) (v x : List Int) : List Int := if optB E v x then maxL E v (negL x) else []
theorem make_05 (w : World) : (Instr.makeSlice 24 (.int .i64 0) (.int .i64 5)).run Try.prog w = .ok (.slice (some ⟨w.heap.size, 0, none⟩) 0 5) (w.alloc (.cells (madeCells #[.int .i64 0] 5) 3)) := by
  obtain ⟨i0, hi0, hz0, hz1, hz2⟩ := info_parts int_info
  have hr := run_make (P := Try.prog) w 24 3 i0 _ Try.underlying24 hi0 hz0 .i64 .i64 0 5 (by omega) (by omega) (by rw [hz2]; omega) (by omega)
  simp only [hz1, Nat.mul_one] at hr
  exact hr
theorem own_05 (w : World) {B : Nat} (hB : B ≤ w.heap.size) : Own (w.alloc (.cells (madeCells #[.int .i64 0] 5) 3)) B (some ⟨w.heap.size, 0, none⟩) 0 5 [] :=
  World.ownsRow_made (base := B) (e := 3) (size := 1) w (madeCells #[.int .i64 0] 5) 5 hB (by simp [maxLen]) (by simp [size_madeCells])
set_option maxHeartbeats 1000000 in
theorem minimumFor_any (E : Int) (A : Option Addr) (n c : Nat) (v : List Int) (A' : Option Addr) (m c' : Nat) (x : List Int) (w : World) (hv : Ints w A n v) (hx : Ints w A' m x) :
    Calls Try.prog 70 #[.agg #[.int .i64 E, .slice A n c], .slice A' m c'] w fun e w' => ∃ B r cr, e = .returned (.tuple #[.int .i64 (minP' E v x), .slice B r cr, .bool (optB E v x)]) ∧ Own w' w.heap.size B r cr (minL' E v x) ∧ r ≤ 1048576 ∧ Below w.heap.size w w' := by
  have hFs := FB.start w E A n c
  have hF0 := hFs.step ((Below.refl _ _).alloc (Nat.le_refl _) (.cells (madeCells #[.int .i64 0] 5) 3))
  obtain ⟨hbel0, hz0, r0, r1⟩ := hF0.parts
  have hO0 := own_05 (w := w.alloc (.cells #[.int .i64 E, .slice A n c] 26)) (B := w.heap.size + 1) (by simp)
  have z1 : (w.alloc (.cells #[.int .i64 E, .slice A n c] 26)).heap.size = w.heap.size + 1 := by simp
  rw [z1] at hO0
  clear hFs z1
  have hmk := fun W => make_05 W
  have hcall := canOptimize_any E A n c v A' m c' x _ (hv.below hbel0 (Nat.le_refl _)) (hx.below hbel0 (Nat.le_refl _))
  cases ho : optB E v x
  · have e1 : minL' E v x = [] := by simp [minL', ho]
    have e2 : minP' E v x = 0 := by simp [minP', ho]
    rw [e1, e2]; clear e1 e2
    rw [ho] at hcall
    have HC := hide hcall; clear hcall hO0
    go_enter Try.func70, Try.ntmps70
    go_wp2_with fail
    refine HC.out.mono ?_
    rintro e w1 ⟨rfl, hb1⟩
    have hF1 := hF0.step hb1
    go_wp2
    go_ret3
    exact ⟨none, 0, 0, rfl, own_nil _ _, by omega, hF1.1⟩
  · have hxl := hide hx.len
    have hon := hide (opt_neg ho)
    obtain ⟨hf, hk, hl⟩ := opt_ok ho
    have e1 : minL' E v x = maxL E v (negL x) := by simp [minL', ho]
    have e2 : minP' E v x = -(maxP E v (negL x)) := by simp [minP', ho]
    rw [e1, e2]; clear e1 e2
    rw [ho] at hcall
    have HC := hide hcall; clear hcall
    have hm5 : m ≤ 5 := by rw [← hxl.out]; exact (vecOk_true hk).1
    have HX := hide (fun j (hj : j < m) => vecOk_gv hk (k := j) (by rw [hxl.out]; exact hj))
    have hbd := maxP_bd E v (negL x)
    have HM := hide (fun W (h : Below w.heap.size w W) (B : Option Addr) (cr : Nat) (hB : Ints W B m (negL x)) => maximumFor_any E A n c v B m cr (negL x) W (hv.below h (Nat.le_refl _)) hB)
    have hnl := hide (show (negL x).length = m by rw [negL_len, hxl.out])
    have HS := hide (fun k (hk : k < m) => neg_snoc (x := x) (k := k) (by rw [hxl.out]; exact hk))
    have HON := hide hon.out
    rw [hon.out] at HM
    clear hf hk hl ho hon
    generalize maxP E v (negL x) = R at *
    generalize maxL E v (negL x) = M at *
    go_enter Try.func70, Try.ntmps70
    go_wp2_with fail
    refine HC.out.mono ?_
    rintro e w1 ⟨rfl, hb1⟩
    have hF1 := hF0.step hb1
    have hO1 := hO0.below hb1 (Nat.le_refl _)
    clear r0 r1 hO0
    go_wp2
    go_loopw [7, 20] (fun l t wr => ∃ (k : Nat) (B : Option Addr) (cr : Nat), k ≤ m ∧ t = .int .i64 k ∧ l = .slice B k cr ∧ Own wr (w.heap.size + 1) B k cr ((negL x).take k) ∧ FB w wr E A n c) (fun _ t _ => m - (intOf t).toNat)
    case atStart => exact ⟨0, _, 5, Nat.zero_le _, rfl, rfl, hO1, hF1⟩
    clear hO1
    case round =>
      obtain ⟨k, B, cr, hk, rfl, rfl, hown, hFBr⟩ := hrel
      obtain ⟨hbelr, hzr, r0, r1⟩ := hFBr.parts
      by_cases hlt : k < m
      · obtain ⟨b, off, rfl, hb, hc⟩ := (hx.below hbelr (Nat.le_refl _)).at_ hlt
        have q1 := HX.out k hlt
        have hs := hide (HS.out k hlt)
        have t1 : IntKind.i64.wrap (- gv x k) = - gv x k := IntWalk.i64_in _ (by omega)
        go_wp2_with (refine wpl_app (by rfl) _ _ (by rfl) (w.heap.size + 1) B k cr wr.heap.size ((negL x).take k) (- gv x k) (by rfl) (by rfl) (hown.alloc _) (cell_new wr _) (by omega) (by simp; omega) ?_; intro g cap w3 hown3 hgrow hat hlt3)
        go_roundw
        case rel => exact ⟨k + 1, _, cap, by omega, by go_num, rfl, by rw [hs.out]; exact hown3, app_FB hFBr hown hgrow (Below.refl _ _) rfl⟩
        case measure => simp [intOf]; omega
      · obtain rfl : k = m := by omega
        have ho2 := hown.ints
        rw [List.take_of_length_le (by rw [hnl.out]; exact Nat.le_refl _)] at ho2
        have HM1 := hide (HM.out _ hbelr B cr ho2)
        go_wp2_with fail
        refine HM1.out.mono ?_
        rintro e w4 ⟨B2, r2, cr2, rfl, hown2, hr2, hb4⟩
        have t1 : IntKind.i64.wrap (-R) = -R := IntWalk.i64_in _ (by omega)
        go_wp2
        go_ret3
        exact ⟨B2, r2, cr2, rfl, hown2.less hbelr.size, hr2, (hFBr.step hb4).1⟩
set_option maxHeartbeats 1000000 in
theorem specMinimumFor_any (E : Int) (A : Option Addr) (n c : Nat) (v : List Int) (A' : Option Addr) (m c' : Nat) (x : List Int) (w : World) (hv : Ints w A n v) (hx : Ints w A' m x) :
    Calls Try.prog 71 #[.agg #[.int .i64 E, .slice A n c], .slice A' m c'] w fun e w' => ∃ B r cr, e = .returned (.tuple #[.int .i64 (minP' E v x), .slice B r cr, .bool (optB E v x)]) ∧ Own w' w.heap.size B r cr (minL' E v x) ∧ r ≤ 1048576 ∧ Below w.heap.size w w' := by
  have hFs := FB.start w E A n c
  have hF0 := hFs.step ((Below.refl _ _).alloc (Nat.le_refl _) (.cells #[] 3))
  obtain ⟨hbel0, hz0, r0, r1⟩ := hF0.parts
  have hO0 := own_zero (w := w.alloc (.cells #[.int .i64 E, .slice A n c] 26)) (B := w.heap.size + 1) (by simp)
  have z1 : (w.alloc (.cells #[.int .i64 E, .slice A n c] 26)).heap.size = w.heap.size + 1 := by simp
  rw [z1] at hO0
  clear hFs z1
  
  have hcall := l9Fit_any E A n c v A' m c' x _ (hv.below hbel0 (Nat.le_refl _)) (hx.below hbel0 (Nat.le_refl _))
  cases ho : optB E v x
  · have e1 : minL' E v x = [] := by simp [minL', ho]
    have e2 : minP' E v x = 0 := by simp [minP', ho]
    rw [e1, e2]; clear e1 e2
    rw [ho] at hcall
    have HC := hide hcall; clear hcall hO0
    go_enter Try.func71, Try.ntmps71
    go_wp2_with fail
    refine HC.out.mono ?_
    rintro e w1 ⟨rfl, hb1⟩
    have hF1 := hF0.step hb1
    go_wp2
    go_ret3
    exact ⟨_, 0, 0, rfl, (own_none _).less (Nat.le_of_lt hF1.2.1), by omega, (hF1.step ((Below.refl _ _).alloc (Nat.le_refl _) _)).1⟩
  · have hxl := hide hx.len
    have hon := hide (opt_neg ho)
    obtain ⟨hf, hk, hl⟩ := opt_ok ho
    have e1 : minL' E v x = maxL E v (negL x) := by simp [minL', ho]
    have e2 : minP' E v x = -(maxP E v (negL x)) := by simp [minP', ho]
    rw [e1, e2]; clear e1 e2
    rw [ho] at hcall
    have HC := hide hcall; clear hcall
    have hm5 : m ≤ 5 := by rw [← hxl.out]; exact (vecOk_true hk).1
    have HX := hide (fun j (hj : j < m) => vecOk_gv hk (k := j) (by rw [hxl.out]; exact hj))
    have hbd := maxP_bd E v (negL x)
    have HM := hide (fun W (h : Below w.heap.size w W) (B : Option Addr) (cr : Nat) (hB : Ints W B m (negL x)) => specMaximumFor_any E A n c v B m cr (negL x) W (hv.below h (Nat.le_refl _)) hB)
    have hnl := hide (show (negL x).length = m by rw [negL_len, hxl.out])
    have HS := hide (fun k (hk : k < m) => neg_snoc (x := x) (k := k) (by rw [hxl.out]; exact hk))
    have HON := hide hon.out
    rw [hon.out] at HM
    clear hf hk hl ho hon
    generalize maxP E v (negL x) = R at *
    generalize maxL E v (negL x) = M at *
    go_enter Try.func71, Try.ntmps71
    go_wp2_with fail
    refine HC.out.mono ?_
    rintro e w1 ⟨rfl, hb1⟩
    have hF1 := hF0.step hb1
    have hO1 := hO0.below hb1 (Nat.le_refl _)
    clear r0 r1 hO0
    go_wp2
    go_loopw [7, 8] (fun l t wr => ∃ (k : Nat) (B : Option Addr) (cr : Nat), k ≤ m ∧ t = .int .i64 k ∧ l = .slice B k cr ∧ Own wr (w.heap.size + 1) B k cr ((negL x).take k) ∧ FB w wr E A n c) (fun _ t _ => m - (intOf t).toNat)
    case atStart => exact ⟨0, _, 0, Nat.zero_le _, rfl, rfl, hO1, hF1⟩
    clear hO1
    case round =>
      obtain ⟨k, B, cr, hk, rfl, rfl, hown, hFBr⟩ := hrel
      obtain ⟨hbelr, hzr, r0, r1⟩ := hFBr.parts
      by_cases hlt : k < m
      · obtain ⟨b, off, rfl, hb, hc⟩ := (hx.below hbelr (Nat.le_refl _)).at_ hlt
        have q1 := HX.out k hlt
        have hs := hide (HS.out k hlt)
        have t1 : IntKind.i64.wrap (- gv x k) = - gv x k := IntWalk.i64_in _ (by omega)
        go_wp2_with (refine wpl_app (by rfl) _ _ (by rfl) (w.heap.size + 1) B k cr wr.heap.size ((negL x).take k) (- gv x k) (by rfl) (by rfl) (hown.alloc _) (cell_new wr _) (by omega) (by simp; omega) ?_; intro g cap w3 hown3 hgrow hat hlt3)
        go_roundw
        case rel => exact ⟨k + 1, _, cap, by omega, by go_num, rfl, by rw [hs.out]; exact hown3, app_FB hFBr hown hgrow (Below.refl _ _) rfl⟩
        case measure => simp [intOf]; omega
      · obtain rfl : k = m := by omega
        have ho2 := hown.ints
        rw [List.take_of_length_le (by rw [hnl.out]; exact Nat.le_refl _)] at ho2
        have HM1 := hide (HM.out _ hbelr B cr ho2)
        go_wp2_with fail
        refine HM1.out.mono ?_
        rintro e w4 ⟨B2, r2, cr2, rfl, hown2, hr2, hb4⟩
        have t1 : IntKind.i64.wrap (-R) = -R := IntWalk.i64_in _ (by omega)
        go_wp2
        go_ret3
        exact ⟨B2, r2, cr2, rfl, hown2.less hbelr.size, hr2, (hFBr.step hb4).1⟩
end Go.Proofs.Ytokeejachclpeaa
