/-
  Walks: the first violation, with its set and its two elements.
-/
import Derived.Test.YtokeejachclpeaaSubM
namespace Go.Proofs.Ytokeejachclpeaa
open Go.RowKit

/-- The first triple of a list that violates, as three numbers. -/
def firstL (v : List Int) (l : List T3) : List Int := match l.find? (fun t => !decide (excN v t.1 t.2.1 t.2.2 ≤ 0)) with | some t => [(t.1 : Int), (t.2.1 : Int), (t.2.2 : Int)] | none => []
def violL (E : Int) (v : List Int) : List Int := if isFn E v then firstL v (allP E.toNat v.length) else []
theorem allP_pre (N : Nat) {s : Nat} : ∀ {n}, s ≤ n → ∃ r, allP N n = allP N s ++ r
  | 0, h => by obtain rfl : s = 0 := by omega
               exact ⟨[], by simp⟩
  | n + 1, h => by
    by_cases hs : s = n + 1
    · subst hs; exact ⟨[], by simp⟩
    · obtain ⟨r, hr⟩ := allP_pre N (s := s) (n := n) (by omega)
      exact ⟨r ++ colP N n N, by rw [allP_snoc, hr, List.append_assoc]⟩
theorem colP_pre (N s : Nat) {i : Nat} : ∀ {m}, i ≤ m → ∃ r, colP N s m = colP N s i ++ r
  | 0, h => by obtain rfl : i = 0 := by omega
               exact ⟨[], by simp⟩
  | m + 1, h => by
    by_cases hi : i = m + 1
    · subst hi; exact ⟨[], by simp⟩
    · obtain ⟨r, hr⟩ := colP_pre N s (i := i) (m := m) (by omega)
      exact ⟨r ++ rowP s m N, by rw [colP_snoc, hr, List.append_assoc]⟩
theorem rowP_pre (s : Nat) {i k : Nat} (hik : i < k) : ∀ {m}, k ≤ m → ∃ r, rowP s i m = rowP s i k ++ r
  | 0, h => by omega
  | m + 1, h => by
    by_cases hk : k = m + 1
    · subst hk; exact ⟨[], by simp⟩
    · obtain ⟨r, hr⟩ := rowP_pre s hik (m := m) (by omega)
      exact ⟨r ++ (if offB s i m then [(s, i, m)] else []), by rw [rowP_snoc (by omega), hr, List.append_assoc]⟩
theorem first_none {v : List Int} {l : List T3} (h : okL v l = true) : firstL v l = [] := by
  have : l.find? (fun t => !decide (excN v t.1 t.2.1 t.2.2 ≤ 0)) = none := by
    rw [List.find?_eq_none]
    intro t ht
    unfold okL at h
    rw [List.all_eq_true] at h
    simpa using h t ht
  unfold firstL
  rw [this]
theorem first_at {v : List Int} {N n s i k : Nat} (hs : s < n) (hi : i < N) (h1 : i < k) (h2 : k < N) (h3 : offB s i k = true) (he : ¬ excN v s i k ≤ 0) (hok : okL v (allP N s ++ colP N s i ++ rowP s i k) = true) :
    firstL v (allP N n) = [(s : Int), (i : Int), (k : Int)] := by
  obtain ⟨r1, e1⟩ := allP_pre N (s := s + 1) (n := n) (by omega)
  obtain ⟨r2, e2⟩ := colP_pre N s (i := i + 1) (m := N) (by omega)
  obtain ⟨r3, e3⟩ := rowP_pre s (i := i) (k := k + 1) (by omega) (m := N) (by omega)
  have e : allP N n = (allP N s ++ colP N s i ++ rowP s i k) ++ ((s, i, k) :: (r3 ++ r2 ++ r1)) := by
    rw [e1, allP_snoc, e2, colP_snoc, e3, rowP_snoc h1, h3, if_pos rfl]
    simp
  have hn : (allP N s ++ colP N s i ++ rowP s i k).find? (fun t => !decide (excN v t.1 t.2.1 t.2.2 ≤ 0)) = none := by
    rw [List.find?_eq_none]
    intro t ht
    unfold okL at hok
    rw [List.all_eq_true] at hok
    simpa using hok t ht
  unfold firstL
  rw [e, List.find?_append, hn]
  have : (!decide (excN v s i k ≤ 0)) = true := by simpa using he
  rw [Option.none_or, List.find?_cons_of_pos (by simpa using he)]
theorem ints_three (w : World) (a b c : Int) : Ints (w.alloc (.cells #[.int .i64 a, .int .i64 b, .int .i64 c] 3)) (some ⟨w.heap.size, 0, none⟩) 3 [a, b, c] := by
  refine ⟨rfl, by omega, fun _ => ⟨w.heap.size, 0, rfl, fun j hj => ?_⟩⟩
  rw [World.cell?_alloc_at _ _ _ _ rfl]
  match j, hj with
  | 0, _ => rfl
  | 1, _ => rfl
  | 2, _ => rfl
set_option maxHeartbeats 400000 in
theorem violFn3_no (E : Int) (A : Option Addr) (n c : Nat) (v : List Int) (s i k bo bf : Nat) (w : World) (hv : Ints w A n v) (hf : isFn E v = true) (hs : s < n) (hi : (i : Int) < E) (hk : (k : Int) < E)
    (ho : OneS w bo (.slice none 0 0)) (f0 : w.cell? ⟨bf, 0, none⟩ = some (.int .i64 E)) (f1 : w.cell? ⟨bf, 1, none⟩ = some (.slice A n c)) (hx : ¬ excN v s i k ≤ 0) :
    Calls Try.prog 135 #[.int .i64 s, .int .i64 i, .int .i64 k, .pointer (some ⟨bf, 0, none⟩), .pointer (some ⟨bo, 0, none⟩)] w fun e w' => e = .returned (.bool false) ∧ w.grownBy w' (some bo) ∧ ∃ g, w'.cell? ⟨bo, 0, none⟩ = some (.slice (some g) 3 3) ∧ Ints w' (some g) 3 [(s : Int), (i : Int), (k : Int)] := by
  have hx' : 0 < excN v s i k := by omega
  have hlt := ho.lt
  go_enter Try.func135, Try.ntmps135
  go_wp2_with fail
  refine (excess_any E A n c v s i k _ hv hf hs hi hk).mono ?_
  rintro e w1 ⟨rfl, hb1⟩
  have h1 := ho.below hb1 hlt
  have m1 := h1.cell
  have mf := h1.frozen
  have hlt1 := h1.lt
  go_wp2
  go_ret
  have h2 := h1.set_ (.slice (some ⟨w1.heap.size, 0, none⟩) 3 3)
  have hg2 := grown_set2 (k := 0) (grown_of_below hb1 (some bo)) (.slice (some ⟨w1.heap.size, 0, none⟩) 3 3)
  refine ⟨rfl, grown_trans2 hg2 (grown_of_below ((Below.refl _ _).alloc (Nat.le_refl _) _) _), _, (h2.below ((Below.refl _ _).alloc (Nat.le_refl _) _) h2.lt).cell, ?_⟩
  have h3 := ints_three (w1.setCell ⟨bo, 0, none⟩ (.slice (some ⟨w1.heap.size, 0, none⟩) 3 3)) (s : Int) (i : Int) (k : Int)
  have z : (w1.setCell ⟨bo, 0, none⟩ (.slice (some ⟨w1.heap.size, 0, none⟩) 3 3)).heap.size = w1.heap.size := by simp [World.setCell]
  rw [z] at h3
  exact h3
set_option maxHeartbeats 1000000 in
theorem visitViol3_any (E : Int) (A : Option Addr) (n c : Nat) (v : List Int) (bo bf : Nat) (w : World) (hv : Ints w A n v) (hf : isFn E v = true)
    (hm : OneS w bo (.slice none 0 0)) (f0 : w.cell? ⟨bf, 0, none⟩ = some (.int .i64 E)) (f1 : w.cell? ⟨bf, 1, none⟩ = some (.slice A n c)) :
    Calls Try.prog 134 #[.agg #[.int .i64 E, .slice A n c], .func (.func 135) #[] #[.pointer (some ⟨bf, 0, none⟩), .pointer (some ⟨bo, 0, none⟩)]] w fun e w' => e = .returned (.tuple #[]) ∧
      ((okL v (allP E.toNat n) = true ∧ Below w.heap.size w w') ∨ (okL v (allP E.toNat n) = false ∧ w.grownBy w' (some bo) ∧ ∃ g, w'.cell? ⟨bo, 0, none⟩ = some (.slice (some g) 3 3) ∧ Ints w' (some g) 3 (firstL v (allP E.toNat n)))) := by
  have Hf := hide hf
  obtain ⟨N, rfl, fo⟩ := FnOk.of hf hv
  clear hf
  have hN := fo.hN
  have n32 := fo.n32
  have hbm := hm.lt
  have hbf := World.block_lt_of_cell? _ _ f0
  rw [Int.toNat_natCast]
  go_enter Try.func134, Try.ntmps134
  go_wp2
  go_loopw [10] (fun t wr => ∃ s : Nat, s ≤ n ∧ t = .int .i64 s ∧ okL v (allP N s) = true ∧ FB w wr N A n c) (fun t _ => n - (intOf t).toNat)
  case atStart => exact ⟨0, Nat.zero_le _, rfl, rfl, FB.start w N A n c⟩
  case round =>
    obtain ⟨s, hs, rfl, hall, hFBo⟩ := hrel
    obtain ⟨hg, hz, r0, r1⟩ := hFBo.parts
    have Hall := hide hall; clear hall
    by_cases hlt : s < n
    · have hs10 : s < 1024 := by omega
      go_wp2
      clear r0 r1
      go_loopw [15] (fun t wr => ∃ i : Nat, i ≤ N ∧ t = .int .i64 i ∧ okL v (allP N s ++ colP N s i) = true ∧ FB w wr N A n c) (fun t _ => N - (intOf t).toNat)
      case atStart => exact ⟨0, Nat.zero_le _, rfl, by simpa [colP] using Hall.out, hFBo⟩
      case round =>
        obtain ⟨i, hi, rfl, halli, hFBi⟩ := hrel
        obtain ⟨hgi, hzi, r0, r1⟩ := hFBi.parts
        have Halli := hide halli; clear halli
        by_cases hlti : i < N
        · go_wp2
          clear r0 r1
          go_loopw [6] (fun t wr => ∃ k : Nat, i < k ∧ k ≤ N ∧ t = .int .i64 k ∧ okL v (allP N s ++ colP N s i ++ rowP s i k) = true ∧ FB w wr N A n c) (fun t _ => N - (intOf t).toNat)
          case atStart => exact ⟨i + 1, by omega, by omega, by go_num, by rw [rowP_start, List.append_nil]; exact Halli.out, hFBi⟩
          case round =>
            obtain ⟨k, hk1, hk, rfl, hallk, hFBk⟩ := hrel
            obtain ⟨hgk, hzk, r0, r1⟩ := hFBk.parts
            have Hallk := hide hallk; clear hallk
            by_cases hltk : k < N
            · have hsn := hide (rowP_snoc (s := s) hk1)
              cases h1 : hasB s i
              · cases h2 : hasB s k
                · have e0 := (hgk.cell (p := ⟨bf, 0, none⟩) hbf).trans f0
                  have e1 := (hgk.cell (p := ⟨bf, 1, none⟩) hbf).trans f1
                  by_cases hx : excN v s i k ≤ 0
                  · have HG := hide (violFn_ok N A n c v s i k bo bf wr (hv.below hgk (Nat.le_refl _)) Hf.out hlt (by omega) (by omega) (hm.below hgk hbm) e0 e1 hx)
                    have hnx := hide (show okL v (allP N s ++ colP N s i ++ rowP s i (k + 1)) = true by rw [hsn.out, show offB s i k = true by simp [offB, h1, h2], if_pos rfl, ← List.append_assoc, okL_snoc, Hallk.out]; simpa using hx)
                    clear e0 e1
                    go_wp2_with fail
                    refine HG.out.mono ?_
                    rintro e w2 ⟨rfl, hb2⟩
                    go_wp2
                    go_roundw
                    case rel => exact ⟨k + 1, by omega, by omega, by go_num, hnx.out, hFBk.step hb2⟩
                    case measure => simp [intOf]; omega
                  · have HG := hide (violFn3_no N A n c v s i k bo bf wr (hv.below hgk (Nat.le_refl _)) Hf.out hlt (by omega) (by omega) (hm.below hgk hbm) e0 e1 hx)
                    have hno := hide (okL_no (N := N) hlt hk1 hltk (show offB s i k = true by simp [offB, h1, h2]) hx)
                    have hfi := hide (first_at hlt hlti hk1 hltk (show offB s i k = true by simp [offB, h1, h2]) hx Hallk.out)
                    clear e0 e1
                    go_wp2_with fail
                    refine HG.out.mono ?_
                    rintro e w2 ⟨rfl, hg2, g, hc2, hi2⟩
                    go_wp2
                    refine bodyPost_ret (results_none rfl _ _ _) rfl ?_
                    exact ⟨rfl, .inr ⟨hno.out, grown_trans2 (grown_of_below hgk _) hg2, g, hc2, by rw [hfi.out]; exact hi2⟩⟩
                · have hnx := hide (show okL v (allP N s ++ colP N s i ++ rowP s i (k + 1)) = true by rw [hsn.out, show offB s i k = false by simp [offB, h2]]; simpa using Hallk.out)
                  go_wp2
                  go_roundw
                  case rel => exact ⟨k + 1, by omega, by omega, by go_num, hnx.out, hFBk⟩
                  case measure => simp [intOf]; omega
              · have hnx := hide (show okL v (allP N s ++ colP N s i ++ rowP s i (k + 1)) = true by rw [hsn.out, show offB s i k = false by simp [offB, h1]]; simpa using Hallk.out)
                go_wp2
                go_roundw
                case rel => exact ⟨k + 1, by omega, by omega, by go_num, hnx.out, hFBk⟩
                case measure => simp [intOf]; omega
            · obtain rfl : k = N := by omega
              have hnx := hide (show okL v (allP k s ++ colP k s (i + 1)) = true by rw [colP_snoc, ← List.append_assoc]; exact Hallk.out)
              go_wp2
              go_roundw
              case rel => exact ⟨i + 1, by omega, by go_num, hnx.out, hFBk⟩
              case measure => simp [intOf]; omega
        · obtain rfl : i = N := by omega
          have hnx := hide (show okL v (allP i (s + 1)) = true by rw [allP_snoc]; exact Halli.out)
          go_wp2
          go_roundw
          case rel => exact ⟨s + 1, by omega, by go_num, hnx.out, hFBi⟩
          case measure => simp [intOf]; omega
    · obtain rfl : s = n := by omega
      go_wp2
      go_end0
      exact ⟨rfl, .inl ⟨Hall.out, hg⟩⟩
theorem violation3_any (E : Int) (A : Option Addr) (n c : Nat) (v : List Int) (w : World) (hv : Ints w A n v) :
    Calls Try.prog 12 #[.agg #[.int .i64 E, .slice A n c]] w fun e w' => ∃ B r cr, e = .returned (.tuple #[.slice B r cr, .bool (violB E v)]) ∧ Ints w' B r (violL E v) ∧ Below w.heap.size w w' := by
  cases hf : isFn E v
  · have e0 : violB E v = false := by simp [violB, hf]
    have e1 := hide (show violL E v = [] by simp [violL, hf])
    rw [e0]; clear e0
    go_enter Try.func12, Try.ntmps12
    go_wp2_with fail
    refine (isFunction_any _ _ _ _ v _ (hv.alloc _)).mono ?_
    rintro e w1 ⟨rfl, hb1⟩
    rw [hf]
    go_wp2
    go_ret2
    exact ⟨_, _, _, rfl, by rw [e1.out]; exact Ints.nil_ _ _, ((FB.start w E A n c).step hb1).1⟩
  · have Hf := hide hf
    have hvl := hv.len
    have e0 : violB E v = !okL v (allP E.toNat n) := by simp [violB, hf, hvl]
    have e1 := hide (show violL E v = firstL v (allP E.toNat n) by simp [violL, hf, hvl])
    rw [e0]; clear e0 hf hvl
    have hmf : ∀ (fn : Fn) (first cap : Array Value) (w : World), (Instr.makeFunc fn first cap).run Try.prog w = .ok (.func fn first cap) w := fun _ _ _ _ => rfl
    go_enter Try.func12, Try.ntmps12
    go_wp2_with fail
    refine (isFunction_any _ _ _ _ v _ (hv.alloc _)).mono ?_
    rintro e w1 ⟨rfl, hb1⟩
    have hFB := (FB.start w E A n c).step hb1
    obtain ⟨hbel, hz, r0, r1⟩ := hFB.parts
    rw [Hf.out]
    have hB1 := (Below.refl w1.heap.size w1).alloc (Nat.le_refl _) (.cells #[.slice none 0 0] 24)
    have hG := visitViol3_any E A n c v w1.heap.size w.heap.size (w1.alloc (.cells #[.slice none 0 0] 24)) ((hv.below hbel (Nat.le_refl _)).alloc _) Hf.out (heap_alloc_new w1 _) ((hB1.cell (p := ⟨w.heap.size, 0, none⟩) hz).trans r0) ((hB1.cell (p := ⟨w.heap.size, 1, none⟩) hz).trans r1)
    have HG := hide hG; clear hG
    go_wp2_with fail
    refine HG.out.mono ?_
    rintro e w2 ⟨rfl, ⟨hok, hb2⟩ | ⟨hok, hg2, g, hc2, hi2⟩⟩
    · have Hok := hide hok; clear hok
      have m2 := (hb2.cell (p := ⟨w1.heap.size, 0, none⟩) (by simp)).trans (OneS.cell (heap_alloc_new w1 _))
      go_wp2
      go_quiet (fail)
      go_wp2
      go_ret2
      exact ⟨_, _, _, by rw [Hok.out]; rfl, by rw [e1.out, first_none Hok.out]; exact Ints.nil_ _ _, below_drewN (hbel.trans ((hB1.trans (hb2.mono (by simp))).mono hbel.size)) _⟩
    · have Hok := hide hok; clear hok
      have Hi2 := hide hi2; clear hi2
      go_wp2
      go_quiet (fail)
      go_wp2
      go_ret2
      refine ⟨_, _, _, by rw [Hok.out]; rfl, ?_, below_drewN ((hbel.alloc hbel.size _).grown hg2 (by simp; have := hbel.size; omega) (fun k hk => by injection hk with hk; have := hbel.size; omega)) _⟩
      rw [e1.out]
      exact Hi2.out.below (below_drewN (Below.refl _ _) _) (Nat.le_refl _)
set_option maxHeartbeats 1000000 in
theorem specViolation3_any (E : Int) (A : Option Addr) (n c : Nat) (v : List Int) (w : World) (hv : Ints w A n v) :
    Calls Try.prog 13 #[.agg #[.int .i64 E, .slice A n c]] w fun e w' => ∃ B r cr, e = .returned (.tuple #[.slice B r cr, .bool (violB E v)]) ∧ Ints w' B r (violL E v) ∧ Below w.heap.size w w' := by
  have hF0 := FB.start w E A n c
  cases hf : isFn E v
  · have e0 : violB E v = false := by simp [violB, hf]
    have e1 := hide (show violL E v = [] by simp [violL, hf])
    rw [e0]; clear e0
    go_enter Try.func13, Try.ntmps13
    go_wp2
    go_loopw [4] (fun i wr => i = .int .i64 0 ∧ FB w wr E A n c) (fun _ _ => 0)
    case atStart => exact ⟨rfl, hF0⟩
    case round =>
      obtain ⟨rfl, hFBr⟩ := hrel
      obtain ⟨hbelr, hzr, r0, r1⟩ := hFBr.parts
      go_wp2_with fail
      refine (specIsFunction_any _ _ _ _ v _ (hv.below hbelr (Nat.le_refl _))).mono ?_
      rintro e w1 ⟨rfl, hb1⟩
      rw [hf]
      have hFB1 := hFBr.step hb1
      go_wp2
      go_ret2
      exact ⟨_, _, _, rfl, by rw [e1.out]; exact Ints.nil_ _ _, (hFB1.step ((Below.refl _ _).alloc (Nat.le_refl _) _)).1⟩
  · have Hf := hide hf
    have hvl := hv.len
    have e0 : violB E v = !okL v (allP E.toNat n) := by simp [violB, hf, hvl]
    have e1 := hide (show violL E v = firstL v (allP E.toNat n) by simp [violL, hf, hvl])
    rw [e0]; clear e0 hf hvl
    obtain ⟨N, rfl, fo⟩ := FnOk.of Hf.out hv
    have hN := fo.hN
    have n32 := fo.n32
    rw [Int.toNat_natCast] at e1 ⊢
    go_enter Try.func13, Try.ntmps13
    go_wp2
    go_loopw [4] (fun t wr => ∃ s : Nat, s ≤ n ∧ t = .int .i64 s ∧ okL v (allP N s) = true ∧ FB w wr N A n c) (fun t _ => n - (intOf t).toNat)
    case atStart => exact ⟨0, Nat.zero_le _, rfl, rfl, hF0⟩
    case round =>
      obtain ⟨s, hs, rfl, hall, hFBo⟩ := hrel
      have Hall := hide hall; clear hall
      obtain ⟨hbelo, hzo, r0, r1⟩ := hFBo.parts
      go_wp2_with fail
      refine (specIsFunction_any _ _ _ _ v _ (hv.below hbelo (Nat.le_refl _))).mono ?_
      rintro e w1 ⟨rfl, hb1⟩
      rw [Hf.out]
      have hFB1 := hFBo.step hb1
      clear r0 r1
      obtain ⟨hbel1, hz1, r0, r1⟩ := hFB1.parts
      by_cases hlt : s < n
      · have hs10 : s < 1024 := by omega
        go_wp2
        clear r0 r1
        go_loopw [5] (fun t wr => ∃ i : Nat, i ≤ N ∧ t = .int .i64 i ∧ okL v (allP N s ++ colP N s i) = true ∧ FB w wr N A n c) (fun t _ => N - (intOf t).toNat)
        case atStart => exact ⟨0, Nat.zero_le _, rfl, by simpa [colP] using Hall.out, hFB1⟩
        case round =>
          obtain ⟨i, hi, rfl, halli, hFBi⟩ := hrel
          obtain ⟨hgi, hzi, r0, r1⟩ := hFBi.parts
          have Halli := hide halli; clear halli
          by_cases hlti : i < N
          · go_wp2
            clear r0 r1
            go_loopw [6] (fun t wr => ∃ k : Nat, i < k ∧ k ≤ N ∧ t = .int .i64 k ∧ okL v (allP N s ++ colP N s i ++ rowP s i k) = true ∧ FB w wr N A n c) (fun t _ => N - (intOf t).toNat)
            case atStart => exact ⟨i + 1, by omega, by omega, by go_num, by rw [rowP_start, List.append_nil]; exact Halli.out, hFBi⟩
            case round =>
              obtain ⟨k, hk1, hk, rfl, hallk, hFBk⟩ := hrel
              obtain ⟨hgk, hzk, r0, r1⟩ := hFBk.parts
              have Hallk := hide hallk; clear hallk
              by_cases hltk : k < N
              · have hsn := hide (rowP_snoc (s := s) hk1)
                cases h1 : hasB s i
                · cases h2 : hasB s k
                  · have hG := l3Bad_any N A n c v s i k wr (hv.below hgk (Nat.le_refl _)) fo hlt hlti hltk
                    by_cases hx : excN v s i k ≤ 0
                    · have hnx := hide (show okL v (allP N s ++ colP N s i ++ rowP s i (k + 1)) = true by rw [hsn.out, show offB s i k = true by simp [offB, h1, h2], if_pos rfl, ← List.append_assoc, okL_snoc, Hallk.out]; simpa using hx)
                      rw [show (!decide (excN v s i k ≤ 0)) = false by simp [hx]] at hG
                      have HG := hide hG; clear hG hx
                      go_wp2_with fail
                      refine HG.out.mono ?_
                      rintro e w2 ⟨rfl, m, rfl⟩
                      go_wp2
                      go_roundw
                      case rel => exact ⟨k + 1, by omega, by omega, by go_num, hnx.out, hFBk.drewN _⟩
                      case measure => simp [intOf]; omega
                    · have hno := hide (okL_no (N := N) hlt hk1 hltk (show offB s i k = true by simp [offB, h1, h2]) hx)
                      have hfi := hide (first_at hlt hlti hk1 hltk (show offB s i k = true by simp [offB, h1, h2]) hx Hallk.out)
                      rw [show (!decide (excN v s i k ≤ 0)) = true by simp; omega] at hG
                      have HG := hide hG; clear hG hx
                      go_wp2_with fail
                      refine HG.out.mono ?_
                      rintro e w2 ⟨rfl, m, rfl⟩
                      go_wp2
                      go_ret2
                      exact ⟨_, _, _, by rw [hno.out]; rfl, by rw [e1.out, hfi.out]; exact ints_three _ _ _ _, ((hFBk.drewN m).step ((Below.refl _ _).alloc (Nat.le_refl _) _)).1⟩
                  · have hnx := hide (show okL v (allP N s ++ colP N s i ++ rowP s i (k + 1)) = true by rw [hsn.out, show offB s i k = false by simp [offB, h2]]; simpa using Hallk.out)
                    go_wp2
                    go_roundw
                    case rel => exact ⟨k + 1, by omega, by omega, by go_num, hnx.out, hFBk⟩
                    case measure => simp [intOf]; omega
                · have hnx := hide (show okL v (allP N s ++ colP N s i ++ rowP s i (k + 1)) = true by rw [hsn.out, show offB s i k = false by simp [offB, h1]]; simpa using Hallk.out)
                  go_wp2
                  go_roundw
                  case rel => exact ⟨k + 1, by omega, by omega, by go_num, hnx.out, hFBk⟩
                  case measure => simp [intOf]; omega
              · obtain rfl : k = N := by omega
                have hnx := hide (show okL v (allP k s ++ colP k s (i + 1)) = true by rw [colP_snoc, ← List.append_assoc]; exact Hallk.out)
                go_wp2
                go_roundw
                case rel => exact ⟨i + 1, by omega, by go_num, hnx.out, hFBk⟩
                case measure => simp [intOf]; omega
          · obtain rfl : i = N := by omega
            have hnx := hide (show okL v (allP i (s + 1)) = true by rw [allP_snoc]; exact Halli.out)
            go_wp2
            go_roundw
            case rel => exact ⟨s + 1, by omega, by go_num, hnx.out, hFBi⟩
            case measure => simp [intOf]; omega
      · obtain rfl : s = n := by omega
        go_wp2
        go_ret2
        exact ⟨_, _, _, by rw [Hall.out]; rfl, by rw [e1.out, first_none Hall.out]; exact Ints.nil_ _ _, (hFB1.step ((Below.refl _ _).alloc (Nat.le_refl _) _)).1⟩
end Go.Proofs.Ytokeejachclpeaa
