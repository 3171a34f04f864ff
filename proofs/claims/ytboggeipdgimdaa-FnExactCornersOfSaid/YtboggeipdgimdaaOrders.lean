/-
  Walks: all orders of the elements, by the program and by the reference.
-/
import Derived.Test.YtboggeipdgimdaaMat
import Derived.Test.YtboggeipdgimdaaLatt
import Derived.Test.YtboggeipdgimdaaRaise
namespace Go.Proofs.Ytboggeipdgimdaa
open Go.RowKit

/-- All orders of N elements that begin with p, of which f are to come. -/
def ordsR (N : Nat) : Nat → List Int → List (List Int)
  | 0, p => [p]
  | f + 1, p => (List.range N).flatMap fun x : Nat => if hasI p (x : Int) then [] else ordsR N f (p ++ [(x : Int)])
def ordsP (N f : Nat) (p : List Int) (k : Nat) : List (List Int) := (List.range k).flatMap fun x : Nat => if hasI p (x : Int) then [] else ordsR N f (p ++ [(x : Int)])
theorem ordsR_succ (N f : Nat) (p : List Int) : ordsR N (f + 1) p = ordsP N f p N := rfl
theorem ordsP_in {N f : Nat} {p : List Int} {k : Nat} (h : hasI p (k : Int) = true) : ordsP N f p (k + 1) = ordsP N f p k := by
  simp [ordsP, List.range_succ, h]
theorem ordsP_out {N f : Nat} {p : List Int} {k : Nat} (h : hasI p (k : Int) = false) : ordsP N f p (k + 1) = ordsP N f p k ++ ordsR N f (p ++ [(k : Int)]) := by
  simp [ordsP, List.range_succ, h]
theorem ordsR_len (N : Nat) : ∀ f p, (ordsR N f p).length ≤ N ^ f
  | 0, p => by simp [ordsR]
  | f + 1, p => by
    have key : ∀ k, (ordsP N f p k).length ≤ k * N ^ f := by
      intro k
      induction k with
      | zero => simp [ordsP]
      | succ k ih =>
        have h1 := ordsR_len N f (p ++ [(k : Int)])
        cases h : hasI p (k : Int)
        · rw [ordsP_out h, List.length_append, Nat.succ_mul]; omega
        · rw [ordsP_in h, Nat.succ_mul]; omega
    rw [ordsR_succ, Nat.pow_succ, Nat.mul_comm]
    exact key N
theorem ordsP_len (N f : Nat) (p : List Int) : ∀ k, (ordsP N f p k).length ≤ k * N ^ f
  | 0 => by simp [ordsP]
  | k + 1 => by
    have ih := ordsP_len N f p k
    have h1 := ordsR_len N f (p ++ [(k : Int)])
    cases h : hasI p (k : Int)
    · rw [ordsP_out h, List.length_append, Nat.succ_mul]; omega
    · rw [ordsP_in h, Nat.succ_mul]; omega
theorem pow4 {N f : Nat} (hN : N ≤ 4) (hf : f ≤ 4) : N ^ f ≤ 256 := by
  have h1 : N ^ f ≤ 4 ^ f := Nat.pow_le_pow_left hN f
  have h2 : 4 ^ f ≤ 4 ^ 4 := Nat.pow_le_pow_right (by omega) hf
  omega
theorem hasI_take {l : List Int} {k : Nat} {x : Int} (hk : k < l.length) : hasI (l.take (k + 1)) x = (hasI (l.take k) x || decide (gv l k = x)) := by
  rw [take_gv hk]
  unfold hasI
  rw [Bool.eq_iff_iff]
  simp only [List.mem_append, List.mem_singleton, Bool.or_eq_true, decide_eq_true_eq]
  constructor
  · rintro (h | h)
    · exact .inl h
    · exact .inr h.symm
  · rintro (h | h)
    · exact .inl h
    · exact .inr h.symm

set_option maxHeartbeats 4000000 in
theorem l8Orders_any (N : Nat) (hN : N ≤ 4) : ∀ (f n : Nat) (A : Option Addr) (c : Nat) (p : List Int) (B0 : Nat) (w : World), n + f = N → Own w B0 A n c p → B0 ≤ w.heap.size →
    Calls Try.prog 80 #[.int .i64 (N : Int), .slice A n c] w fun e w' => ∃ B r cr vs, e = .returned (.slice B r cr) ∧ OwnV w' w.heap.size B r cr vs ∧ RowsAt w' B0 vs (ordsR N f p) ∧ Below w.heap.size w w' := by
  intro f
  induction f with
  | zero =>
    intro n A c p B0 w hnf hp hB
    obtain rfl : n = N := by omega
    clear hnf
    go_enter Try.func80, Try.ntmps80
    go_wp2
    go_ret
    exact ⟨_, 1, 1, [.slice A n c], rfl, ownV_one w (Nat.le_refl _) _, .one ⟨A, n, c, rfl, hp.alloc _⟩, (Below.refl _ _).alloc (Nat.le_refl _) _⟩
  | succ f ih =>
    intro n A c p B0 w hnf hp hB
    have hne : ((n : Int) == (N : Int)) = false := by simp; omega
    have hplen := hide hp.len
    have hn4 : n ≤ 4 := by omega
    have hO := ownV_none w (Nat.le_refl w.heap.size)
    have hB1 := (Below.refl w.heap.size w).alloc (Nat.le_refl _) (.cells #[] 22)
    have IH := hide ih
    have HNF := hide hnf
    clear ih hnf
    go_enter Try.func80, Try.ntmps80
    go_wp2
    clear hne
    go_loopw [5, 6] (fun l t wr => ∃ (k : Nat) (B : Option Addr) (r cr : Nat) (vs : List Value), k ≤ N ∧ t = .int .i64 k ∧ l = .slice B r cr ∧ OwnV wr w.heap.size B r cr vs ∧ RowsAt wr B0 vs (ordsP N f p k) ∧ Below w.heap.size w wr) (fun _ t _ => N - (intOf t).toNat)
    case atStart => exact ⟨0, _, 0, 0, [], Nat.zero_le _, rfl, rfl, hO, trivial, hB1⟩
    clear hO hB1
    case round =>
      obtain ⟨k, B, r, cr, vs, hk, rfl, rfl, hoV, hrows, hbel⟩ := hrel
      have hszw := hbel.size
      by_cases hlt : k < N
      · have hpr := hp.below hbel (Nat.le_refl _)
        have hpi := hpr.ints
        go_wp2
        go_loop [7, 8] (fun u t => ∃ (i : Nat), i ≤ n ∧ t = .int .i64 i ∧ u = .bool (hasI (p.take i) (k : Int))) (fun _ t => n - (intOf t).toNat)
        case atStart => exact ⟨0, Nat.zero_le _, rfl, rfl⟩
        case round =>
          obtain ⟨i, hi, rfl, rfl⟩ := hrel
          by_cases hin : i < n
          · obtain ⟨b, off, rfl, hb, hc⟩ := hpi.at_ hin
            have hst := hide (hasI_take (l := p) (k := i) (x := (k : Int)) (by rw [hplen.out]; exact hin))
            cases hq : hasI (p.take i) (k : Int)
            · rw [hq] at hst
              go_wp2
              go_round
              case rel => exact ⟨i + 1, by omega, by go_num, by rw [hst.out, Bool.false_or]; rfl⟩
              case measure => simp [intOf]; omega
            · rw [hq] at hst
              go_wp2
              go_round
              case rel => exact ⟨i + 1, by omega, by go_num, by rw [hst.out, Bool.true_or]⟩
              case measure => simp [intOf]; omega
          · obtain rfl : i = n := by omega
            have hfull : p.take i = p := List.take_of_length_le (by rw [hplen.out]; omega)
            rw [hfull]
            cases hq : hasI p (k : Int)
            · have hst := hide (ordsP_out (N := N) (f := f) hq)
              have hO0 := own_zero wr (Nat.le_refl wr.heap.size)
              have hI0 := hpi.alloc (.cells #[] 3)
              go_wp2_with (first | (refine wpl_apps (by rfl) (.tmp 40) (.tmp 41) (by rfl) wr.heap.size _ 0 0 [] A i c p (by rfl) (by rfl) hO0 hI0 (by omega) (by omega) (by simp) ?_; intro A1 c1 w2 hown2 hgrow2 hat2; have hp2 : Own w2 wr.heap.size A1 i c1 p := (by simpa using hown2); have hb2 : Below wr.heap.size wr w2 := ((Below.refl wr.heap.size wr).alloc (Nat.le_refl _) (.cells #[] 3)).grown hgrow2 (by simp) (fun k hk => by simp at hk; omega); have hsz2 := hb2.size) | (refine wpl_app (by rfl) (.tmp 42) (.tmp 44) (by rfl) wr.heap.size A1 i c1 w2.heap.size p (k : Int) (by rfl) (by rfl) (hp2.alloc _) (cell_new w2 _) (by omega) (by simp; omega) ?_; intro g3 c3 w3 hown3 hgrow3 hat3 hlt3) | fail)
              have hb3 : Below wr.heap.size wr w3 := app_below hb2 hsz2 hp2 hgrow3 (Below.refl _ _)
              have hsz3 := hb3.size
              have hlen1 : r ≤ 4 * 256 := by
                have h1 := hoV.len
                have h2 := hrows.len
                have h3 := ordsP_len N f p k
                have h4 := pow4 (N := N) (f := f) hN (by have := HNF.out; omega)
                have h5 : k * N ^ f ≤ 4 * 256 := Nat.mul_le_mul (by omega) h4
                omega
              clear hO0 hI0
              refine (IH.out (i + 1) (some ⟨g3, 0, none⟩) c3 (p ++ [(k : Int)]) wr.heap.size w3 (by have := HNF.out; omega) hown3 hsz3).mono ?_
              rintro e w4 ⟨B4, r4, cr4, vs4, rfl, hoV4, hrows4, hb4⟩
              have hb34 : Below wr.heap.size wr w4 := hb3.trans (hb4.mono hsz3)
              have hsz4 := hb4.size
              have hoV' := hoV.below hb34 (Nat.le_refl _)
              have hlen4 : r4 ≤ 256 := by
                have h1 := hoV4.len
                have h2 := hrows4.len
                have h3 := ordsR_len N f (p ++ [(k : Int)])
                have h4 := pow4 (N := N) (f := f) hN (by have := HNF.out; omega)
                omega
              go_wp2_with (refine wpl_appvs (by rfl) (.tmp 38) (.tmp 46) (by rfl) w.heap.size B r cr vs B4 r4 cr4 w3.heap.size vs4 (by rfl) (by rfl) hoV' hoV4 hrows4.slices (by omega) (by omega) (by omega) ?_; intro A5 c5 w5 hoV5 hgrow5 hat5)
              have hk4 : KeptI wr w5 := (KeptI.below hb34).trans (.grown hoV' hgrow5)
              have hk45 : KeptI w4 w5 := .grown hoV' hgrow5
              have hb5 : Below w.heap.size w w5 := (hbel.trans (hb34.mono hszw)).grown hgrow5 (by omega) (fun q hq => by
                rcases hoV'.where_ with h0 | ⟨g', h1, h2, _⟩
                · rw [h0] at hq; cases hq
                · rw [h1] at hq; simp at hq; omega)
              go_roundw
              case rel => exact ⟨k + 1, A5, r + r4, c5, vs ++ vs4, by omega, by go_num, rfl, hoV5, by rw [hst.out]; exact RowsAt.append ((hrows4.less (by omega)).kept hk45) (hrows.kept hk4), hb5⟩
              case measure => simp [intOf]; omega
            · have hst := hide (ordsP_in (N := N) (f := f) hq)
              go_wp2
              go_roundw
              case rel => exact ⟨k + 1, B, r, cr, vs, by omega, by go_num, rfl, hoV, by rw [hst.out]; exact hrows, hbel⟩
              case measure => simp [intOf]; omega
      · obtain rfl : k = N := by omega
        go_wp2
        go_ret
        exact ⟨B, r, cr, vs, rfl, hoV, hrows, hbel⟩

/-! by the program: list by list -/
def extI (L : List Int) (k : Nat) : List (List Int) := ((List.range k).filter fun e : Nat => !hasI L (e : Int)).map fun e : Nat => L ++ [(e : Int)]
def nextI (N : Nat) (Ls : List (List Int)) : List (List Int) := Ls.flatMap fun L => extI L N
def ordsI (N : Nat) : Nat → List (List Int)
  | 0 => [[]]
  | j + 1 => nextI N (ordsI N j)
theorem ords_same : ∀ N : Fin 5, ordsI N.val N.val = ordsR N.val N.val [] := by decide +kernel
theorem extI_in {L : List Int} {k : Nat} (h : hasI L (k : Int) = true) : extI L (k + 1) = extI L k := by
  simp [extI, List.range_succ, List.filter_append, h]
theorem extI_out {L : List Int} {k : Nat} (h : hasI L (k : Int) = false) : extI L (k + 1) = extI L k ++ [L ++ [(k : Int)]] := by
  simp [extI, List.range_succ, List.filter_append, h]
theorem extI_len (L : List Int) (k : Nat) : (extI L k).length ≤ k := by
  unfold extI
  rw [List.length_map]
  exact Nat.le_trans (List.length_filter_le _ _) (by simp)
theorem nextI_take {N : Nat} {Ls : List (List Int)} {k : Nat} (hk : k < Ls.length) : nextI N (Ls.take (k + 1)) = nextI N (Ls.take k) ++ extI (Ls.getD k []) N := by
  unfold nextI
  have e : Ls.getD k [] = Ls[k] := by simp [List.getD, List.getElem?_eq_getElem hk]
  rw [List.take_add_one, List.getElem?_eq_getElem hk, e, List.flatMap_append]
  simp only [Option.toList_some, List.flatMap_cons, List.flatMap_nil, List.append_nil]
theorem nextI_len (N : Nat) : ∀ (Ls : List (List Int)), (nextI N Ls).length ≤ Ls.length * N
  | [] => by simp [nextI]
  | L :: Ls => by
    have h1 := nextI_len N Ls
    have h2 := extI_len L N
    simp only [nextI, List.flatMap_cons, List.length_append, List.length_cons, Nat.succ_mul] at *
    omega
theorem ordsI_len (N : Nat) : ∀ j, (ordsI N j).length ≤ N ^ j
  | 0 => by simp [ordsI]
  | j + 1 => by
    have h1 := ordsI_len N j
    have h2 := nextI_len N (ordsI N j)
    have h3 := Nat.mul_le_mul_right N h1
    rw [Nat.pow_succ]
    unfold ordsI
    omega
theorem ordsI_elem (N : Nat) : ∀ j, ∀ L ∈ ordsI N j, L.length = j
  | 0, L, h => by simp [ordsI] at h; rw [h]; rfl
  | j + 1, L, h => by
    simp only [ordsI, nextI, List.mem_flatMap, extI, List.mem_map] at h
    obtain ⟨K, hK, e, _, rfl⟩ := h
    simp [ordsI_elem N j K hK]
theorem getD_mem {Ls : List (List Int)} {k : Nat} (hk : k < Ls.length) : Ls.getD k [] ∈ Ls := by
  simp [List.getD, List.getElem?_eq_getElem hk]
set_option maxHeartbeats 4000000 in
theorem ordersOf_any (N : Nat) (w : World) (hN : N ≤ 4) :
    Calls Try.prog 84 #[.int .i64 (N : Int)] w fun e w' => ∃ B r cr vs, e = .returned (.slice B r cr) ∧ OwnV w' w.heap.size B r cr vs ∧ RowsAt w' w.heap.size vs (ordsI N N) ∧ Below w.heap.size w w' := by
  have hO := ownV_one w (Nat.le_refl w.heap.size) (.slice none 0 0)
  have hB1 := (Below.refl w.heap.size w).alloc (Nat.le_refl _) (.cells #[.slice none 0 0] 22)
  have hR1 : RowsAt (w.alloc (.cells #[.slice none 0 0] 22)) w.heap.size [.slice none 0 0] (ordsI N 0) := ⟨⟨none, 0, 0, rfl, own_nil _ _⟩, trivial⟩
  go_enter Try.func84, Try.ntmps84
  go_wp2
  go_loopw [3, 10] (fun l t wr => ∃ (j : Nat) (B : Option Addr) (r cr : Nat) (vs : List Value), j ≤ N ∧ t = .int .i64 j ∧ l = .slice B r cr ∧ OwnV wr w.heap.size B r cr vs ∧ RowsAt wr w.heap.size vs (ordsI N j) ∧ Below w.heap.size w wr) (fun _ t _ => N - (intOf t).toNat)
  case atStart => exact ⟨0, _, 1, 1, _, Nat.zero_le _, rfl, rfl, hO, hR1, hB1⟩
  clear hO hB1 hR1
  case round =>
    obtain ⟨j, B, r, cr, vs, hj, rfl, rfl, hoV, hrows, hbel⟩ := hrel
    have hszw := hbel.size
    have hrl : r = (ordsI N j).length := by have := hoV.len; have := hrows.len; omega
    have hr256 : (ordsI N j).length ≤ 256 := Nat.le_trans (ordsI_len N j) (pow4 hN (by omega))
    have HRL := hide hrl
    have HEL := hide (ordsI_elem N j)
    clear hrl
    have hr2 : r ≤ 256 := by rw [HRL.out]; exact hr256
    clear hr256
    by_cases hlt : j < N
    · obtain ⟨wq, rfl⟩ : ∃ wq : World, wq = wr := ⟨_, rfl⟩
      have hN0 : OwnV wq wq.heap.size none 0 0 [] := ownV_nil _ _
      go_wp2
      go_loopw [4, 14] (fun l t w2 => ∃ (q : Nat) (B2 : Option Addr) (r2 c2 : Nat) (ws : List Value), q ≤ r ∧ t = .int .i64 q ∧ l = .slice B2 r2 c2 ∧ OwnV w2 wq.heap.size B2 r2 c2 ws ∧ RowsAt w2 wq.heap.size ws (nextI N ((ordsI N j).take q)) ∧ Below wq.heap.size wq w2) (fun _ t _ => r - (intOf t).toNat)
      case atStart => exact ⟨0, none, 0, 0, [], Nat.zero_le _, rfl, rfl, hN0, trivial, Below.refl _ _⟩
      clear hN0
      case round =>
        obtain ⟨q, B2, r2, c2, ws, hq, rfl, rfl, hoW, hrowW, hb2⟩ := hrel
        by_cases hqr : q < r
        · have hoV2 := hoV.below hb2 (Nat.le_refl _)
          obtain ⟨g, rfl, hg1, hg2⟩ := hoV2.form (by omega)
          obtain ⟨AL, nL, cL, hL1, hL2⟩ := hrows.get (k := q) (by rw [← HRL.out]; exact hqr)
          have hcell := hoV2.cell hL1
          have hsz2 := hb2.size
          have hnL : nL = j := by rw [← hL2.len]; exact HEL.out _ (getD_mem (by rw [← HRL.out]; exact hqr))
          have hnL4 : nL ≤ 4 := by omega
          have HNT := hide (nextI_take (N := N) (Ls := ordsI N j) (k := q) (by rw [← HRL.out]; exact hqr))
          have hnlen : (nextI N ((ordsI N j).take q)).length ≤ 256 * 4 := by
            have h1 := nextI_len N ((ordsI N j).take q)
            have h2 : ((ordsI N j).take q).length ≤ 256 := by rw [List.length_take]; omega
            exact Nat.le_trans h1 (Nat.mul_le_mul h2 hN)
          have HNL := hide hnlen
          obtain ⟨L, hLe⟩ : ∃ L, L = (ordsI N j).getD q [] := ⟨_, rfl⟩
          rw [← hLe] at HNT hL2
          clear hnlen hL1 hnL hLe
          go_wp2
          go_loopw [4, 19] (fun l t w3 => ∃ (e : Nat) (B3 : Option Addr) (r3 c3 : Nat) (us : List Value), e ≤ N ∧ t = .int .i64 e ∧ l = .slice B3 r3 c3 ∧ OwnV w3 wq.heap.size B3 r3 c3 us ∧ RowsAt w3 wq.heap.size us (nextI N ((ordsI N j).take q) ++ extI L e) ∧ Below wq.heap.size wq w3) (fun _ t _ => N - (intOf t).toNat)
          case atStart => exact ⟨0, B2, r2, c2, ws, Nat.zero_le _, rfl, rfl, hoW, by simpa [extI] using hrowW, hb2⟩
          case round =>
            obtain ⟨e, B3, r3, c3, us, he, rfl, rfl, hoU, hrowU, hb3⟩ := hrel
            by_cases heN : e < N
            · have hL3 := hL2.below hb3 (Nat.le_refl _)
              have hsz3 := hb3.size
              cases hh : hasI L (e : Int)
              · have HX := hide (extI_out hh)
                have HH := hide hh
                have hr3 : r3 ≤ 256 * 4 + 4 := by
                  have h1 := hoU.len
                  have h2 := hrowU.len
                  have h3 := extI_len L e
                  have h4 := HNL.out
                  rw [List.length_append] at h2
                  omega
                clear hh
                go_wp2_with fail
                refine (slicesContains_any _ _ _ _ _ _ hL3.ints).mono ?_
                rintro e1 w4 ⟨rfl, rfl⟩
                rw [HH.out]
                go_wp2_with fail
                refine (clone_any _ _ _ _ _ hL3.ints (by omega)).mono ?_
                rintro e1 w4 ⟨A4, c4, rfl, ho4, hb4⟩
                have hsz4 := hb4.size
                have hb34 : Below wq.heap.size wq w4 := hb3.trans (hb4.mono hsz3)
                go_wp2_with (first | (refine wpl_app (by rfl) (.tmp 28) (.tmp 30) (by rfl) wr.heap.size A4 nL c4 w4.heap.size L (e : Int) (by rfl) (by rfl) (ho4.alloc _) (cell_new w4 _) (by omega) (by simp; omega) ?_; intro g5 c5 w5 ho5 hgrow5 hat5 hlt5; have hb5 := (app_below hb4 hsz4 ho4 hgrow5 (Below.refl _ _)); have hsz5 := hb5.size; have hoU5 := (hoU.below hb5 (Nat.le_refl _)); have hoU5a := (hoU5.alloc (.cells #[.slice (some ⟨g5, 0, none⟩) (nL + 1) c5] 22)); have hone := ownV_one w5 (Nat.le_refl w5.heap.size) (.slice (some ⟨g5, 0, none⟩) (nL + 1) c5)) | (refine wpl_appvs (by rfl) (.tmp 26) (.tmp 32) (by rfl) wq.heap.size B3 r3 c3 us _ 1 1 w5.heap.size _ (by rfl) (by rfl) hoU5a hone (by simp) (by omega) (by omega) (by simp; omega) ?_; intro A6 c6 w6 ho6 hgrow6 hat6) | fail)
                have hk56 : KeptI w5 w6 := ((KeptI.refl w5).alloc _).trans (.grown hoU5a hgrow6)
                have hk36 : KeptI wr w6 := (KeptI.below hb5).trans hk56
                have hb6 : Below wq.heap.size wq w6 := ((hb3.trans (hb5.mono hsz3)).alloc (by omega) _).grown hgrow6 (by simp; omega) (fun q hq => by
                  rcases hoU5a.where_ with h0 | ⟨g', h1, h2, _⟩
                  · rw [h0] at hq; cases hq
                  · rw [h1] at hq; simp at hq; omega)
                have hrowN : RowsAt w6 wq.heap.size (us ++ [.slice (some ⟨g5, 0, none⟩) (nL + 1) c5]) (nextI N ((ordsI N j).take q) ++ extI L (e + 1)) := by
                  rw [HX.out, ← List.append_assoc]
                  exact RowsAt.append (.one ⟨_, _, _, rfl, (ho5.keptI hk56).less (by omega)⟩) (hrowU.kept hk36)
                go_roundw
                case rel => exact ⟨e + 1, A6, r3 + 1, c6, _, by omega, by go_num, rfl, ho6, hrowN, hb6⟩
                case measure => simp [intOf]; omega
              · have HX := hide (extI_in hh)
                have HH := hide hh
                clear hh
                go_wp2_with fail
                refine (slicesContains_any _ _ _ _ _ _ hL3.ints).mono ?_
                rintro e1 w4 ⟨rfl, rfl⟩
                rw [HH.out]
                go_wp2
                go_roundw
                case rel => exact ⟨e + 1, B3, r3, c3, us, by omega, by go_num, rfl, hoU, by rw [HX.out]; exact hrowU, hb3⟩
                case measure => simp [intOf]; omega
            · obtain rfl : e = N := by omega
              go_wp2
              go_roundw
              case rel => exact ⟨q + 1, B3, r3, c3, us, by omega, by go_num, rfl, hoU, by rw [HNT.out]; exact hrowU, hb3⟩
              case measure => simp [intOf]; omega
        · obtain rfl : q = r := by omega
          have ht : (ordsI N j).take q = ordsI N j := List.take_of_length_le (by rw [← HRL.out]; exact Nat.le_refl _)
          rw [ht] at hrowW
          have hsz2 := hb2.size
          go_wp2
          go_roundw
          case rel => exact ⟨j + 1, B2, r2, c2, ws, by omega, by go_num, rfl, hoW.less hszw, hrowW.less hszw, hbel.trans (hb2.mono hszw)⟩
          case measure => simp [intOf]; omega
    · obtain rfl : j = N := by omega
      go_wp2
      go_ret
      exact ⟨B, r, cr, vs, rfl, hoV, hrows, hbel⟩
end Go.Proofs.Ytboggeipdgimdaa
