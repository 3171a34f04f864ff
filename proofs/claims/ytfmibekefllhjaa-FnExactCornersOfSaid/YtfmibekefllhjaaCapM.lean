/-
  Walks: how much an element can still get; how much it can get from another one.
  Walks: CapacityOf, ExchangeCapacity.
  Walks: vectors raised; dual vectors.
  Walks: dual vectors made.
-/
import Derived.Test.YtfmibekefllhjaaBelM
import Derived.Test.YtfmibekefllhjaaCore
import Derived.Test.YtfmibekefllhjaaSubM
namespace Go.Proofs.Ytfmibekefllhjaa
open Go.RowKit

/-- The least of the wanted values among the first k. -/
def minW (c : Nat → Int) (p : Nat → Bool) : Nat → Option Int
  | 0 => none
  | k + 1 => if p k then (match minW c p k with | none => some (c k) | some m => some (mn m (c k))) else minW c p k
theorem minW_some {c : Nat → Int} {p : Nat → Bool} {j : Nat} (hp : p j = true) : ∀ k, j < k → (minW c p k).isSome = true
  | 0, h => absurd h (by omega)
  | k + 1, h => by
    unfold minW
    by_cases hk : j = k
    · subst hk; rw [if_pos hp]; cases minW c p j <;> rfl
    · have := minW_some (c := c) hp k (by omega)
      split
      · cases minW c p k <;> rfl
      · exact this
theorem minW_bd {c : Nat → Int} {p : Nat → Bool} {a b : Int} {n : Nat} (h : ∀ j, j < n → a ≤ c j ∧ c j ≤ b) : ∀ k, k ≤ n → ∀ m, minW c p k = some m → a ≤ m ∧ m ≤ b
  | 0, _, m, e => by simp [minW] at e
  | k + 1, hk, m, e => by
    have h1 := minW_bd (p := p) h k (by omega)
    have h2 := h k (by omega)
    unfold minW at e
    split at e
    · cases hc : minW c p k with
      | none => rw [hc] at e; simp at e; omega
      | some m' =>
        rw [hc] at e; simp at e
        have := h1 m' hc
        unfold mn at e; split at e <;> omega
    · exact h1 m e
theorem hasB_self {e : Nat} : hasB (2 ^ e) e = true := by unfold hasB; simp
theorem hasB_two {e d : Nat} (h : e ≠ d) : hasB (2 ^ e) d = false := by unfold hasB; rw [Nat.testBit_two_pow]; simp; exact h

def capOk (E : Int) (v x : List Int) (e : Int) : Bool := belowB E v x && inR e 0 (E - 1)
def capV (E : Int) (v x : List Int) (e : Int) : Int := if capOk E v x e then (minW (slk v x) (fun s => hasB s e.toNat) v.length).getD 0 else 0

def excOk (E : Int) (v x : List Int) (e d : Int) : Bool := belowB E v x && (inR e 0 (E - 1) && (inR d 0 (E - 1) && !decide (e = d)))
def excV (E : Int) (v x : List Int) (e d : Int) : Int := if excOk E v x e d then (minW (slk v x) (fun s => hasB s e.toNat && !hasB s d.toNat) v.length).getD 0 else 0
end Go.Proofs.Ytfmibekefllhjaa
namespace Go.Proofs.Ytfmibekefllhjaa
open Go.RowKit

end Go.Proofs.Ytfmibekefllhjaa
namespace Go.Proofs.Ytfmibekefllhjaa
open Go.RowKit

theorem mn_comm (a b : Int) : mn a b = mn b a := by unfold mn; split <;> split <;> omega
theorem gv_set {L : List Int} {e j : Nat} {u : Int} (hj : j < L.length) : gv (L.set e u) j = if e = j then u else gv L j := by
  rw [gv_get (by simpa using hj), List.getElem_set, gv_get hj]
def raiseT (E : Int) (v mo x : List Int) : Nat → List Int
  | 0 => x
  | e + 1 => if gv (raiseT E v mo x e) e < gv mo e then (raiseT E v mo x e).set e (mn (gv (raiseT E v mo x e) e + capV E v (raiseT E v mo x e) (e : Int)) (gv mo e)) else raiseT E v mo x e
theorem raiseT_len (E : Int) (v mo x : List Int) : ∀ e, (raiseT E v mo x e).length = x.length
  | 0 => rfl
  | e + 1 => by
    have ih := raiseT_len E v mo x e
    unfold raiseT; split <;> simp [ih]
theorem capV_bd {E : Int} {v : List Int} (x : List Int) (e : Int) (hf : isFn E v = true) : 0 ≤ capV E v x e ∧ capV E v x e ≤ 26000 := by
  unfold capV
  split
  · rename_i h
    simp only [capOk, Bool.and_eq_true] at h
    obtain ⟨b1, b2, b3, b4, b5⟩ := below_ok h.1
    obtain ⟨N, rfl, hN, hl, ha⟩ := isFn_true hf
    have fo : FnOk N v.length v := ⟨hN, hl, rfl, ha⟩
    cases hm : minW (slk v x) (fun s => hasB s e.toNat) v.length with
    | none => simp
    | some m =>
      have := minW_bd (c := slk v x) (p := fun s => hasB s e.toNat) (a := 0) (b := 26000) (n := v.length) (fun j hj => ⟨b5 j hj, (slk_bd fo b4 hj).2⟩) v.length (Nat.le_refl _) m hm
      simpa using this
  · omega
theorem raiseT_bd {E : Int} {v mo x : List Int} (hf : isFn E v = true) (hx : allIn x (-5000) 5000 = true) (hm : allIn mo (-5000) 5000 = true) (hl : x.length = mo.length) : ∀ e, e ≤ x.length → ∀ j, j < x.length → -5000 ≤ gv (raiseT E v mo x e) j ∧ gv (raiseT E v mo x e) j ≤ 5000
  | 0, _, j, hj => allIn_gv hj hx
  | e + 1, he, j, hj => by
    have ih := raiseT_bd hf hx hm hl e (by omega)
    have h1 := ih j hj
    have h2 := ih e (by omega)
    have h3 := allIn_gv (v := mo) (k := e) (by omega) hm
    have h4 := capV_bd (raiseT E v mo x e) (e : Int) hf
    unfold raiseT
    split
    · rw [gv_set (by rw [raiseT_len]; exact hj)]
      split
      · unfold mn; split <;> omega
      · exact h1
    · exact h1
def raiseOk (E : Int) (v x mo : List Int) : Bool := subB E v && (belowB E v x && longOk E mo)
def raiseL (E : Int) (v x mo : List Int) : List Int := if raiseOk E v x mo then raiseT E v mo x x.length else []
set_option maxHeartbeats 400000 in
theorem clone_any (A : Option Addr) (m c : Nat) (x : List Int) (w : World) (hx : Ints w A m x) (hm : m ≤ 1048576) :
    Calls Try.prog 72 #[.slice A m c] w fun e w' => ∃ B cr, e = .returned (.slice B m cr) ∧ Own w' w.heap.size B m cr x ∧ Below w.heap.size w w' := by
  have q22 : ∀ (w : World) (a : Option Addr) (n c n' c' : Nat), (binOp .eql 22 (.slice a n c) (.slice none n' c')).run Try.prog w = .ok (.bool a.isNone) w := fun w a n c n' c' => Lib.run_eql_slice_nil w _ _ a n c n' c' Try.underlying22
  cases A with
  | none =>
    have h0 : m = 0 := by
      by_cases h : 0 < m
      · obtain ⟨b, off, e, _⟩ := hx.all_ h; cases e
      · omega
    subst h0
    have e : x = [] := List.length_eq_zero_iff.1 hx.len
    subst e
    go_enter Try.func72, Try.ntmps72
    go_wp2
    go_ret
    exact ⟨none, 0, rfl, own_nil _ _, Below.refl _ _⟩
  | some a =>
    have hB1 := (Below.refl w.heap.size w).alloc (Nat.le_refl _) (.cells #[] 3)
    have hO := own_zero w (Nat.le_refl w.heap.size)
    have hI := hx.alloc (.cells #[] 3)
    go_enter Try.func72, Try.ntmps72
    go_wp2_with (refine wpl_apps (by rfl) _ _ (by rfl) w.heap.size _ 0 0 [] (some a) m c x (by rfl) (by rfl) hO hI (by omega) hm (by simp) ?_; intro A' c' w2 hown2 hgrow hat)
    go_ret
    rw [Nat.zero_add] at hown2
    exact ⟨A', c', by simp, hown2, hB1.grown hgrow (by simp) (fun k hk => by simp at hk; omega)⟩
theorem fb_set' {w wr : World} {E : Int} {A : Option Addr} {n c : Nat} (h : FB w wr E A n c) {p : Addr} (hp : w.heap.size < p.block) (u : Value) : FB w (wr.setCell p u) E A n c := by
  have hb := (Below.refl (w.heap.size + 1) wr).setCell (p := p) hp u
  obtain ⟨h1, h2, h3, h4⟩ := h
  refine ⟨h1.setCell (Nat.le_of_lt hp) u, Nat.lt_of_lt_of_le h2 hb.size, ?_, ?_⟩
  · exact (hb.cell (p := ⟨w.heap.size, 0, none⟩) (Nat.lt_succ_self _)).trans h3
  · exact (hb.cell (p := ⟨w.heap.size, 1, none⟩) (Nat.lt_succ_self _)).trans h4
end Go.Proofs.Ytfmibekefllhjaa
namespace Go.Proofs.Ytfmibekefllhjaa
open Go.RowKit

def lowL (N : Nat) : List Int := List.replicate N (-2000)
def zeroL (N : Nat) : List Int := List.replicate N 0
def dvIn (E : Int) (v : List Int) : Bool := grdB E v && subB E v
def dvOk (E : Int) (v : List Int) : Bool := dvIn E v && raiseOk E v (lowL E.toNat) (zeroL E.toNat)
def dvL (E : Int) (v : List Int) : List Int := if dvIn E v then raiseL E v (lowL E.toNat) (zeroL E.toNat) else []
theorem low_snoc (k : Nat) : lowL (k + 1) = lowL k ++ [-2000] := by unfold lowL; rw [List.replicate_succ']
theorem zero_snoc (k : Nat) : zeroL (k + 1) = zeroL k ++ [0] := by unfold zeroL; rw [List.replicate_succ']
theorem low_len (k : Nat) : (lowL k).length = k := by simp [lowL]
theorem range_of {w : World} {B n c : Nat} {A : Option Addr} {xs : List Int} (h : Own w B A n c xs) : ∀ g, A = some ⟨g, 0, none⟩ → B ≤ g ∧ g < w.heap.size := by
  intro g hA
  rcases h.where_ with h0 | ⟨g', h1, h2, h3⟩
  · rw [h0] at hA; cases hA
  · rw [h1] at hA
    simp at hA
    subst hA
    exact ⟨h2, h3⟩
theorem row_of' {w : World} {B n c k : Nat} {A : Option Addr} {xs : List Int} (h : Own w B A n c xs) (hk : A.map (·.block) = some k) : ∃ g, A = some ⟨g, 0, none⟩ ∧ g = k := by
  rcases h.where_ with h0 | ⟨g', h1, h2, h3⟩
  · rw [h0] at hk; cases hk
  · rw [h1] at hk ⊢
    simp at hk
    exact ⟨g', rfl, hk⟩
theorem own_grown {w w' : World} {B n c : Nat} {A : Option Addr} {xs : List Int} {row : Option Nat} (h : Own w B A n c xs) (hg : w.grownBy w' row) (hne : ∀ g, A = some ⟨g, 0, none⟩ → some g = row → False) : Own w' B A n c xs :=
  h.keep fun g hlt ha => hg.block g hlt (hne g ha)
end Go.Proofs.Ytfmibekefllhjaa
