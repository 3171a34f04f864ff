/-
  A region that draws its order, with callees that make memory: one walk in the text's order serves every order, in the class of all worlds that are as w was below its size.
-/
import Derived.Test.YtfmibekefllhjaaCore
import Derived.BigQuiet
namespace Go.Proofs.Ytfmibekefllhjaa
open Go.RowKit

/-- A world that is as w was, below w's size. -/
structure Wc (w : World) where
  at_ : World
  below : Below w.heap.size w at_
instance {w : World} : Nonempty (Wc w) := ⟨⟨w, Below.refl _ _⟩⟩
theorem Wc.size {w : World} (p : Wc w) : w.heap.size ≤ p.at_.heap.size := p.below.size
/-- A cell that w knows is known in every world of the class. -/
theorem wc_cell {w : World} {b o : Nat} {x : Value} (h : w.cell? ⟨b, o, none⟩ = some x) : ∀ p : Wc w, p.at_.cell? ⟨b, o, none⟩ = some x :=
  fun p => (p.below.cell (p := ⟨b, o, none⟩) (World.block_lt_of_cell? _ _ h)).trans h
theorem wc_ints {w : World} {A : Option Addr} {n : Nat} {v : List Int} (h : Ints w A n v) (p : Wc w) : Ints p.at_ A n v := h.below p.below (Nat.le_refl _)
theorem wc_call {P : Program} {f : FuncId} {args : Array Value} {w : World} {p : Wc w} {v : Value}
    (h : Calls P f args p.at_ fun e w' => e = .returned v ∧ Below p.at_.heap.size p.at_ w') : Calls P f args p.at_ fun e w'' => e = .returned v ∧ ∃ q : Wc w, w'' = q.at_ :=
  h.mono fun _ w' ⟨he, hb⟩ => ⟨he, ⟨w', p.below.trans (hb.mono p.below.size)⟩, rfl⟩
theorem wc_same {P : Program} {f : FuncId} {args : Array Value} {w : World} {p : Wc w} {v : Value}
    (h : Calls P f args p.at_ fun e w' => e = .returned v ∧ p.at_ = w') : Calls P f args p.at_ fun e w'' => e = .returned v ∧ ∃ q : Wc w, w'' = q.at_ :=
  h.mono fun _ _ ⟨he, hb⟩ => ⟨he, p, hb.symm⟩
theorem region_below {P : Program} {id : Nat} {Q : Exit → Act → World → Prop} {a : Act} {w : World} {l : List Oper} (hm : P.follows .mixedOrders = true) (hB : Region.lexB .any l.toArray = true)
    (h : wpQuiet P l.toArray (fun w' => ∃ p : Wc w, w' = p.at_) (fun a' => ∀ w', (∃ p : Wc w, w' = p.at_) → Q .normal a' w') l a) : (Code.region id l.toArray true).wp P Q a w :=
  wp_region_quiet (C := fun w' => ∃ p : Wc w, w' = p.at_) hm hB ⟨⟨w.drew, (Below.refl _ _).drew⟩, rfl⟩ (by simpa using h)
end Go.Proofs.Ytfmibekefllhjaa
