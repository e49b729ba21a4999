/- Draws of rows of ints. -/
import Derived.Test.YtjkgndedffildaaDraw
import Derived.Test.YtjkgndedffildaaInts
import Derived.Maps.AppendAt
import Derived.Laws.AppendOwnNone
namespace Go.Proofs.Ytjkgndedffildaa
open Go.ChangeShapes Go.WideShapes Go.ChangeAt Go.RowKit
open Go.Shelf
set_option linter.unusedVariables false
set_option maxRecDepth 100000

theorem own_butG {w w' : World} {base g : Nat} {e : TypeId} {size n : Nat} {v : Value} {xs : List Value} (h : w.ownsRow base e size v n xs) (hb : ButG g w.heap.size w w') (hg : g < base) : w'.ownsRow base e size v n xs :=
  ⟨h.1, h.2.imp id fun ⟨b, cap, cur, e1, e2, e3, r⟩ => ⟨b, cap, cur, e1, e2, (hb.block b (Array.getElem?_eq_some_iff.1 e3).1 (by omega)).trans e3, r⟩⟩
/-- Every element is in 0..m-1. -/
def InM (m : Int) (xs : List Int) : Prop := ∀ x ∈ xs, 0 ≤ x ∧ x < m
theorem InM.snoc {m x : Int} {xs : List Int} (h : InM m xs) (hx : 0 ≤ x ∧ x < m) : InM m (xs ++ [x]) := fun y hy => by
  rcases List.mem_append.1 hy with h1 | h1
  · exact h y h1
  · rw [List.mem_singleton.1 h1]; exact hx
end Go.Proofs.Ytjkgndedffildaa
