/- Shapes of results, for the laws of copies. -/
import Derived.Test.YtjpcdbdaimonlaaWithI
import Derived.Test.YtjpcdbdaimonlaaBox
namespace Go.Proofs.Ytjpcdbdaimonlaa
open Go.ChangeShapes Go.WideShapes Go.ChangeAt Go.RowKit
open Go.Shelf
set_option linter.unusedVariables false
set_option maxRecDepth 100000
theorem OwnModL.shape {w : World} {B : Nat} {us : List Value} {m : Mod} (h : OwnMod w B (.agg us.toArray) m) : ∃ (A : Option Addr) (n c : Nat) (A' : Option Addr) (n' c' : Nat), us = [.slice A n c, .slice A' n' c'] ∧ ModR w w.heap.size [.slice A n c, .slice A' n' c'] m := by
  obtain ⟨vs, e, hr⟩ := OwnMod.read h
  obtain ⟨v, r, n1, c1, n2, c2, rfl⟩ := hr.two
  injection e with e
  exact ⟨v, n1, c1, r, n2, c2, List.toArray_inj e, hr⟩
theorem CMod.shape {w : World} {B : Nat} {us : List Value} {m : Mod} {D : List (Nat × Nat)} {xs : List CC} (h : CMod w B us m D xs) : ∃ (A : Option Addr) (n c : Nat) (A' : Option Addr) (n' c' : Nat), us = [.slice A n c, .slice A' n' c'] := by
  obtain ⟨v, r, n1, c1, n2, c2, rfl⟩ := (CMod.read h).two
  exact ⟨v, n1, c1, r, n2, c2, rfl⟩
end Go.Proofs.Ytjpcdbdaimonlaa
