/- When values satisfy a constraint, by the program. -/
import Derived.Test.YtjpcdbdaimonlaaSatP
import Derived.Test.YtjpcdbdaimonlaaVmod
namespace Go.Proofs.Ytjpcdbdaimonlaa
open Go.ChangeShapes Go.WideShapes Go.ChangeAt Go.RowKit
open Go.Shelf
set_option linter.unusedVariables false
set_option maxRecDepth 100000

theorem wordF_len (vars xs : List Int) : (wordF vars xs).length = vars.length := List.length_map _
theorem wordF_at {vars xs : List Int} {k : Nat} {v : Int} (h : vars[k]? = some v) : (wordF vars xs)[k]? = some (gat xs v.toNat) := by unfold wordF; rw [List.getElem?_map, h]; rfl
theorem wordF_succ {vars xs : List Int} {k : Nat} {v y : Int} (h : vars[k]? = some v) (hy : xs[v.toNat]? = some y) : (wordF vars xs).take (k + 1) = (wordF vars xs).take k ++ [y] := by
  rw [List.take_add_one, wordF_at h, gat_eq hy]; rfl
end Go.Proofs.Ytjpcdbdaimonlaa
