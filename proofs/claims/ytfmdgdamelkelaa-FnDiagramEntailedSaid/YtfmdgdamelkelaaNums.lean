/- Numbers as cells. No program in sight. -/
import Derived.Test.YtfmdgdamelkelaaMem
namespace Go.Proofs.Ytfmdgdamelkelaa
set_option linter.unusedVariables false

/-- numbers as cells. -/
def ints (xs : List Int) : Array Value := (xs.map (.int .i64)).toArray
theorem ints_at {xs : List Int} {k : Nat} {x : Int} (h : xs[k]? = some x) : (ints xs)[k]? = some (.int .i64 x) := by unfold ints; simp [h]
theorem ints_set (xs : List Int) (k : Nat) (x : Int) : (ints xs).setIfInBounds k (.int .i64 x) = ints (xs.set k x) := by
  unfold ints
  rw [List.setIfInBounds_toArray, List.map_set]
theorem ints_zero {Z : Array Value} {m : Nat} (h : Z.toList = List.replicate m (.int .i64 0)) : Z = ints (List.replicate m 0) := by
  unfold ints
  rw [List.map_replicate, ← h]
end Go.Proofs.Ytfmdgdamelkelaa
