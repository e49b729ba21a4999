/- The edges of a diagram: plain lists. No program in sight. -/
import Derived.Test.YtfmdgdamelkelaaPlain
namespace Go.Proofs.Ytfmdgdamelkelaa
set_option linter.unusedVariables false
set_option maxRecDepth 100000

/-- the edge of node a of layer i at v, or -1. -/
def edge (d : List (List (List Int))) (i a v : Nat) : Int := ((((d[i]?.getD [])[a]?).getD [])[v]?).getD (-1)
theorem edge_of {d : List (List (List Int))} {i a v : Nat} {l : List (List Int)} {r : List Int} {x : Int} (hl : d[i]? = some l) (hr : l[a]? = some r) (hx : r[v]? = some x) : edge d i a v = x := by
  unfold edge; rw [hl]; simp [hr, hx]
theorem edge_some {d : List (List (List Int))} {i a v : Nat} (h : 0 ≤ edge d i a v) : ∃ l r, d[i]? = some l ∧ l[a]? = some r ∧ r[v]? = some (edge d i a v) := by
  unfold edge at h ⊢
  cases h1 : d[i]? with
  | none => rw [h1] at h; simp at h
  | some l =>
    rw [h1] at h
    simp only [Option.getD_some] at h ⊢
    cases h2 : l[a]? with
    | none => rw [h2] at h; simp at h
    | some r =>
      rw [h2] at h
      simp only [Option.getD_some] at h ⊢
      cases h3 : r[v]? with
      | none => rw [h3] at h; simp at h
      | some x => exact ⟨l, r, rfl, h2, by simp [h3]⟩
end Go.Proofs.Ytfmdgdamelkelaa
