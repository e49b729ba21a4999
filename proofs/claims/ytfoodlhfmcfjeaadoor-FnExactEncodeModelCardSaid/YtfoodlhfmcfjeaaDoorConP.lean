/- Plain Lean: when a constraint is valid. No program in sight. -/
import Derived.Test.YtfoodlhfmcfjeaaDoorCon
namespace Go.Proofs.YtfoodlhfmcfjeaaDoor
open Go.RowKit
set_option linter.unusedVariables false
set_option maxRecDepth 100000

/-- the i-th number is not among those before it. -/
def disAt (xs : List Int) (i : Nat) : Bool := match xs[i]? with | some x => !decide (x ∈ xs.take i) | none => true
def disF (xs : List Int) : Bool := (List.range xs.length).all (disAt xs)
theorem disAt_eq {xs : List Int} {i : Nat} {x : Int} (h : xs[i]? = some x) : disAt xs i = !decide (x ∈ xs.take i) := by unfold disAt; rw [h]
theorem disF_no {xs : List Int} {i : Nat} (hi : i < xs.length) (h : disAt xs i = false) : disF xs = false := by
  cases h2 : disF xs
  · rfl
  · unfold disF at h2
    rw [List.all_eq_true] at h2
    rw [h2 i (List.mem_range.2 hi)] at h; cases h
theorem disF_yes {xs : List Int} {n : Nat} (hn : xs.length = n) (h : UpTo (disAt xs) n) : disF xs = true := by
  unfold disF
  rw [List.all_eq_true]
  intro i hi
  exact h i (by rw [← hn]; exact List.mem_range.1 hi)
def rowIn (n : Int) (lo hi : Int) (r : List Int) : Bool := ((r.length : Int) == n) && r.all fun x => inB x lo hi
def rowsOk (rows : List (List Int)) (n lo hi : Int) : Bool := inB rows.length 1 8 && rows.all (rowIn n lo hi)
def noR (c : Con) : Bool := ((c.rows.length : Int) == 0)
def noB (c : Con) : Bool := (c.bound == 0)
def allA (c : Con) (lo hi : Int) : Bool := c.args.all fun x => inB x lo hi
def lenA (c : Con) (n : Int) : Bool := ((c.args.length : Int) == n)
/-- the numbers of a constraint are those of its kind. -/
def fitsF (c : Con) : Bool :=
  if c.kind = 1 then lenA c c.vars.length && (allA c (-9) 9 && (inB c.bound (-999) 999 && noR c))
  else if c.kind = 2 then ((c.vars.length : Int) == 2) && (lenA c 1 && (allA c (-9) 9 && (noB c && noR c)))
  else if c.kind = 3 then lenA c 0 && (noB c && noR c)
  else if c.kind = 9 then lenA c 0 && (noB c && noR c)
  else if c.kind = 4 then ((c.vars.length : Int) == 2) && (inB c.args.length 1 6 && (allA c 0 5 && (noB c && noR c)))
  else if c.kind = 5 then lenA c 0 && (noB c && rowsOk c.rows c.vars.length 0 5)
  else if c.kind = 6 then lenA c 1 && (allA c 0 5 && (inB c.bound 0 4 && noR c))
  else if c.kind = 7 then lenA c (wrap64 (2 * c.vars.length)) && (allA c 0 9 && (inB c.bound 0 9 && noR c))
  else if c.kind = 8 then rowsOk c.rows 6 (-1) (wrap64 ((c.rows.length : Int) - 1)) && (allA c 0 (wrap64 ((c.rows.length : Int) - 1)) && (disF c.args && noB c))
  else false
theorem fits1 {c : Con} (h : c.kind = 1) : fitsF c = (((c.args.length : Int) == (c.vars.length : Int)) && ((c.args.all fun x => inB x (-9) 9) && (inB c.bound (-999) 999 && ((c.rows.length : Int) == 0)))) := by
  unfold fitsF lenA allA noB noR
  simp only [h]; rfl
theorem fits2 {c : Con} (h : c.kind = 2) : fitsF c = (((c.vars.length : Int) == 2) && (((c.args.length : Int) == 1) && ((c.args.all fun x => inB x (-9) 9) && ((c.bound == 0) && ((c.rows.length : Int) == 0))))) := by
  unfold fitsF lenA allA noB noR
  simp only [h]; rfl
theorem fits3 {c : Con} (h : c.kind = 3) : fitsF c = (((c.args.length : Int) == 0) && ((c.bound == 0) && ((c.rows.length : Int) == 0))) := by
  unfold fitsF lenA allA noB noR
  simp only [h]; rfl
theorem fits9 {c : Con} (h : c.kind = 9) : fitsF c = (((c.args.length : Int) == 0) && ((c.bound == 0) && ((c.rows.length : Int) == 0))) := by
  unfold fitsF lenA allA noB noR
  simp only [h]; rfl
theorem fits4 {c : Con} (h : c.kind = 4) : fitsF c = (((c.vars.length : Int) == 2) && (inB (c.args.length : Int) 1 6 && ((c.args.all fun x => inB x 0 5) && ((c.bound == 0) && ((c.rows.length : Int) == 0))))) := by
  unfold fitsF lenA allA noB noR
  simp only [h]; rfl
theorem fits5 {c : Con} (h : c.kind = 5) : fitsF c = (((c.args.length : Int) == 0) && ((c.bound == 0) && rowsOk c.rows (c.vars.length : Int) 0 5)) := by
  unfold fitsF lenA allA noB noR
  simp only [h]; rfl
theorem fits6 {c : Con} (h : c.kind = 6) : fitsF c = (((c.args.length : Int) == 1) && ((c.args.all fun x => inB x 0 5) && (inB c.bound 0 4 && ((c.rows.length : Int) == 0)))) := by
  unfold fitsF lenA allA noB noR
  simp only [h]; rfl
theorem fits7 {c : Con} (h : c.kind = 7) : fitsF c = (((c.args.length : Int) == wrap64 (2 * (c.vars.length : Int))) && ((c.args.all fun x => inB x 0 9) && (inB c.bound 0 9 && ((c.rows.length : Int) == 0)))) := by
  unfold fitsF lenA allA noB noR
  simp only [h]; rfl
theorem fits8 {c : Con} (h : c.kind = 8) : fitsF c = (rowsOk c.rows 6 (-1) (wrap64 ((c.rows.length : Int) - 1)) && ((c.args.all fun x => inB x 0 (wrap64 ((c.rows.length : Int) - 1))) && (disF c.args && (c.bound == 0)))) := by
  unfold fitsF lenA allA noB noR
  simp only [h]; rfl
theorem fits0 {c : Con} (h1 : c.kind ≠ 1) (h2 : c.kind ≠ 2) (h3 : c.kind ≠ 3) (h9 : c.kind ≠ 9) (h4 : c.kind ≠ 4) (h5 : c.kind ≠ 5) (h6 : c.kind ≠ 6) (h7 : c.kind ≠ 7) (h8 : c.kind ≠ 8) : fitsF c = false := by
  unfold fitsF
  simp only [h1, h2, h3, h9, h4, h5, h6, h7, h8, if_false]
/-- valid, but for the number of variables' own range. -/
def vconF (c : Con) (n : Int) : Bool := inB c.vars.length 1 n && ((c.vars.all fun x => inB x 0 (wrap64 (n - 1))) && (disF c.vars && fitsF c))
def vconstF (c : Con) (n : Int) : Bool := inB n 1 4 && vconF c n
end Go.Proofs.YtfoodlhfmcfjeaaDoor
