/- The laws' copies, sizes and comparisons of constraints. -/
import Derived.Test.YtjpcdbdaimonlaaConP
namespace Go.Proofs.Ytjpcdbdaimonlaa
open Go.ChangeShapes Go.WideShapes Go.ChangeAt Go.RowKit
open Go.Shelf
set_option linter.unusedVariables false
set_option maxRecDepth 100000

/-- A constraint in a block of its own. -/
def CBlk (w : World) (b : Nat) (x0 x1 x2 x3 x4 : Value) : Prop := w.heap[b]? = some (.cells #[x0, x1, x2, x3, x4] 53 (0, 0))
section
variable {w w' : World} {b B : Nat} {x0 x1 x2 x3 x4 : Value}
theorem CBlk.cells (h : CBlk w b x0 x1 x2 x3 x4) : w.cell? ⟨b, 0, none⟩ = some x0 ∧ w.cell? ⟨b, 1, none⟩ = some x1 ∧ w.cell? ⟨b, 2, none⟩ = some x2 ∧ w.cell? ⟨b, 3, none⟩ = some x3 ∧ w.cell? ⟨b, 4, none⟩ = some x4 := by
  refine ⟨?_, ?_, ?_, ?_, ?_⟩ <;> rw [cell_of_row w b _ _ _ _ h] <;> rfl
theorem CBlk.frozen (h : CBlk w b x0 x1 x2 x3 x4) (j : Nat) : w.frozen? ⟨b, j, none⟩ = false := frozen_of_row w b j _ _ h
theorem CBlk.below (h : CBlk w b x0 x1 x2 x3 x4) (hb : Below B w w') (hB : b < B) : CBlk w' b x0 x1 x2 x3 x4 := (hb.block b hB).trans h
theorem CBlk.lt (h : CBlk w b x0 x1 x2 x3 x4) : b < w.heap.size := (Array.getElem?_eq_some_iff.1 h).1
theorem CBlk.set0 (h : CBlk w b x0 x1 x2 x3 x4) (u : Value) : CBlk (w.setCell ⟨b, 0, none⟩ u) b u x1 x2 x3 x4 := by unfold CBlk at h ⊢; simp [World.setCell, Array.getElem?_modify, h]
theorem CBlk.set1 (h : CBlk w b x0 x1 x2 x3 x4) (u : Value) : CBlk (w.setCell ⟨b, 1, none⟩ u) b x0 u x2 x3 x4 := by unfold CBlk at h ⊢; simp [World.setCell, Array.getElem?_modify, h]
theorem CBlk.set2 (h : CBlk w b x0 x1 x2 x3 x4) (u : Value) : CBlk (w.setCell ⟨b, 2, none⟩ u) b x0 x1 u x3 x4 := by unfold CBlk at h ⊢; simp [World.setCell, Array.getElem?_modify, h]
theorem CBlk.set3 (h : CBlk w b x0 x1 x2 x3 x4) (u : Value) : CBlk (w.setCell ⟨b, 3, none⟩ u) b x0 x1 x2 u x4 := by unfold CBlk at h ⊢; simp [World.setCell, Array.getElem?_modify, h]
theorem CBlk.set4 (h : CBlk w b x0 x1 x2 x3 x4) (u : Value) : CBlk (w.setCell ⟨b, 4, none⟩ u) b x0 x1 x2 x3 u := by unfold CBlk at h ⊢; simp [World.setCell, Array.getElem?_modify, h]
theorem CBlk.far {g j : Nat} {u : Value} (h : CBlk w b x0 x1 x2 x3 x4) (hg : b ≠ g) : CBlk (w.setCell ⟨g, j, none⟩ u) b x0 x1 x2 x3 x4 := (Below.heap_setCell w ⟨g, j, none⟩ u b hg).trans h
end
theorem OwnCon.set {w : World} {b j base : Nat} {x0 x1 x2 x3 x4 u v : Value} {c : Con} (h : OwnCon w base v c) (hb : CBlk w b x0 x1 x2 x3 x4) : OwnCon (w.setCell ⟨b, j, none⟩ u) base v c := by
  obtain ⟨vv, av, rv, e, h1, h2, h3⟩ := h
  exact ⟨vv, av, rv, e, OwnI.shuns (t := 53) (by decide) _ _ _ _ _ j _ _ _ hb h1, OwnI.shuns (t := 53) (by decide) _ _ _ _ _ j _ _ _ hb h2, OwnOf.shuns (t := 53) (by decide) (OwnI.shuns (by decide)) _ _ _ _ _ j _ _ _ hb h3⟩
theorem OwnCon.below {w w' : World} {base : Nat} {v : Value} {c : Con} (h : OwnCon w base v c) (hb : Below w.heap.size w w') : OwnCon w' base v c := by
  obtain ⟨vv, av, rv, e, h1, h2, h3⟩ := h
  exact ⟨vv, av, rv, e, (OwnI.stays 3).below _ _ _ _ _ hb h1, (OwnI.stays 3).below _ _ _ _ _ hb h2, (OwnOf.stays (OwnI.stays 3)).below _ _ _ _ _ hb h3⟩
theorem OwnCon.base_ {w : World} {base b' : Nat} {v : Value} {c : Con} (h : OwnCon w base v c) (hb : b' ≤ base) : OwnCon w b' v c := by
  obtain ⟨vv, av, rv, e, h1, h2, h3⟩ := h
  exact ⟨vv, av, rv, e, (OwnI.stays 3).base _ _ _ _ _ hb h1, (OwnI.stays 3).base _ _ _ _ _ hb h2, (OwnOf.stays (OwnI.stays 3)).base _ _ _ _ _ hb h3⟩
theorem CBlk.new (w : World) (x0 x1 x2 x3 x4 : Value) : CBlk (w.alloc (.cells #[x0, x1, x2, x3, x4] 53)) w.heap.size x0 x1 x2 x3 x4 := heap_alloc_new w _
end Go.Proofs.Ytjpcdbdaimonlaa
