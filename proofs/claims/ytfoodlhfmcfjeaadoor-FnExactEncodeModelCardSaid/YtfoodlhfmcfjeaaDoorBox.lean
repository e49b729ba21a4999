/- A struct laid into a new box: the block behind the stores. -/
import Derived.Test.YtfoodlhfmcfjeaaDoorMod
import Derived.Deep.RegionHeld3
namespace Go.Proofs.YtfoodlhfmcfjeaaDoor
open Go.ChangeShapes Go.WideShapes Go.ChangeAt Go.RowKit
set_option linter.unusedVariables false
set_option maxRecDepth 100000

theorem box2 {t : TypeId} {w wa : World} {x0 x1 z0 z1 : Value} (h : wa = w.alloc (.cells #[z0, z1] t)) :
    TBlk t ((wa.setCell ⟨w.heap.size, 0, none⟩ x0).setCell ⟨w.heap.size, 1, none⟩ x1) w.heap.size #[x0, x1] ∧ Below w.heap.size w ((wa.setCell ⟨w.heap.size, 0, none⟩ x0).setCell ⟨w.heap.size, 1, none⟩ x1) := by
  subst h
  exact ⟨((TBlk.new w #[z0, z1] t).store 0 x0).store 1 x1, ((b_alloc w _).setCell (by simp) _).setCell (by simp) _⟩
theorem box3 {t : TypeId} {w wa : World} {x0 x1 x2 z0 z1 z2 : Value} (h : wa = w.alloc (.cells #[z0, z1, z2] t)) :
    TBlk t (((wa.setCell ⟨w.heap.size, 0, none⟩ x0).setCell ⟨w.heap.size, 1, none⟩ x1).setCell ⟨w.heap.size, 2, none⟩ x2) w.heap.size #[x0, x1, x2] ∧ Below w.heap.size w (((wa.setCell ⟨w.heap.size, 0, none⟩ x0).setCell ⟨w.heap.size, 1, none⟩ x1).setCell ⟨w.heap.size, 2, none⟩ x2) := by
  subst h
  exact ⟨(((TBlk.new w #[z0, z1, z2] t).store 0 x0).store 1 x1).store 2 x2, (((b_alloc w _).setCell (by simp) _).setCell (by simp) _).setCell (by simp) _⟩
theorem box5 {t : TypeId} {w wa : World} {x0 x1 x2 x3 x4 z0 z1 z2 z3 z4 : Value} (h : wa = w.alloc (.cells #[z0, z1, z2, z3, z4] t)) :
    TBlk t (((((wa.setCell ⟨w.heap.size, 0, none⟩ x0).setCell ⟨w.heap.size, 1, none⟩ x1).setCell ⟨w.heap.size, 2, none⟩ x2).setCell ⟨w.heap.size, 3, none⟩ x3).setCell ⟨w.heap.size, 4, none⟩ x4) w.heap.size #[x0, x1, x2, x3, x4] ∧
      Below w.heap.size w (((((wa.setCell ⟨w.heap.size, 0, none⟩ x0).setCell ⟨w.heap.size, 1, none⟩ x1).setCell ⟨w.heap.size, 2, none⟩ x2).setCell ⟨w.heap.size, 3, none⟩ x3).setCell ⟨w.heap.size, 4, none⟩ x4) := by
  subst h
  exact ⟨(((((TBlk.new w #[z0, z1, z2, z3, z4] t).store 0 x0).store 1 x1).store 2 x2).store 3 x3).store 4 x4,
    (((((b_alloc w _).setCell (by simp) _).setCell (by simp) _).setCell (by simp) _).setCell (by simp) _).setCell (by simp) _⟩
theorem ConA.five {w : World} {B : Nat} {us : List Value} {c : Con} (h : ConA w B us c) : ∃ a b c d e, us = [a, b, c, d, e] := by
  obtain ⟨va, aa, ra, cv, ca, cr, e, -⟩ := h
  exact ⟨_, _, _, _, _, e⟩
theorem ConR.five {w : World} {B : Nat} {us : List Value} {c : Con} (h : ConR w B us c) : ∃ (a d : Int) (v r s : Option Addr) (n1 c1 n2 c2 n3 c3 : Nat), us = [.int .i64 a, .slice v n1 c1, .slice r n2 c2, .int .i64 d, .slice s n3 c3] := by
  obtain ⟨va, aa, ra, cv, ca, cr, e, -⟩ := h
  exact ⟨_, _, _, _, _, _, _, _, _, _, _, e⟩
theorem ModA.two {w : World} {B : Nat} {us : List Value} {c : Mod} (h : ModA w B us c) : ∃ a b, us = [a, b] := by
  obtain ⟨da, ca, cd, cc, e, -⟩ := h
  exact ⟨_, _, e⟩
theorem ModR.two {w : World} {B : Nat} {us : List Value} {c : Mod} (h : ModR w B us c) : ∃ (v r : Option Addr) (n1 c1 n2 c2 : Nat), us = [.slice v n1 c1, .slice r n2 c2] := by
  obtain ⟨da, ca, cd, cc, e, -⟩ := h
  exact ⟨_, _, _, _, _, _, e⟩
theorem StoA.three {w : World} {B : Nat} {us : List Value} {c : Sto} (h : StoA w B us c) : ∃ a b c, us = [a, b, c] := by
  obtain ⟨u, v, la, lc, e, -⟩ := h
  exact ⟨_, _, _, e⟩
theorem StoR.three {w : World} {B : Nat} {us : List Value} {c : Sto} (h : StoR w B us c) : ∃ (v r s : Option Addr) (n1 c1 n2 c2 n3 c3 : Nat), us = [.slice v n1 c1, .slice r n2 c2, .slice s n3 c3] := by
  obtain ⟨u, v, la, lc, e, ⟨da, ca, cd, cc, e2, -⟩, -⟩ := h
  simp at e2
  obtain ⟨rfl, rfl⟩ := e2
  exact ⟨_, _, _, _, _, _, _, _, _, e⟩
end Go.Proofs.YtfoodlhfmcfjeaaDoor
