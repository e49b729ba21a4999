/- Stores: the laws' copies, sizes and comparisons; valid stores. -/
import Derived.Test.YtjpcdbdaimonlaaVmod
namespace Go.Proofs.Ytjpcdbdaimonlaa
open Go.ChangeShapes Go.WideShapes Go.ChangeAt Go.RowKit
open Go.Shelf
set_option linter.unusedVariables false
set_option maxRecDepth 100000

def SmSto (s : Sto) : Prop := SmMod s.model ∧ SmS Sm1 s.levels
/-- A fresh store. -/
def OwnSto (w : World) (base : Nat) (v : Value) (s : Sto) : Prop := ∃ dv cv lv, v = .agg #[dv, cv, lv] ∧ OwnMod w base (.agg #[dv, cv]) s.model ∧ OwnOf 23 (OwnI 3) w base lv s.levels
theorem rows_cap {w : World} {base n c : Nat} {A : Option Addr} {xs : List (List Int)} (h : OwnOf 23 (OwnI 3) w base (.slice A n c) xs) : n ≤ c := by
  obtain ⟨us, -, h2, -⟩ := h
  exact own_cap h2
theorem OwnSto.read {w : World} {base : Nat} {v : Value} {s : Sto} (h : OwnSto w base v s) : ∃ us, v = .agg us.toArray ∧ StoR w w.heap.size us s := by
  obtain ⟨dv, cv, lv, rfl, h1, h3⟩ := h
  obtain ⟨us, e, hm⟩ := h1.read
  obtain ⟨A3, c3, rfl, r3⟩ := read2 h3
  injection e with e
  have e2 : [dv, cv] = us := by simpa using congrArg Array.toList e
  subst e2
  exact ⟨_, rfl, _, _, A3, c3, rfl, hm, r3, rows_cap h3⟩
theorem OwnSto.below {w w' : World} {base : Nat} {v : Value} {s : Sto} (h : OwnSto w base v s) (hb : Below w.heap.size w w') : OwnSto w' base v s := by
  obtain ⟨dv, cv, lv, e, h1, h3⟩ := h
  exact ⟨dv, cv, lv, e, h1.below hb, (OwnOf.stays (OwnI.stays 3)).below _ _ _ _ _ hb h3⟩
theorem OwnSto.base_ {w : World} {base b' : Nat} {v : Value} {s : Sto} (h : OwnSto w base v s) (hb : b' ≤ base) : OwnSto w b' v s := by
  obtain ⟨dv, cv, lv, e, h1, h3⟩ := h
  exact ⟨dv, cv, lv, e, h1.base_ hb, (OwnOf.stays (OwnI.stays 3)).base _ _ _ _ _ hb h3⟩
theorem OwnSto.set {w : World} {t : TypeId} {b j base : Nat} {cs : Array Value} {u v : Value} {s : Sto} (h1 : t ≠ 3) (h2 : t ≠ 23) (h3 : t ≠ 53) (h : OwnSto w base v s) (hb : TBlk t w b cs) : OwnSto (w.setCell ⟨b, j, none⟩ u) base v s := by
  obtain ⟨dv, cv, lv, e, k1, k3⟩ := h
  exact ⟨dv, cv, lv, e, k1.set h1 h2 h3 hb, OwnOf.shuns h2 (OwnI.shuns h1) _ _ _ _ _ j _ _ _ hb k3⟩
end Go.Proofs.Ytjpcdbdaimonlaa
