/- Models: the laws' copies, sizes and comparisons. -/
import Derived.Test.YtjpcdbdaimonlaaModI
namespace Go.Proofs.Ytjpcdbdaimonlaa
open Go.ChangeShapes Go.WideShapes Go.ChangeAt Go.RowKit
open Go.Shelf
set_option linter.unusedVariables false
set_option maxRecDepth 100000

def SmMod (m : Mod) : Prop := Sm1 m.doms ∧ SmS SmCon m.cons
/-- A fresh model. -/
def OwnMod (w : World) (base : Nat) (v : Value) (m : Mod) : Prop := ∃ dv cv, v = .agg #[dv, cv] ∧ OwnI 3 w base dv m.doms ∧ OwnCons w base cv m.cons
theorem OwnMod.read {w : World} {base : Nat} {v : Value} {m : Mod} (h : OwnMod w base v m) : ∃ us, v = .agg us.toArray ∧ ModR w w.heap.size us m := by
  obtain ⟨dv, cv, rfl, h1, h2⟩ := h
  obtain ⟨A1, c1, rfl, r1⟩ := h1.read
  obtain ⟨A2, c2, rfl, r2, k2⟩ := OwnCons.read h2
  have k1 := own_cap h1.1
  exact ⟨_, rfl, A1, A2, c1, c2, rfl, r1, r2, k1, k2⟩
theorem OwnMod.below {w w' : World} {base : Nat} {v : Value} {m : Mod} (h : OwnMod w base v m) (hb : Below w.heap.size w w') : OwnMod w' base v m := by
  obtain ⟨dv, cv, e, h1, h2⟩ := h
  exact ⟨dv, cv, e, (OwnI.stays 3).below _ _ _ _ _ hb h1, (OwnK.stays OwnConU.stays).below _ _ _ _ _ hb h2⟩
theorem OwnMod.base_ {w : World} {base b' : Nat} {v : Value} {m : Mod} (h : OwnMod w base v m) (hb : b' ≤ base) : OwnMod w b' v m := by
  obtain ⟨dv, cv, e, h1, h2⟩ := h
  exact ⟨dv, cv, e, (OwnI.stays 3).base _ _ _ _ _ hb h1, (OwnK.stays OwnConU.stays).base _ _ _ _ _ hb h2⟩
theorem OwnConU.shun {t : TypeId} (h1 : t ≠ 3) (h2 : t ≠ 23) : ShunsK t OwnConU := by
  intro w base us c g j cs fr u hg h
  obtain ⟨vv, av, rv, e, k1, k2, k3⟩ := h
  exact ⟨vv, av, rv, e, OwnI.shuns h1 _ _ _ _ _ j _ _ _ hg k1, OwnI.shuns h1 _ _ _ _ _ j _ _ _ hg k2, OwnOf.shuns h2 (OwnI.shuns h1) _ _ _ _ _ j _ _ _ hg k3⟩
theorem OwnMod.set {w : World} {t : TypeId} {b j base : Nat} {cs : Array Value} {u v : Value} {m : Mod} (h1 : t ≠ 3) (h2 : t ≠ 23) (h3 : t ≠ 53) (h : OwnMod w base v m) (hb : TBlk t w b cs) : OwnMod (w.setCell ⟨b, j, none⟩ u) base v m := by
  obtain ⟨dv, cv, e, k1, k2⟩ := h
  exact ⟨dv, cv, e, OwnI.shuns h1 _ _ _ _ _ j _ _ _ hb k1, OwnK.shuns h3 (OwnConU.shun h1 h2) _ _ _ _ _ j _ _ _ hb k2⟩
end Go.Proofs.Ytjpcdbdaimonlaa
