/- Slices of constraints, and models: the laws' copies, sizes and comparisons (printed by gmod.py) -/
import Derived.Test.YtjpcdbdaimonlaaConI
import Derived.Test.YtjpcdbdaimonlaaOwnK
import Derived.Test.YtjpcdbdaimonlaaOpenC
namespace Go.Proofs.Ytjpcdbdaimonlaa
open Go.ChangeShapes Go.WideShapes Go.ChangeAt Go.RowKit
open Go.Shelf
set_option linter.unusedVariables false
set_option maxRecDepth 100000

theorem cellj {w : World} {p : Addr} {j : Nat} {u : Value} (hj : 0 < j) (h : w.cell? (p.add j) = some u) : w.cell? ⟨p.block, p.off + j, none⟩ = some u := by
  have h2 : j ≠ 0 := by omega
  simpa [Addr.add, h2] using h
theorem add0_ (p : Addr) : p.add 0 = p := by simp [Addr.add]
def OwnConU : World → Nat → List Value → Con → Prop := fun w b us c => OwnCon w b (.agg us.toArray) c
theorem OwnConU.stays : StaysK OwnConU := ⟨fun _ _ _ _ _ hb h => OwnCon.below h hb, fun _ _ _ _ _ hb h => OwnCon.base_ h hb⟩
theorem OwnConU.shuns : ShunsK 53 OwnConU := by
  intro w base us c g j cs fr u hg h
  obtain ⟨vv, av, rv, e, h1, h2, h3⟩ := h
  exact ⟨vv, av, rv, e, OwnI.shuns (t := 53) (by decide) _ _ _ _ _ j _ _ _ hg h1, OwnI.shuns (t := 53) (by decide) _ _ _ _ _ j _ _ _ hg h2, OwnOf.shuns (t := 53) (by decide) (OwnI.shuns (by decide)) _ _ _ _ _ j _ _ _ hg h3⟩
theorem OwnConU.read {w : World} {base : Nat} {us : List Value} {c : Con} (h : OwnConU w base us c) : ConR w w.heap.size us c := by
  obtain ⟨vs, e, hr⟩ := OwnCon.read h
  injection e with e
  have e2 : us = vs := by simpa using congrArg Array.toList e
  rw [e2]; exact hr
abbrev OwnCons (w : World) (base : Nat) (v : Value) (xs : List Con) : Prop := OwnK 53 5 OwnConU w base v xs
theorem OwnCons.read {w : World} {base : Nat} {v : Value} {xs : List Con} (h : OwnCons w base v xs) : ∃ A c, v = .slice A xs.length c ∧ ConsR w w.heap.size A xs.length xs ∧ xs.length ≤ c := OwnK.read (fun _ _ _ _ h => OwnConU.read h) h
end Go.Proofs.Ytjpcdbdaimonlaa
