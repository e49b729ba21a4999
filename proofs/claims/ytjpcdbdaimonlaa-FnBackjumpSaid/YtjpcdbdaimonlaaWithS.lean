/- The reference's WithConstraint and WithoutConstraint. -/
import Derived.Test.YtjpcdbdaimonlaaCopyQ
import Derived.Test.YtjpcdbdaimonlaaVmod
namespace Go.Proofs.Ytjpcdbdaimonlaa
open Go.ChangeShapes Go.WideShapes Go.ChangeAt Go.RowKit
open Go.Shelf
set_option linter.unusedVariables false
set_option maxRecDepth 100000

def addC (m : Mod) (c : Con) : Mod := ⟨m.doms, m.cons ++ [c]⟩
def withM (m : Mod) (c : Con) : Mod := if vmodF (addC m c) then addC m c else ⟨[], []⟩
def outOk (m : Mod) (i : Int) : Bool := vmodF m && inB i 0 ((m.cons.length : Int) - 1)
def outM (m : Mod) (i : Int) : Mod := if outOk m i then ⟨m.doms, m.cons.eraseIdx i.toNat⟩ else ⟨[], []⟩
theorem OwnMod.zero (w : World) (B : Nat) : OwnMod w B (.agg #[.slice none 0 0, .slice none 0 0]) ⟨[], []⟩ := ⟨_, _, rfl, ⟨World.ownsRow_nil _ _ _ _, by simp⟩, OwnCons.nil0 _ _⟩
end Go.Proofs.Ytjpcdbdaimonlaa
