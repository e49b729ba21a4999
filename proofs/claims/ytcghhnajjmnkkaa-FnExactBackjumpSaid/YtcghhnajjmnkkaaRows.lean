/-
  No cell of these rows narrows 'for every input' (looked for: loops, veiled, ifaces, maps, wideKeys, modest, calm, conditions, laid).
  DERIVED. THE GIVEN ROWS OF THIS SEAT. 5 by the template 'for every input the law returns true; each argument reads behind the call as it read before'; 0 by the template 'total and deterministic' (their statements: YtcghhnajjmnkkaaTotals.lean).
  GIVEN WITH THE SEED: the statements are not yours to turn. If you find one false, say at which input.
  Laid BY PROGRAM, IN A SANDBOX (cutbox-rows.mjs): the forced cells as the released guide's own fill.sh prints them over the translation 8436748e457dfd26… (all of the seat's roots in one cut). By AI agents, Wed Nov 11 2026. No macro, syntax, notation, axiom, sorry.
-/
import Derived.Test.YtcghhnajjmnkkaaChecked
import GoSem.Claim
import GoSem.ClaimJoined
import GoSem.ClaimMapViews
import Derived.JoinedTies
import Derived.KernelRfl
namespace Go.Proofs.Ytcghhnajjmnkkaa
/- THE CELL 'sum', in the pinned program and in every row, IS THE sha256 OF THE DUMP (.gsa) THAT YtcghhnajjmnkkaaProg.lean LOADS. Nothing in Lean hashes anything: it is a label: what it is worth is what the hold of that sum in a sandbox is worth. -/
noncomputable def Try.pinned : Pinned := { name := "ytcghhnajjmnkkaa", sum := "8436748e457dfd26989323206103c642aa8f21811c6d6a3208d1ff4fd699f34b", checked := Try.checked }
namespace Rows
def none {H : Type} : Left H := { results := [], args := [] }

/-- 'laws.FnExactWithConstraint': WHATEVER THE INPUT: true; the input reads as it did. -/
def fnExactWithConstraintSpec : ChangeSpec := { name := "fnExactWithConstraint", fn := fun _ => fun
  | [d1, d2] => { results := [.lit (.bool true)], args := [d1, d2] }
  | _ => none }
def fnExactWithConstraintRow : OpenClaim := { program := "ytcghhnajjmnkkaa", sum := "8436748e457dfd26989323206103c642aa8f21811c6d6a3208d1ff4fd699f34b", func := "loop.example/constraintsolver/laws.FnExactWithConstraint", spec := "fnExactWithConstraint", unfollowed := true, recurses := true, apart := false }
def FnExactWithConstraintSaid : Prop := fnExactWithConstraintRow.holds Try.pinned (OpenSpec.ofChange fnExactWithConstraintSpec)

/-- ITS FALSE NEIGHBOUR: 'it returns false'. Refute it at one input. -/
def fnExactWithConstraintWrong : ChangeSpec := { name := "fnExactWithConstraint", fn := fun _ => fun
  | [d1, d2] => { results := [.lit (.bool false)], args := [d1, d2] }
  | _ => none }
def FnExactWithConstraintWrongFalsely : Prop := fnExactWithConstraintRow.holds Try.pinned (OpenSpec.ofChange fnExactWithConstraintWrong)

/-- 'laws.FnExactWithoutConstraint': WHATEVER THE INPUT: true; the input reads as it did. -/
def fnExactWithoutConstraintSpec : ChangeSpec := { name := "fnExactWithoutConstraint", fn := fun _ => fun
  | [d1, d2] => { results := [.lit (.bool true)], args := [d1, d2] }
  | _ => none }
def fnExactWithoutConstraintRow : OpenClaim := { program := "ytcghhnajjmnkkaa", sum := "8436748e457dfd26989323206103c642aa8f21811c6d6a3208d1ff4fd699f34b", func := "loop.example/constraintsolver/laws.FnExactWithoutConstraint", spec := "fnExactWithoutConstraint", unfollowed := true, recurses := true, apart := false }
def FnExactWithoutConstraintSaid : Prop := fnExactWithoutConstraintRow.holds Try.pinned (OpenSpec.ofChange fnExactWithoutConstraintSpec)

/-- ITS FALSE NEIGHBOUR: 'it returns false'. Refute it at one input. -/
def fnExactWithoutConstraintWrong : ChangeSpec := { name := "fnExactWithoutConstraint", fn := fun _ => fun
  | [d1, d2] => { results := [.lit (.bool false)], args := [d1, d2] }
  | _ => none }
def FnExactWithoutConstraintWrongFalsely : Prop := fnExactWithoutConstraintRow.holds Try.pinned (OpenSpec.ofChange fnExactWithoutConstraintWrong)

/-- 'laws.FnExactBackjump': WHATEVER THE INPUT: true; the input reads as it did. -/
def fnExactBackjumpSpec : ChangeSpec := { name := "fnExactBackjump", fn := fun _ => fun
  | [d1, d2] => { results := [.lit (.bool true)], args := [d1, d2] }
  | _ => none }
def fnExactBackjumpRow : OpenClaim := { program := "ytcghhnajjmnkkaa", sum := "8436748e457dfd26989323206103c642aa8f21811c6d6a3208d1ff4fd699f34b", func := "loop.example/constraintsolver/laws.FnExactBackjump", spec := "fnExactBackjump", unfollowed := true, recurses := true, apart := false }
def FnExactBackjumpSaid : Prop := fnExactBackjumpRow.holds Try.pinned (OpenSpec.ofChange fnExactBackjumpSpec)

/-- ITS FALSE NEIGHBOUR: 'it returns false'. Refute it at one input. -/
def fnExactBackjumpWrong : ChangeSpec := { name := "fnExactBackjump", fn := fun _ => fun
  | [d1, d2] => { results := [.lit (.bool false)], args := [d1, d2] }
  | _ => none }
def FnExactBackjumpWrongFalsely : Prop := fnExactBackjumpRow.holds Try.pinned (OpenSpec.ofChange fnExactBackjumpWrong)

/-- 'laws.FnModelEdit': WHATEVER THE INPUT: true; the input reads as it did. -/
def fnModelEditSpec : ChangeSpec := { name := "fnModelEdit", fn := fun _ => fun
  | [d] => { results := [.lit (.bool true)], args := [d] }
  | _ => none }
def fnModelEditRow : OpenClaim := { program := "ytcghhnajjmnkkaa", sum := "8436748e457dfd26989323206103c642aa8f21811c6d6a3208d1ff4fd699f34b", func := "loop.example/constraintsolver/laws.FnModelEdit", spec := "fnModelEdit", unfollowed := true, recurses := true, apart := false }
def FnModelEditSaid : Prop := fnModelEditRow.holds Try.pinned (OpenSpec.ofChange fnModelEditSpec)

/-- ITS FALSE NEIGHBOUR: 'it returns false'. Refute it at one input. -/
def fnModelEditWrong : ChangeSpec := { name := "fnModelEdit", fn := fun _ => fun
  | [d] => { results := [.lit (.bool false)], args := [d] }
  | _ => none }
def FnModelEditWrongFalsely : Prop := fnModelEditRow.holds Try.pinned (OpenSpec.ofChange fnModelEditWrong)

/-- 'laws.FnBackjump': WHATEVER THE INPUT: true; the input reads as it did. -/
def fnBackjumpSpec : ChangeSpec := { name := "fnBackjump", fn := fun _ => fun
  | [d] => { results := [.lit (.bool true)], args := [d] }
  | _ => none }
def fnBackjumpRow : OpenClaim := { program := "ytcghhnajjmnkkaa", sum := "8436748e457dfd26989323206103c642aa8f21811c6d6a3208d1ff4fd699f34b", func := "loop.example/constraintsolver/laws.FnBackjump", spec := "fnBackjump", unfollowed := true, recurses := true, apart := false }
def FnBackjumpSaid : Prop := fnBackjumpRow.holds Try.pinned (OpenSpec.ofChange fnBackjumpSpec)

/-- ITS FALSE NEIGHBOUR: 'it returns false'. Refute it at one input. -/
def fnBackjumpWrong : ChangeSpec := { name := "fnBackjump", fn := fun _ => fun
  | [d] => { results := [.lit (.bool false)], args := [d] }
  | _ => none }
def FnBackjumpWrongFalsely : Prop := fnBackjumpRow.holds Try.pinned (OpenSpec.ofChange fnBackjumpWrong)

/- THE SECOND FORM. 'bulk': how many values and letters a reading holds, each counted each time it is reached (what is shared counts as often as it is met; a slice's spare places count too). A statement '..UptoSaid' is the law's where the arguments, and the package variables that the reading takes, are together of bulk at most 1048576: NARROWER than '..Said'. Prove '..Said' where nothing that the law and all that it calls make is longer than what came in: it says more and counts as full. Else prove '..UptoSaid'. A law counts once. -/
mutual
def uptoBulk {H : Type} : DataW H → Nat
  | .lit (.string bytes) => bytes.length + 1
  | .lit _ => 1
  | .nil => 1
  | .ptr d => uptoBulk d + 1
  | .slice elems spare => uptoBulkAll elems + uptoBulkAll spare + 1
  | .agg parts => uptoBulkAll parts + 1
  | .iface _ d => uptoBulk d + 1
  | .map entries => uptoBulkEntries entries + 1
  | .held _ => 1
def uptoBulkAll {H : Type} : List (DataW H) → Nat
  | [] => 0
  | d :: r => uptoBulk d + uptoBulkAll r
def uptoBulkEntries {H : Type} : List (Lit × DataW H) → Nat
  | [] => 0
  | x :: r => uptoBulkEntry x + uptoBulkEntries r
def uptoBulkEntry {H : Type} : Lit × DataW H → Nat
  | (.string bytes, d) => bytes.length + uptoBulk d + 1
  | (_, d) => uptoBulk d + 1
 end
def uptoSmall : (H : Type) → List (DataW H) → Bool := fun _ ds => decide (uptoBulkAll ds ≤ 1048576)
def OpenSpec.upto (s : _root_.Go.ChangeSpec) : _root_.Go.OpenSpec := { _root_.Go.OpenSpec.ofChange s with cond := some uptoSmall }

/-- 'laws.FnExactWithConstraint', WHERE WHAT IT READS IS OF BULK AT MOST 1048576: true; the input reads as it did. -/
def fnExactWithConstraintUptoRow : OpenClaim := { program := "ytcghhnajjmnkkaa", sum := "8436748e457dfd26989323206103c642aa8f21811c6d6a3208d1ff4fd699f34b", func := "loop.example/constraintsolver/laws.FnExactWithConstraint", spec := "fnExactWithConstraint", unfollowed := true, recurses := true, apart := false, narrowed := true }
def FnExactWithConstraintUptoSaid : Prop := fnExactWithConstraintUptoRow.holds Try.pinned (OpenSpec.upto fnExactWithConstraintSpec)

/-- 'laws.FnExactWithoutConstraint', WHERE WHAT IT READS IS OF BULK AT MOST 1048576: true; the input reads as it did. -/
def fnExactWithoutConstraintUptoRow : OpenClaim := { program := "ytcghhnajjmnkkaa", sum := "8436748e457dfd26989323206103c642aa8f21811c6d6a3208d1ff4fd699f34b", func := "loop.example/constraintsolver/laws.FnExactWithoutConstraint", spec := "fnExactWithoutConstraint", unfollowed := true, recurses := true, apart := false, narrowed := true }
def FnExactWithoutConstraintUptoSaid : Prop := fnExactWithoutConstraintUptoRow.holds Try.pinned (OpenSpec.upto fnExactWithoutConstraintSpec)

/-- 'laws.FnExactBackjump', WHERE WHAT IT READS IS OF BULK AT MOST 1048576: true; the input reads as it did. -/
def fnExactBackjumpUptoRow : OpenClaim := { program := "ytcghhnajjmnkkaa", sum := "8436748e457dfd26989323206103c642aa8f21811c6d6a3208d1ff4fd699f34b", func := "loop.example/constraintsolver/laws.FnExactBackjump", spec := "fnExactBackjump", unfollowed := true, recurses := true, apart := false, narrowed := true }
def FnExactBackjumpUptoSaid : Prop := fnExactBackjumpUptoRow.holds Try.pinned (OpenSpec.upto fnExactBackjumpSpec)

/-- 'laws.FnModelEdit', WHERE WHAT IT READS IS OF BULK AT MOST 1048576: true; the input reads as it did. -/
def fnModelEditUptoRow : OpenClaim := { program := "ytcghhnajjmnkkaa", sum := "8436748e457dfd26989323206103c642aa8f21811c6d6a3208d1ff4fd699f34b", func := "loop.example/constraintsolver/laws.FnModelEdit", spec := "fnModelEdit", unfollowed := true, recurses := true, apart := false, narrowed := true }
def FnModelEditUptoSaid : Prop := fnModelEditUptoRow.holds Try.pinned (OpenSpec.upto fnModelEditSpec)

/-- 'laws.FnBackjump', WHERE WHAT IT READS IS OF BULK AT MOST 1048576: true; the input reads as it did. -/
def fnBackjumpUptoRow : OpenClaim := { program := "ytcghhnajjmnkkaa", sum := "8436748e457dfd26989323206103c642aa8f21811c6d6a3208d1ff4fd699f34b", func := "loop.example/constraintsolver/laws.FnBackjump", spec := "fnBackjump", unfollowed := true, recurses := true, apart := false, narrowed := true }
def FnBackjumpUptoSaid : Prop := fnBackjumpUptoRow.holds Try.pinned (OpenSpec.upto fnBackjumpSpec)

end Rows
end Go.Proofs.Ytcghhnajjmnkkaa
