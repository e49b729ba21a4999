/-
  No cell of these rows narrows 'for every input' (looked for: loops, veiled, ifaces, maps, wideKeys, modest, calm, conditions, laid).
  DERIVED. THE GIVEN ROWS OF THIS SEAT. 6 by the template 'for every input the law returns true; each argument reads behind the call as it read before'; 0 by the template 'total and deterministic' (their statements: YtpgmjempdpelkaaTotals.lean).
  GIVEN WITH THE SEED: the statements are not yours to turn. If you find one false, say at which input.
  Laid BY PROGRAM, IN A SANDBOX (cutbox-rows.mjs): the forced cells as the released guide's own fill.sh prints them over the translation 85cd17b358dce379… (all of the seat's roots in one cut). By AI agents, Wed Nov 11 2026. No macro, syntax, notation, axiom, sorry.
-/
import Derived.Test.YtpgmjempdpelkaaChecked
import GoSem.Claim
import GoSem.ClaimJoined
import GoSem.ClaimMapViews
import Derived.JoinedTies
import Derived.KernelRfl
namespace Go.Proofs.Ytpgmjempdpelkaa
/- THE CELL 'sum', in the pinned program and in every row, IS THE sha256 OF THE DUMP (.gsa) THAT YtpgmjempdpelkaaProg.lean LOADS. Nothing in Lean hashes anything: it is a label: what it is worth is what the hold of that sum in a sandbox is worth. -/
noncomputable def Try.pinned : Pinned := { name := "ytpgmjempdpelkaa", sum := "85cd17b358dce379270974a4dbaa693b6223c50a31f2092b0b26a3d4bb764ab4", checked := Try.checked }
namespace Rows
def none {H : Type} : Left H := { results := [], args := [] }

/-- 'laws.FnExactValidConstraint': WHATEVER THE INPUT: true; the input reads as it did. -/
def fnExactValidConstraintSpec : ChangeSpec := { name := "fnExactValidConstraint", fn := fun _ => fun
  | [d1, d2] => { results := [.lit (.bool true)], args := [d1, d2] }
  | _ => none }
def fnExactValidConstraintRow : OpenClaim := { program := "ytpgmjempdpelkaa", sum := "85cd17b358dce379270974a4dbaa693b6223c50a31f2092b0b26a3d4bb764ab4", func := "loop.example/constraintsolver/laws.FnExactValidConstraint", spec := "fnExactValidConstraint", unfollowed := true, recurses := true, apart := false }
def FnExactValidConstraintSaid : Prop := fnExactValidConstraintRow.holds Try.pinned (OpenSpec.ofChange fnExactValidConstraintSpec)

/-- ITS FALSE NEIGHBOUR: 'it returns false'. Refute it at one input. -/
def fnExactValidConstraintWrong : ChangeSpec := { name := "fnExactValidConstraint", fn := fun _ => fun
  | [d1, d2] => { results := [.lit (.bool false)], args := [d1, d2] }
  | _ => none }
def FnExactValidConstraintWrongFalsely : Prop := fnExactValidConstraintRow.holds Try.pinned (OpenSpec.ofChange fnExactValidConstraintWrong)

/-- 'laws.FnExactValidModel': WHATEVER THE INPUT: true; the input reads as it did. -/
def fnExactValidModelSpec : ChangeSpec := { name := "fnExactValidModel", fn := fun _ => fun
  | [d] => { results := [.lit (.bool true)], args := [d] }
  | _ => none }
def fnExactValidModelRow : OpenClaim := { program := "ytpgmjempdpelkaa", sum := "85cd17b358dce379270974a4dbaa693b6223c50a31f2092b0b26a3d4bb764ab4", func := "loop.example/constraintsolver/laws.FnExactValidModel", spec := "fnExactValidModel", unfollowed := true, recurses := true, apart := false }
def FnExactValidModelSaid : Prop := fnExactValidModelRow.holds Try.pinned (OpenSpec.ofChange fnExactValidModelSpec)

/-- ITS FALSE NEIGHBOUR: 'it returns false'. Refute it at one input. -/
def fnExactValidModelWrong : ChangeSpec := { name := "fnExactValidModel", fn := fun _ => fun
  | [d] => { results := [.lit (.bool false)], args := [d] }
  | _ => none }
def FnExactValidModelWrongFalsely : Prop := fnExactValidModelRow.holds Try.pinned (OpenSpec.ofChange fnExactValidModelWrong)

/-- 'laws.FnExactValidStore': WHATEVER THE INPUT: true; the input reads as it did. -/
def fnExactValidStoreSpec : ChangeSpec := { name := "fnExactValidStore", fn := fun _ => fun
  | [d] => { results := [.lit (.bool true)], args := [d] }
  | _ => none }
def fnExactValidStoreRow : OpenClaim := { program := "ytpgmjempdpelkaa", sum := "85cd17b358dce379270974a4dbaa693b6223c50a31f2092b0b26a3d4bb764ab4", func := "loop.example/constraintsolver/laws.FnExactValidStore", spec := "fnExactValidStore", unfollowed := true, recurses := true, apart := false }
def FnExactValidStoreSaid : Prop := fnExactValidStoreRow.holds Try.pinned (OpenSpec.ofChange fnExactValidStoreSpec)

/-- ITS FALSE NEIGHBOUR: 'it returns false'. Refute it at one input. -/
def fnExactValidStoreWrong : ChangeSpec := { name := "fnExactValidStore", fn := fun _ => fun
  | [d] => { results := [.lit (.bool false)], args := [d] }
  | _ => none }
def FnExactValidStoreWrongFalsely : Prop := fnExactValidStoreRow.holds Try.pinned (OpenSpec.ofChange fnExactValidStoreWrong)

/-- 'laws.FnExactIsSolution': WHATEVER THE INPUT: true; the input reads as it did. -/
def fnExactIsSolutionSpec : ChangeSpec := { name := "fnExactIsSolution", fn := fun _ => fun
  | [d1, d2] => { results := [.lit (.bool true)], args := [d1, d2] }
  | _ => none }
def fnExactIsSolutionRow : OpenClaim := { program := "ytpgmjempdpelkaa", sum := "85cd17b358dce379270974a4dbaa693b6223c50a31f2092b0b26a3d4bb764ab4", func := "loop.example/constraintsolver/laws.FnExactIsSolution", spec := "fnExactIsSolution", unfollowed := true, recurses := true, apart := false }
def FnExactIsSolutionSaid : Prop := fnExactIsSolutionRow.holds Try.pinned (OpenSpec.ofChange fnExactIsSolutionSpec)

/-- ITS FALSE NEIGHBOUR: 'it returns false'. Refute it at one input. -/
def fnExactIsSolutionWrong : ChangeSpec := { name := "fnExactIsSolution", fn := fun _ => fun
  | [d1, d2] => { results := [.lit (.bool false)], args := [d1, d2] }
  | _ => none }
def FnExactIsSolutionWrongFalsely : Prop := fnExactIsSolutionRow.holds Try.pinned (OpenSpec.ofChange fnExactIsSolutionWrong)

/-- 'laws.FnExactSoftCost': WHATEVER THE INPUT: true; the input reads as it did. -/
def fnExactSoftCostSpec : ChangeSpec := { name := "fnExactSoftCost", fn := fun _ => fun
  | [d1, d2] => { results := [.lit (.bool true)], args := [d1, d2] }
  | _ => none }
def fnExactSoftCostRow : OpenClaim := { program := "ytpgmjempdpelkaa", sum := "85cd17b358dce379270974a4dbaa693b6223c50a31f2092b0b26a3d4bb764ab4", func := "loop.example/constraintsolver/laws.FnExactSoftCost", spec := "fnExactSoftCost", unfollowed := true, recurses := true, apart := false }
def FnExactSoftCostSaid : Prop := fnExactSoftCostRow.holds Try.pinned (OpenSpec.ofChange fnExactSoftCostSpec)

/-- ITS FALSE NEIGHBOUR: 'it returns false'. Refute it at one input. -/
def fnExactSoftCostWrong : ChangeSpec := { name := "fnExactSoftCost", fn := fun _ => fun
  | [d1, d2] => { results := [.lit (.bool false)], args := [d1, d2] }
  | _ => none }
def FnExactSoftCostWrongFalsely : Prop := fnExactSoftCostRow.holds Try.pinned (OpenSpec.ofChange fnExactSoftCostWrong)

/-- 'laws.FnExactViolated': WHATEVER THE INPUT: true; the input reads as it did. -/
def fnExactViolatedSpec : ChangeSpec := { name := "fnExactViolated", fn := fun _ => fun
  | [d1, d2] => { results := [.lit (.bool true)], args := [d1, d2] }
  | _ => none }
def fnExactViolatedRow : OpenClaim := { program := "ytpgmjempdpelkaa", sum := "85cd17b358dce379270974a4dbaa693b6223c50a31f2092b0b26a3d4bb764ab4", func := "loop.example/constraintsolver/laws.FnExactViolated", spec := "fnExactViolated", unfollowed := true, recurses := true, apart := false }
def FnExactViolatedSaid : Prop := fnExactViolatedRow.holds Try.pinned (OpenSpec.ofChange fnExactViolatedSpec)

/-- ITS FALSE NEIGHBOUR: 'it returns false'. Refute it at one input. -/
def fnExactViolatedWrong : ChangeSpec := { name := "fnExactViolated", fn := fun _ => fun
  | [d1, d2] => { results := [.lit (.bool false)], args := [d1, d2] }
  | _ => none }
def FnExactViolatedWrongFalsely : Prop := fnExactViolatedRow.holds Try.pinned (OpenSpec.ofChange fnExactViolatedWrong)

/- THE SECOND FORM. 'bulk': how many values and letters a reading holds, each counted each time it is reached (what is shared counts as often as it is met; a slice's spare places count too). A statement '..UptoSaid' is the law's where the arguments, and the package variables that the reading takes, are together of bulk at most 1048576: NARROWER than '..Said'. Prove '..Said' where nothing that the law and all that it calls make is longer than what came in: it says more and counts as full. Else prove '..UptoSaid'. A law counts once. -/
mutual
def uptoBulk {H : Type} : DataW H → Nat
  | .lit (.string bytes) => bytes.length + 1
  | .lit _ => 1
  | .nil => 1
  | .ptr d => uptoBulk d + 1
  | .slice elems spare => uptoBulkAll elems + uptoBulkAll spare + 1
  | .agg parts => uptoBulkAll parts + 1
  | .iface _ d => uptoBulk d + 1
  | .map entries => uptoBulkEntries entries + 1
  | .held _ => 1
def uptoBulkAll {H : Type} : List (DataW H) → Nat
  | [] => 0
  | d :: r => uptoBulk d + uptoBulkAll r
def uptoBulkEntries {H : Type} : List (Lit × DataW H) → Nat
  | [] => 0
  | x :: r => uptoBulkEntry x + uptoBulkEntries r
def uptoBulkEntry {H : Type} : Lit × DataW H → Nat
  | (.string bytes, d) => bytes.length + uptoBulk d + 1
  | (_, d) => uptoBulk d + 1
 end
def uptoSmall : (H : Type) → List (DataW H) → Bool := fun _ ds => decide (uptoBulkAll ds ≤ 1048576)
def OpenSpec.upto (s : _root_.Go.ChangeSpec) : _root_.Go.OpenSpec := { _root_.Go.OpenSpec.ofChange s with cond := some uptoSmall }

/-- 'laws.FnExactValidConstraint', WHERE WHAT IT READS IS OF BULK AT MOST 1048576: true; the input reads as it did. -/
def fnExactValidConstraintUptoRow : OpenClaim := { program := "ytpgmjempdpelkaa", sum := "85cd17b358dce379270974a4dbaa693b6223c50a31f2092b0b26a3d4bb764ab4", func := "loop.example/constraintsolver/laws.FnExactValidConstraint", spec := "fnExactValidConstraint", unfollowed := true, recurses := true, apart := false, narrowed := true }
def FnExactValidConstraintUptoSaid : Prop := fnExactValidConstraintUptoRow.holds Try.pinned (OpenSpec.upto fnExactValidConstraintSpec)

/-- 'laws.FnExactValidModel', WHERE WHAT IT READS IS OF BULK AT MOST 1048576: true; the input reads as it did. -/
def fnExactValidModelUptoRow : OpenClaim := { program := "ytpgmjempdpelkaa", sum := "85cd17b358dce379270974a4dbaa693b6223c50a31f2092b0b26a3d4bb764ab4", func := "loop.example/constraintsolver/laws.FnExactValidModel", spec := "fnExactValidModel", unfollowed := true, recurses := true, apart := false, narrowed := true }
def FnExactValidModelUptoSaid : Prop := fnExactValidModelUptoRow.holds Try.pinned (OpenSpec.upto fnExactValidModelSpec)

/-- 'laws.FnExactValidStore', WHERE WHAT IT READS IS OF BULK AT MOST 1048576: true; the input reads as it did. -/
def fnExactValidStoreUptoRow : OpenClaim := { program := "ytpgmjempdpelkaa", sum := "85cd17b358dce379270974a4dbaa693b6223c50a31f2092b0b26a3d4bb764ab4", func := "loop.example/constraintsolver/laws.FnExactValidStore", spec := "fnExactValidStore", unfollowed := true, recurses := true, apart := false, narrowed := true }
def FnExactValidStoreUptoSaid : Prop := fnExactValidStoreUptoRow.holds Try.pinned (OpenSpec.upto fnExactValidStoreSpec)

/-- 'laws.FnExactIsSolution', WHERE WHAT IT READS IS OF BULK AT MOST 1048576: true; the input reads as it did. -/
def fnExactIsSolutionUptoRow : OpenClaim := { program := "ytpgmjempdpelkaa", sum := "85cd17b358dce379270974a4dbaa693b6223c50a31f2092b0b26a3d4bb764ab4", func := "loop.example/constraintsolver/laws.FnExactIsSolution", spec := "fnExactIsSolution", unfollowed := true, recurses := true, apart := false, narrowed := true }
def FnExactIsSolutionUptoSaid : Prop := fnExactIsSolutionUptoRow.holds Try.pinned (OpenSpec.upto fnExactIsSolutionSpec)

/-- 'laws.FnExactSoftCost', WHERE WHAT IT READS IS OF BULK AT MOST 1048576: true; the input reads as it did. -/
def fnExactSoftCostUptoRow : OpenClaim := { program := "ytpgmjempdpelkaa", sum := "85cd17b358dce379270974a4dbaa693b6223c50a31f2092b0b26a3d4bb764ab4", func := "loop.example/constraintsolver/laws.FnExactSoftCost", spec := "fnExactSoftCost", unfollowed := true, recurses := true, apart := false, narrowed := true }
def FnExactSoftCostUptoSaid : Prop := fnExactSoftCostUptoRow.holds Try.pinned (OpenSpec.upto fnExactSoftCostSpec)

/-- 'laws.FnExactViolated', WHERE WHAT IT READS IS OF BULK AT MOST 1048576: true; the input reads as it did. -/
def fnExactViolatedUptoRow : OpenClaim := { program := "ytpgmjempdpelkaa", sum := "85cd17b358dce379270974a4dbaa693b6223c50a31f2092b0b26a3d4bb764ab4", func := "loop.example/constraintsolver/laws.FnExactViolated", spec := "fnExactViolated", unfollowed := true, recurses := true, apart := false, narrowed := true }
def FnExactViolatedUptoSaid : Prop := fnExactViolatedUptoRow.holds Try.pinned (OpenSpec.upto fnExactViolatedSpec)

end Rows
end Go.Proofs.Ytpgmjempdpelkaa
