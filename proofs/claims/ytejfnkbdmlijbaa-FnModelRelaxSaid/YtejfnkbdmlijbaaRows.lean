/-
  No cell of these rows narrows 'for every input' (looked for: loops, veiled, ifaces, maps, wideKeys, modest, calm, conditions, laid).
  DERIVED. THE GIVEN ROWS OF THIS SEAT. 7 by the template 'for every input the law returns true; each argument reads behind the call as it read before'; 0 by the template 'total and deterministic' (their statements: YtejfnkbdmlijbaaTotals.lean).
  GIVEN WITH THE SEED: the statements are not yours to turn. If you find one false, say at which input.
  Laid BY PROGRAM, IN A SANDBOX (cutbox-rows.mjs): the forced cells as the released guide's own fill.sh prints them over the translation 7489673093f5f6dc… (all of the seat's roots in one cut). By AI agents, Wed Nov 11 2026. No macro, syntax, notation, axiom, sorry.
-/
import Derived.Test.YtejfnkbdmlijbaaChecked
import GoSem.Claim
import GoSem.ClaimJoined
import GoSem.ClaimMapViews
import Derived.JoinedTies
import Derived.KernelRfl
namespace Go.Proofs.Ytejfnkbdmlijbaa
/- THE CELL 'sum', in the pinned program and in every row, IS THE sha256 OF THE DUMP (.gsa) THAT YtejfnkbdmlijbaaProg.lean LOADS. Nothing in Lean hashes anything: it is a label: what it is worth is what the hold of that sum in a sandbox is worth. -/
noncomputable def Try.pinned : Pinned := { name := "ytejfnkbdmlijbaa", sum := "7489673093f5f6dccf75375d22e5542dc6f49371df09cbb53f5b61e7dbb73c19", checked := Try.checked }
namespace Rows
def none {H : Type} : Left H := { results := [], args := [] }

/-- 'laws.FnModelRelax': WHATEVER THE INPUT: true; the input reads as it did. -/
def fnModelRelaxSpec : ChangeSpec := { name := "fnModelRelax", fn := fun _ => fun
  | [d] => { results := [.lit (.bool true)], args := [d] }
  | _ => none }
def fnModelRelaxRow : OpenClaim := { program := "ytejfnkbdmlijbaa", sum := "7489673093f5f6dccf75375d22e5542dc6f49371df09cbb53f5b61e7dbb73c19", func := "loop.example/constraintsolver/laws.FnModelRelax", spec := "fnModelRelax", unfollowed := true, recurses := true, apart := false }
def FnModelRelaxSaid : Prop := fnModelRelaxRow.holds Try.pinned (OpenSpec.ofChange fnModelRelaxSpec)

/-- ITS FALSE NEIGHBOUR: 'it returns false'. Refute it at one input. -/
def fnModelRelaxWrong : ChangeSpec := { name := "fnModelRelax", fn := fun _ => fun
  | [d] => { results := [.lit (.bool false)], args := [d] }
  | _ => none }
def FnModelRelaxWrongFalsely : Prop := fnModelRelaxRow.holds Try.pinned (OpenSpec.ofChange fnModelRelaxWrong)

/-- 'laws.FnModelEdit': WHATEVER THE INPUT: true; the input reads as it did. -/
def fnModelEditSpec : ChangeSpec := { name := "fnModelEdit", fn := fun _ => fun
  | [d] => { results := [.lit (.bool true)], args := [d] }
  | _ => none }
def fnModelEditRow : OpenClaim := { program := "ytejfnkbdmlijbaa", sum := "7489673093f5f6dccf75375d22e5542dc6f49371df09cbb53f5b61e7dbb73c19", func := "loop.example/constraintsolver/laws.FnModelEdit", spec := "fnModelEdit", unfollowed := true, recurses := true, apart := false }
def FnModelEditSaid : Prop := fnModelEditRow.holds Try.pinned (OpenSpec.ofChange fnModelEditSpec)

/-- ITS FALSE NEIGHBOUR: 'it returns false'. Refute it at one input. -/
def fnModelEditWrong : ChangeSpec := { name := "fnModelEdit", fn := fun _ => fun
  | [d] => { results := [.lit (.bool false)], args := [d] }
  | _ => none }
def FnModelEditWrongFalsely : Prop := fnModelEditRow.holds Try.pinned (OpenSpec.ofChange fnModelEditWrong)

/-- 'laws.FnFilterIdempotent': WHATEVER THE INPUT: true; the input reads as it did. -/
def fnFilterIdempotentSpec : ChangeSpec := { name := "fnFilterIdempotent", fn := fun _ => fun
  | [d] => { results := [.lit (.bool true)], args := [d] }
  | _ => none }
def fnFilterIdempotentRow : OpenClaim := { program := "ytejfnkbdmlijbaa", sum := "7489673093f5f6dccf75375d22e5542dc6f49371df09cbb53f5b61e7dbb73c19", func := "loop.example/constraintsolver/laws.FnFilterIdempotent", spec := "fnFilterIdempotent", unfollowed := true, recurses := true, apart := false }
def FnFilterIdempotentSaid : Prop := fnFilterIdempotentRow.holds Try.pinned (OpenSpec.ofChange fnFilterIdempotentSpec)

/-- ITS FALSE NEIGHBOUR: 'it returns false'. Refute it at one input. -/
def fnFilterIdempotentWrong : ChangeSpec := { name := "fnFilterIdempotent", fn := fun _ => fun
  | [d] => { results := [.lit (.bool false)], args := [d] }
  | _ => none }
def FnFilterIdempotentWrongFalsely : Prop := fnFilterIdempotentRow.holds Try.pinned (OpenSpec.ofChange fnFilterIdempotentWrong)

/-- 'laws.FnBackjump': WHATEVER THE INPUT: true; the input reads as it did. -/
def fnBackjumpSpec : ChangeSpec := { name := "fnBackjump", fn := fun _ => fun
  | [d] => { results := [.lit (.bool true)], args := [d] }
  | _ => none }
def fnBackjumpRow : OpenClaim := { program := "ytejfnkbdmlijbaa", sum := "7489673093f5f6dccf75375d22e5542dc6f49371df09cbb53f5b61e7dbb73c19", func := "loop.example/constraintsolver/laws.FnBackjump", spec := "fnBackjump", unfollowed := true, recurses := true, apart := false }
def FnBackjumpSaid : Prop := fnBackjumpRow.holds Try.pinned (OpenSpec.ofChange fnBackjumpSpec)

/-- ITS FALSE NEIGHBOUR: 'it returns false'. Refute it at one input. -/
def fnBackjumpWrong : ChangeSpec := { name := "fnBackjump", fn := fun _ => fun
  | [d] => { results := [.lit (.bool false)], args := [d] }
  | _ => none }
def FnBackjumpWrongFalsely : Prop := fnBackjumpRow.holds Try.pinned (OpenSpec.ofChange fnBackjumpWrong)

/-- 'laws.FnFilterMonotone': WHATEVER THE INPUT: true; the input reads as it did. -/
def fnFilterMonotoneSpec : ChangeSpec := { name := "fnFilterMonotone", fn := fun _ => fun
  | [d1, d2] => { results := [.lit (.bool true)], args := [d1, d2] }
  | _ => none }
def fnFilterMonotoneRow : OpenClaim := { program := "ytejfnkbdmlijbaa", sum := "7489673093f5f6dccf75375d22e5542dc6f49371df09cbb53f5b61e7dbb73c19", func := "loop.example/constraintsolver/laws.FnFilterMonotone", spec := "fnFilterMonotone", unfollowed := true, recurses := true, apart := false }
def FnFilterMonotoneSaid : Prop := fnFilterMonotoneRow.holds Try.pinned (OpenSpec.ofChange fnFilterMonotoneSpec)

/-- ITS FALSE NEIGHBOUR: 'it returns false'. Refute it at one input. -/
def fnFilterMonotoneWrong : ChangeSpec := { name := "fnFilterMonotone", fn := fun _ => fun
  | [d1, d2] => { results := [.lit (.bool false)], args := [d1, d2] }
  | _ => none }
def FnFilterMonotoneWrongFalsely : Prop := fnFilterMonotoneRow.holds Try.pinned (OpenSpec.ofChange fnFilterMonotoneWrong)

/-- 'laws.FnPropagateOrder': WHATEVER THE INPUT: true; the input reads as it did. -/
def fnPropagateOrderSpec : ChangeSpec := { name := "fnPropagateOrder", fn := fun _ => fun
  | [d] => { results := [.lit (.bool true)], args := [d] }
  | _ => none }
def fnPropagateOrderRow : OpenClaim := { program := "ytejfnkbdmlijbaa", sum := "7489673093f5f6dccf75375d22e5542dc6f49371df09cbb53f5b61e7dbb73c19", func := "loop.example/constraintsolver/laws.FnPropagateOrder", spec := "fnPropagateOrder", unfollowed := true, recurses := true, apart := false }
def FnPropagateOrderSaid : Prop := fnPropagateOrderRow.holds Try.pinned (OpenSpec.ofChange fnPropagateOrderSpec)

/-- ITS FALSE NEIGHBOUR: 'it returns false'. Refute it at one input. -/
def fnPropagateOrderWrong : ChangeSpec := { name := "fnPropagateOrder", fn := fun _ => fun
  | [d] => { results := [.lit (.bool false)], args := [d] }
  | _ => none }
def FnPropagateOrderWrongFalsely : Prop := fnPropagateOrderRow.holds Try.pinned (OpenSpec.ofChange fnPropagateOrderWrong)

/-- 'laws.FnIsSolution': WHATEVER THE INPUT: true; the input reads as it did. -/
def fnIsSolutionSpec : ChangeSpec := { name := "fnIsSolution", fn := fun _ => fun
  | [d] => { results := [.lit (.bool true)], args := [d] }
  | _ => none }
def fnIsSolutionRow : OpenClaim := { program := "ytejfnkbdmlijbaa", sum := "7489673093f5f6dccf75375d22e5542dc6f49371df09cbb53f5b61e7dbb73c19", func := "loop.example/constraintsolver/laws.FnIsSolution", spec := "fnIsSolution", unfollowed := true, recurses := true, apart := false }
def FnIsSolutionSaid : Prop := fnIsSolutionRow.holds Try.pinned (OpenSpec.ofChange fnIsSolutionSpec)

/-- ITS FALSE NEIGHBOUR: 'it returns false'. Refute it at one input. -/
def fnIsSolutionWrong : ChangeSpec := { name := "fnIsSolution", fn := fun _ => fun
  | [d] => { results := [.lit (.bool false)], args := [d] }
  | _ => none }
def FnIsSolutionWrongFalsely : Prop := fnIsSolutionRow.holds Try.pinned (OpenSpec.ofChange fnIsSolutionWrong)

/- THE SECOND FORM. 'bulk': how many values and letters a reading holds, each counted each time it is reached (what is shared counts as often as it is met; a slice's spare places count too). A statement '..UptoSaid' is the law's where the arguments, and the package variables that the reading takes, are together of bulk at most 1048576: NARROWER than '..Said'. Prove '..Said' where nothing that the law and all that it calls make is longer than what came in: it says more and counts as full. Else prove '..UptoSaid'. A law counts once. -/
mutual
def uptoBulk {H : Type} : DataW H → Nat
  | .lit (.string bytes) => bytes.length + 1
  | .lit _ => 1
  | .nil => 1
  | .ptr d => uptoBulk d + 1
  | .slice elems spare => uptoBulkAll elems + uptoBulkAll spare + 1
  | .agg parts => uptoBulkAll parts + 1
  | .iface _ d => uptoBulk d + 1
  | .map entries => uptoBulkEntries entries + 1
  | .held _ => 1
def uptoBulkAll {H : Type} : List (DataW H) → Nat
  | [] => 0
  | d :: r => uptoBulk d + uptoBulkAll r
def uptoBulkEntries {H : Type} : List (Lit × DataW H) → Nat
  | [] => 0
  | x :: r => uptoBulkEntry x + uptoBulkEntries r
def uptoBulkEntry {H : Type} : Lit × DataW H → Nat
  | (.string bytes, d) => bytes.length + uptoBulk d + 1
  | (_, d) => uptoBulk d + 1
 end
def uptoSmall : (H : Type) → List (DataW H) → Bool := fun _ ds => decide (uptoBulkAll ds ≤ 1048576)
def OpenSpec.upto (s : _root_.Go.ChangeSpec) : _root_.Go.OpenSpec := { _root_.Go.OpenSpec.ofChange s with cond := some uptoSmall }

/-- 'laws.FnModelRelax', WHERE WHAT IT READS IS OF BULK AT MOST 1048576: true; the input reads as it did. -/
def fnModelRelaxUptoRow : OpenClaim := { program := "ytejfnkbdmlijbaa", sum := "7489673093f5f6dccf75375d22e5542dc6f49371df09cbb53f5b61e7dbb73c19", func := "loop.example/constraintsolver/laws.FnModelRelax", spec := "fnModelRelax", unfollowed := true, recurses := true, apart := false, narrowed := true }
def FnModelRelaxUptoSaid : Prop := fnModelRelaxUptoRow.holds Try.pinned (OpenSpec.upto fnModelRelaxSpec)

/-- 'laws.FnModelEdit', WHERE WHAT IT READS IS OF BULK AT MOST 1048576: true; the input reads as it did. -/
def fnModelEditUptoRow : OpenClaim := { program := "ytejfnkbdmlijbaa", sum := "7489673093f5f6dccf75375d22e5542dc6f49371df09cbb53f5b61e7dbb73c19", func := "loop.example/constraintsolver/laws.FnModelEdit", spec := "fnModelEdit", unfollowed := true, recurses := true, apart := false, narrowed := true }
def FnModelEditUptoSaid : Prop := fnModelEditUptoRow.holds Try.pinned (OpenSpec.upto fnModelEditSpec)

/-- 'laws.FnFilterIdempotent', WHERE WHAT IT READS IS OF BULK AT MOST 1048576: true; the input reads as it did. -/
def fnFilterIdempotentUptoRow : OpenClaim := { program := "ytejfnkbdmlijbaa", sum := "7489673093f5f6dccf75375d22e5542dc6f49371df09cbb53f5b61e7dbb73c19", func := "loop.example/constraintsolver/laws.FnFilterIdempotent", spec := "fnFilterIdempotent", unfollowed := true, recurses := true, apart := false, narrowed := true }
def FnFilterIdempotentUptoSaid : Prop := fnFilterIdempotentUptoRow.holds Try.pinned (OpenSpec.upto fnFilterIdempotentSpec)

/-- 'laws.FnBackjump', WHERE WHAT IT READS IS OF BULK AT MOST 1048576: true; the input reads as it did. -/
def fnBackjumpUptoRow : OpenClaim := { program := "ytejfnkbdmlijbaa", sum := "7489673093f5f6dccf75375d22e5542dc6f49371df09cbb53f5b61e7dbb73c19", func := "loop.example/constraintsolver/laws.FnBackjump", spec := "fnBackjump", unfollowed := true, recurses := true, apart := false, narrowed := true }
def FnBackjumpUptoSaid : Prop := fnBackjumpUptoRow.holds Try.pinned (OpenSpec.upto fnBackjumpSpec)

/-- 'laws.FnFilterMonotone', WHERE WHAT IT READS IS OF BULK AT MOST 1048576: true; the input reads as it did. -/
def fnFilterMonotoneUptoRow : OpenClaim := { program := "ytejfnkbdmlijbaa", sum := "7489673093f5f6dccf75375d22e5542dc6f49371df09cbb53f5b61e7dbb73c19", func := "loop.example/constraintsolver/laws.FnFilterMonotone", spec := "fnFilterMonotone", unfollowed := true, recurses := true, apart := false, narrowed := true }
def FnFilterMonotoneUptoSaid : Prop := fnFilterMonotoneUptoRow.holds Try.pinned (OpenSpec.upto fnFilterMonotoneSpec)

/-- 'laws.FnPropagateOrder', WHERE WHAT IT READS IS OF BULK AT MOST 1048576: true; the input reads as it did. -/
def fnPropagateOrderUptoRow : OpenClaim := { program := "ytejfnkbdmlijbaa", sum := "7489673093f5f6dccf75375d22e5542dc6f49371df09cbb53f5b61e7dbb73c19", func := "loop.example/constraintsolver/laws.FnPropagateOrder", spec := "fnPropagateOrder", unfollowed := true, recurses := true, apart := false, narrowed := true }
def FnPropagateOrderUptoSaid : Prop := fnPropagateOrderUptoRow.holds Try.pinned (OpenSpec.upto fnPropagateOrderSpec)

/-- 'laws.FnIsSolution', WHERE WHAT IT READS IS OF BULK AT MOST 1048576: true; the input reads as it did. -/
def fnIsSolutionUptoRow : OpenClaim := { program := "ytejfnkbdmlijbaa", sum := "7489673093f5f6dccf75375d22e5542dc6f49371df09cbb53f5b61e7dbb73c19", func := "loop.example/constraintsolver/laws.FnIsSolution", spec := "fnIsSolution", unfollowed := true, recurses := true, apart := false, narrowed := true }
def FnIsSolutionUptoSaid : Prop := fnIsSolutionUptoRow.holds Try.pinned (OpenSpec.upto fnIsSolutionSpec)

end Rows
end Go.Proofs.Ytejfnkbdmlijbaa
