/-
  No cell of these rows narrows 'for every input' (looked for: loops, veiled, ifaces, maps, wideKeys, modest, calm, conditions, laid).
  DERIVED. THE GIVEN ROWS OF THIS SEAT. 11 by the template 'for every input the law returns true; each argument reads behind the call as it read before'; 0 by the template 'total and deterministic' (their statements: YtcgkbamcmpodoaaTotals.lean).
  GIVEN WITH THE SEED: the statements are not yours to turn. If you find one false, say at which input.
  Laid BY PROGRAM, IN A SANDBOX (cutbox-rows.mjs): the forced cells as the released guide's own fill.sh prints them over the translation 022c5b2a0d33e492… (all of the seat's roots in one cut). By AI agents, Wed Nov 11 2026. No macro, syntax, notation, axiom, sorry.
-/
import Derived.Test.YtcgkbamcmpodoaaChecked
import GoSem.Claim
import GoSem.ClaimJoined
import GoSem.ClaimMapViews
import Derived.JoinedTies
import Derived.KernelRfl
namespace Go.Proofs.Ytcgkbamcmpodoaa
/- THE CELL 'sum', in the pinned program and in every row, IS THE sha256 OF THE DUMP (.gsa) THAT YtcgkbamcmpodoaaProg.lean LOADS. Nothing in Lean hashes anything: it is a label: what it is worth is what the hold of that sum in a sandbox is worth. -/
noncomputable def Try.pinned : Pinned := { name := "ytcgkbamcmpodoaa", sum := "022c5b2a0d33e492966ff10d902451d27238c32f86e1e30e5247ab2c1c7ccd48", checked := Try.checked }
namespace Rows
def none {H : Type} : Left H := { results := [], args := [] }

/-- 'laws.FnExactDistance': WHATEVER THE INPUT: true; the input reads as it did. -/
def fnExactDistanceSpec : ChangeSpec := { name := "fnExactDistance", fn := fun _ => fun
  | [d1, d2] => { results := [.lit (.bool true)], args := [d1, d2] }
  | _ => none }
def fnExactDistanceRow : OpenClaim := { program := "ytcgkbamcmpodoaa", sum := "022c5b2a0d33e492966ff10d902451d27238c32f86e1e30e5247ab2c1c7ccd48", func := "loop.example/constraintsolver/laws.FnExactDistance", spec := "fnExactDistance", apart := false }
def FnExactDistanceSaid : Prop := fnExactDistanceRow.holds Try.pinned (OpenSpec.ofChange fnExactDistanceSpec)

/-- ITS FALSE NEIGHBOUR: 'it returns false'. Refute it at one input. -/
def fnExactDistanceWrong : ChangeSpec := { name := "fnExactDistance", fn := fun _ => fun
  | [d1, d2] => { results := [.lit (.bool false)], args := [d1, d2] }
  | _ => none }
def FnExactDistanceWrongFalsely : Prop := fnExactDistanceRow.holds Try.pinned (OpenSpec.ofChange fnExactDistanceWrong)

/-- 'laws.FnLuby': WHATEVER THE INPUT: true; the input reads as it did. -/
def fnLubySpec : ChangeSpec := { name := "fnLuby", fn := fun _ => fun
  | [d] => { results := [.lit (.bool true)], args := [d] }
  | _ => none }
def fnLubyRow : OpenClaim := { program := "ytcgkbamcmpodoaa", sum := "022c5b2a0d33e492966ff10d902451d27238c32f86e1e30e5247ab2c1c7ccd48", func := "loop.example/constraintsolver/laws.FnLuby", spec := "fnLuby", recurses := true, apart := false }
def FnLubySaid : Prop := fnLubyRow.holds Try.pinned (OpenSpec.ofChange fnLubySpec)

/-- ITS FALSE NEIGHBOUR: 'it returns false'. Refute it at one input. -/
def fnLubyWrong : ChangeSpec := { name := "fnLuby", fn := fun _ => fun
  | [d] => { results := [.lit (.bool false)], args := [d] }
  | _ => none }
def FnLubyWrongFalsely : Prop := fnLubyRow.holds Try.pinned (OpenSpec.ofChange fnLubyWrong)

/-- 'laws.FnExactObjectiveValue': WHATEVER THE INPUT: true; the input reads as it did. -/
def fnExactObjectiveValueSpec : ChangeSpec := { name := "fnExactObjectiveValue", fn := fun _ => fun
  | [d1, d2] => { results := [.lit (.bool true)], args := [d1, d2] }
  | _ => none }
def fnExactObjectiveValueRow : OpenClaim := { program := "ytcgkbamcmpodoaa", sum := "022c5b2a0d33e492966ff10d902451d27238c32f86e1e30e5247ab2c1c7ccd48", func := "loop.example/constraintsolver/laws.FnExactObjectiveValue", spec := "fnExactObjectiveValue", unfollowed := true, recurses := true, apart := false }
def FnExactObjectiveValueSaid : Prop := fnExactObjectiveValueRow.holds Try.pinned (OpenSpec.ofChange fnExactObjectiveValueSpec)

/-- ITS FALSE NEIGHBOUR: 'it returns false'. Refute it at one input. -/
def fnExactObjectiveValueWrong : ChangeSpec := { name := "fnExactObjectiveValue", fn := fun _ => fun
  | [d1, d2] => { results := [.lit (.bool false)], args := [d1, d2] }
  | _ => none }
def FnExactObjectiveValueWrongFalsely : Prop := fnExactObjectiveValueRow.holds Try.pinned (OpenSpec.ofChange fnExactObjectiveValueWrong)

/-- 'laws.FnExactDomainSize': WHATEVER THE INPUT: true; the input reads as it did. -/
def fnExactDomainSizeSpec : ChangeSpec := { name := "fnExactDomainSize", fn := fun _ => fun
  | [d] => { results := [.lit (.bool true)], args := [d] }
  | _ => none }
def fnExactDomainSizeRow : OpenClaim := { program := "ytcgkbamcmpodoaa", sum := "022c5b2a0d33e492966ff10d902451d27238c32f86e1e30e5247ab2c1c7ccd48", func := "loop.example/constraintsolver/laws.FnExactDomainSize", spec := "fnExactDomainSize", apart := false }
def FnExactDomainSizeSaid : Prop := fnExactDomainSizeRow.holds Try.pinned (OpenSpec.ofChange fnExactDomainSizeSpec)

/-- ITS FALSE NEIGHBOUR: 'it returns false'. Refute it at one input. -/
def fnExactDomainSizeWrong : ChangeSpec := { name := "fnExactDomainSize", fn := fun _ => fun
  | [d] => { results := [.lit (.bool false)], args := [d] }
  | _ => none }
def FnExactDomainSizeWrongFalsely : Prop := fnExactDomainSizeRow.holds Try.pinned (OpenSpec.ofChange fnExactDomainSizeWrong)

/-- 'laws.FnDistance': WHATEVER THE INPUT: true; the input reads as it did. -/
def fnDistanceSpec : ChangeSpec := { name := "fnDistance", fn := fun _ => fun
  | [d1, d2] => { results := [.lit (.bool true)], args := [d1, d2] }
  | _ => none }
def fnDistanceRow : OpenClaim := { program := "ytcgkbamcmpodoaa", sum := "022c5b2a0d33e492966ff10d902451d27238c32f86e1e30e5247ab2c1c7ccd48", func := "loop.example/constraintsolver/laws.FnDistance", spec := "fnDistance", apart := false }
def FnDistanceSaid : Prop := fnDistanceRow.holds Try.pinned (OpenSpec.ofChange fnDistanceSpec)

/-- ITS FALSE NEIGHBOUR: 'it returns false'. Refute it at one input. -/
def fnDistanceWrong : ChangeSpec := { name := "fnDistance", fn := fun _ => fun
  | [d1, d2] => { results := [.lit (.bool false)], args := [d1, d2] }
  | _ => none }
def FnDistanceWrongFalsely : Prop := fnDistanceRow.holds Try.pinned (OpenSpec.ofChange fnDistanceWrong)

/-- 'laws.FnExactDomainValues': WHATEVER THE INPUT: true; the input reads as it did. -/
def fnExactDomainValuesSpec : ChangeSpec := { name := "fnExactDomainValues", fn := fun _ => fun
  | [d] => { results := [.lit (.bool true)], args := [d] }
  | _ => none }
def fnExactDomainValuesRow : OpenClaim := { program := "ytcgkbamcmpodoaa", sum := "022c5b2a0d33e492966ff10d902451d27238c32f86e1e30e5247ab2c1c7ccd48", func := "loop.example/constraintsolver/laws.FnExactDomainValues", spec := "fnExactDomainValues", apart := false }
def FnExactDomainValuesSaid : Prop := fnExactDomainValuesRow.holds Try.pinned (OpenSpec.ofChange fnExactDomainValuesSpec)

/-- ITS FALSE NEIGHBOUR: 'it returns false'. Refute it at one input. -/
def fnExactDomainValuesWrong : ChangeSpec := { name := "fnExactDomainValues", fn := fun _ => fun
  | [d] => { results := [.lit (.bool false)], args := [d] }
  | _ => none }
def FnExactDomainValuesWrongFalsely : Prop := fnExactDomainValuesRow.holds Try.pinned (OpenSpec.ofChange fnExactDomainValuesWrong)

/-- 'laws.FnExactValidClause': WHATEVER THE INPUT: true; the input reads as it did. -/
def fnExactValidClauseSpec : ChangeSpec := { name := "fnExactValidClause", fn := fun _ => fun
  | [d1, d2] => { results := [.lit (.bool true)], args := [d1, d2] }
  | _ => none }
def fnExactValidClauseRow : OpenClaim := { program := "ytcgkbamcmpodoaa", sum := "022c5b2a0d33e492966ff10d902451d27238c32f86e1e30e5247ab2c1c7ccd48", func := "loop.example/constraintsolver/laws.FnExactValidClause", spec := "fnExactValidClause", apart := false }
def FnExactValidClauseSaid : Prop := fnExactValidClauseRow.holds Try.pinned (OpenSpec.ofChange fnExactValidClauseSpec)

/-- ITS FALSE NEIGHBOUR: 'it returns false'. Refute it at one input. -/
def fnExactValidClauseWrong : ChangeSpec := { name := "fnExactValidClause", fn := fun _ => fun
  | [d1, d2] => { results := [.lit (.bool false)], args := [d1, d2] }
  | _ => none }
def FnExactValidClauseWrongFalsely : Prop := fnExactValidClauseRow.holds Try.pinned (OpenSpec.ofChange fnExactValidClauseWrong)

/-- 'laws.FnExactValidDiagram': WHATEVER THE INPUT: true; the input reads as it did. -/
def fnExactValidDiagramSpec : ChangeSpec := { name := "fnExactValidDiagram", fn := fun _ => fun
  | [d] => { results := [.lit (.bool true)], args := [d] }
  | _ => none }
def fnExactValidDiagramRow : OpenClaim := { program := "ytcgkbamcmpodoaa", sum := "022c5b2a0d33e492966ff10d902451d27238c32f86e1e30e5247ab2c1c7ccd48", func := "loop.example/constraintsolver/laws.FnExactValidDiagram", spec := "fnExactValidDiagram", unfollowed := true, recurses := true, apart := false }
def FnExactValidDiagramSaid : Prop := fnExactValidDiagramRow.holds Try.pinned (OpenSpec.ofChange fnExactValidDiagramSpec)

/-- ITS FALSE NEIGHBOUR: 'it returns false'. Refute it at one input. -/
def fnExactValidDiagramWrong : ChangeSpec := { name := "fnExactValidDiagram", fn := fun _ => fun
  | [d] => { results := [.lit (.bool false)], args := [d] }
  | _ => none }
def FnExactValidDiagramWrongFalsely : Prop := fnExactValidDiagramRow.holds Try.pinned (OpenSpec.ofChange fnExactValidDiagramWrong)

/-- 'laws.FnExactSubsumes': WHATEVER THE INPUT: true; the input reads as it did. -/
def fnExactSubsumesSpec : ChangeSpec := { name := "fnExactSubsumes", fn := fun _ => fun
  | [d1, d2, d3] => { results := [.lit (.bool true)], args := [d1, d2, d3] }
  | _ => none }
def fnExactSubsumesRow : OpenClaim := { program := "ytcgkbamcmpodoaa", sum := "022c5b2a0d33e492966ff10d902451d27238c32f86e1e30e5247ab2c1c7ccd48", func := "loop.example/constraintsolver/laws.FnExactSubsumes", spec := "fnExactSubsumes", unfollowed := true, recurses := true, apart := false }
def FnExactSubsumesSaid : Prop := fnExactSubsumesRow.holds Try.pinned (OpenSpec.ofChange fnExactSubsumesSpec)

/-- ITS FALSE NEIGHBOUR: 'it returns false'. Refute it at one input. -/
def fnExactSubsumesWrong : ChangeSpec := { name := "fnExactSubsumes", fn := fun _ => fun
  | [d1, d2, d3] => { results := [.lit (.bool false)], args := [d1, d2, d3] }
  | _ => none }
def FnExactSubsumesWrongFalsely : Prop := fnExactSubsumesRow.holds Try.pinned (OpenSpec.ofChange fnExactSubsumesWrong)

/-- 'laws.FnExactDiagramAccepts': WHATEVER THE INPUT: true; the input reads as it did. -/
def fnExactDiagramAcceptsSpec : ChangeSpec := { name := "fnExactDiagramAccepts", fn := fun _ => fun
  | [d1, d2] => { results := [.lit (.bool true)], args := [d1, d2] }
  | _ => none }
def fnExactDiagramAcceptsRow : OpenClaim := { program := "ytcgkbamcmpodoaa", sum := "022c5b2a0d33e492966ff10d902451d27238c32f86e1e30e5247ab2c1c7ccd48", func := "loop.example/constraintsolver/laws.FnExactDiagramAccepts", spec := "fnExactDiagramAccepts", unfollowed := true, recurses := true, apart := false }
def FnExactDiagramAcceptsSaid : Prop := fnExactDiagramAcceptsRow.holds Try.pinned (OpenSpec.ofChange fnExactDiagramAcceptsSpec)

/-- ITS FALSE NEIGHBOUR: 'it returns false'. Refute it at one input. -/
def fnExactDiagramAcceptsWrong : ChangeSpec := { name := "fnExactDiagramAccepts", fn := fun _ => fun
  | [d1, d2] => { results := [.lit (.bool false)], args := [d1, d2] }
  | _ => none }
def FnExactDiagramAcceptsWrongFalsely : Prop := fnExactDiagramAcceptsRow.holds Try.pinned (OpenSpec.ofChange fnExactDiagramAcceptsWrong)

/-- 'laws.FnExactClauseHolds': WHATEVER THE INPUT: true; the input reads as it did. -/
def fnExactClauseHoldsSpec : ChangeSpec := { name := "fnExactClauseHolds", fn := fun _ => fun
  | [d1, d2] => { results := [.lit (.bool true)], args := [d1, d2] }
  | _ => none }
def fnExactClauseHoldsRow : OpenClaim := { program := "ytcgkbamcmpodoaa", sum := "022c5b2a0d33e492966ff10d902451d27238c32f86e1e30e5247ab2c1c7ccd48", func := "loop.example/constraintsolver/laws.FnExactClauseHolds", spec := "fnExactClauseHolds", unfollowed := true, recurses := true, apart := false }
def FnExactClauseHoldsSaid : Prop := fnExactClauseHoldsRow.holds Try.pinned (OpenSpec.ofChange fnExactClauseHoldsSpec)

/-- ITS FALSE NEIGHBOUR: 'it returns false'. Refute it at one input. -/
def fnExactClauseHoldsWrong : ChangeSpec := { name := "fnExactClauseHolds", fn := fun _ => fun
  | [d1, d2] => { results := [.lit (.bool false)], args := [d1, d2] }
  | _ => none }
def FnExactClauseHoldsWrongFalsely : Prop := fnExactClauseHoldsRow.holds Try.pinned (OpenSpec.ofChange fnExactClauseHoldsWrong)

/- THE SECOND FORM. 'bulk': how many values and letters a reading holds, each counted each time it is reached (what is shared counts as often as it is met; a slice's spare places count too). A statement '..UptoSaid' is the law's where the arguments, and the package variables that the reading takes, are together of bulk at most 1048576: NARROWER than '..Said'. Prove '..Said' where nothing that the law and all that it calls make is longer than what came in: it says more and counts as full. Else prove '..UptoSaid'. A law counts once. -/
mutual
def uptoBulk {H : Type} : DataW H → Nat
  | .lit (.string bytes) => bytes.length + 1
  | .lit _ => 1
  | .nil => 1
  | .ptr d => uptoBulk d + 1
  | .slice elems spare => uptoBulkAll elems + uptoBulkAll spare + 1
  | .agg parts => uptoBulkAll parts + 1
  | .iface _ d => uptoBulk d + 1
  | .map entries => uptoBulkEntries entries + 1
  | .held _ => 1
def uptoBulkAll {H : Type} : List (DataW H) → Nat
  | [] => 0
  | d :: r => uptoBulk d + uptoBulkAll r
def uptoBulkEntries {H : Type} : List (Lit × DataW H) → Nat
  | [] => 0
  | x :: r => uptoBulkEntry x + uptoBulkEntries r
def uptoBulkEntry {H : Type} : Lit × DataW H → Nat
  | (.string bytes, d) => bytes.length + uptoBulk d + 1
  | (_, d) => uptoBulk d + 1
 end
def uptoSmall : (H : Type) → List (DataW H) → Bool := fun _ ds => decide (uptoBulkAll ds ≤ 1048576)
def OpenSpec.upto (s : _root_.Go.ChangeSpec) : _root_.Go.OpenSpec := { _root_.Go.OpenSpec.ofChange s with cond := some uptoSmall }

/-- 'laws.FnExactDistance', WHERE WHAT IT READS IS OF BULK AT MOST 1048576: true; the input reads as it did. -/
def fnExactDistanceUptoRow : OpenClaim := { program := "ytcgkbamcmpodoaa", sum := "022c5b2a0d33e492966ff10d902451d27238c32f86e1e30e5247ab2c1c7ccd48", func := "loop.example/constraintsolver/laws.FnExactDistance", spec := "fnExactDistance", apart := false, narrowed := true }
def FnExactDistanceUptoSaid : Prop := fnExactDistanceUptoRow.holds Try.pinned (OpenSpec.upto fnExactDistanceSpec)

/-- 'laws.FnLuby', WHERE WHAT IT READS IS OF BULK AT MOST 1048576: true; the input reads as it did. -/
def fnLubyUptoRow : OpenClaim := { program := "ytcgkbamcmpodoaa", sum := "022c5b2a0d33e492966ff10d902451d27238c32f86e1e30e5247ab2c1c7ccd48", func := "loop.example/constraintsolver/laws.FnLuby", spec := "fnLuby", recurses := true, apart := false, narrowed := true }
def FnLubyUptoSaid : Prop := fnLubyUptoRow.holds Try.pinned (OpenSpec.upto fnLubySpec)

/-- 'laws.FnExactObjectiveValue', WHERE WHAT IT READS IS OF BULK AT MOST 1048576: true; the input reads as it did. -/
def fnExactObjectiveValueUptoRow : OpenClaim := { program := "ytcgkbamcmpodoaa", sum := "022c5b2a0d33e492966ff10d902451d27238c32f86e1e30e5247ab2c1c7ccd48", func := "loop.example/constraintsolver/laws.FnExactObjectiveValue", spec := "fnExactObjectiveValue", unfollowed := true, recurses := true, apart := false, narrowed := true }
def FnExactObjectiveValueUptoSaid : Prop := fnExactObjectiveValueUptoRow.holds Try.pinned (OpenSpec.upto fnExactObjectiveValueSpec)

/-- 'laws.FnExactDomainSize', WHERE WHAT IT READS IS OF BULK AT MOST 1048576: true; the input reads as it did. -/
def fnExactDomainSizeUptoRow : OpenClaim := { program := "ytcgkbamcmpodoaa", sum := "022c5b2a0d33e492966ff10d902451d27238c32f86e1e30e5247ab2c1c7ccd48", func := "loop.example/constraintsolver/laws.FnExactDomainSize", spec := "fnExactDomainSize", apart := false, narrowed := true }
def FnExactDomainSizeUptoSaid : Prop := fnExactDomainSizeUptoRow.holds Try.pinned (OpenSpec.upto fnExactDomainSizeSpec)

/-- 'laws.FnDistance', WHERE WHAT IT READS IS OF BULK AT MOST 1048576: true; the input reads as it did. -/
def fnDistanceUptoRow : OpenClaim := { program := "ytcgkbamcmpodoaa", sum := "022c5b2a0d33e492966ff10d902451d27238c32f86e1e30e5247ab2c1c7ccd48", func := "loop.example/constraintsolver/laws.FnDistance", spec := "fnDistance", apart := false, narrowed := true }
def FnDistanceUptoSaid : Prop := fnDistanceUptoRow.holds Try.pinned (OpenSpec.upto fnDistanceSpec)

/-- 'laws.FnExactDomainValues', WHERE WHAT IT READS IS OF BULK AT MOST 1048576: true; the input reads as it did. -/
def fnExactDomainValuesUptoRow : OpenClaim := { program := "ytcgkbamcmpodoaa", sum := "022c5b2a0d33e492966ff10d902451d27238c32f86e1e30e5247ab2c1c7ccd48", func := "loop.example/constraintsolver/laws.FnExactDomainValues", spec := "fnExactDomainValues", apart := false, narrowed := true }
def FnExactDomainValuesUptoSaid : Prop := fnExactDomainValuesUptoRow.holds Try.pinned (OpenSpec.upto fnExactDomainValuesSpec)

/-- 'laws.FnExactValidClause', WHERE WHAT IT READS IS OF BULK AT MOST 1048576: true; the input reads as it did. -/
def fnExactValidClauseUptoRow : OpenClaim := { program := "ytcgkbamcmpodoaa", sum := "022c5b2a0d33e492966ff10d902451d27238c32f86e1e30e5247ab2c1c7ccd48", func := "loop.example/constraintsolver/laws.FnExactValidClause", spec := "fnExactValidClause", apart := false, narrowed := true }
def FnExactValidClauseUptoSaid : Prop := fnExactValidClauseUptoRow.holds Try.pinned (OpenSpec.upto fnExactValidClauseSpec)

/-- 'laws.FnExactValidDiagram', WHERE WHAT IT READS IS OF BULK AT MOST 1048576: true; the input reads as it did. -/
def fnExactValidDiagramUptoRow : OpenClaim := { program := "ytcgkbamcmpodoaa", sum := "022c5b2a0d33e492966ff10d902451d27238c32f86e1e30e5247ab2c1c7ccd48", func := "loop.example/constraintsolver/laws.FnExactValidDiagram", spec := "fnExactValidDiagram", unfollowed := true, recurses := true, apart := false, narrowed := true }
def FnExactValidDiagramUptoSaid : Prop := fnExactValidDiagramUptoRow.holds Try.pinned (OpenSpec.upto fnExactValidDiagramSpec)

/-- 'laws.FnExactSubsumes', WHERE WHAT IT READS IS OF BULK AT MOST 1048576: true; the input reads as it did. -/
def fnExactSubsumesUptoRow : OpenClaim := { program := "ytcgkbamcmpodoaa", sum := "022c5b2a0d33e492966ff10d902451d27238c32f86e1e30e5247ab2c1c7ccd48", func := "loop.example/constraintsolver/laws.FnExactSubsumes", spec := "fnExactSubsumes", unfollowed := true, recurses := true, apart := false, narrowed := true }
def FnExactSubsumesUptoSaid : Prop := fnExactSubsumesUptoRow.holds Try.pinned (OpenSpec.upto fnExactSubsumesSpec)

/-- 'laws.FnExactDiagramAccepts', WHERE WHAT IT READS IS OF BULK AT MOST 1048576: true; the input reads as it did. -/
def fnExactDiagramAcceptsUptoRow : OpenClaim := { program := "ytcgkbamcmpodoaa", sum := "022c5b2a0d33e492966ff10d902451d27238c32f86e1e30e5247ab2c1c7ccd48", func := "loop.example/constraintsolver/laws.FnExactDiagramAccepts", spec := "fnExactDiagramAccepts", unfollowed := true, recurses := true, apart := false, narrowed := true }
def FnExactDiagramAcceptsUptoSaid : Prop := fnExactDiagramAcceptsUptoRow.holds Try.pinned (OpenSpec.upto fnExactDiagramAcceptsSpec)

/-- 'laws.FnExactClauseHolds', WHERE WHAT IT READS IS OF BULK AT MOST 1048576: true; the input reads as it did. -/
def fnExactClauseHoldsUptoRow : OpenClaim := { program := "ytcgkbamcmpodoaa", sum := "022c5b2a0d33e492966ff10d902451d27238c32f86e1e30e5247ab2c1c7ccd48", func := "loop.example/constraintsolver/laws.FnExactClauseHolds", spec := "fnExactClauseHolds", unfollowed := true, recurses := true, apart := false, narrowed := true }
def FnExactClauseHoldsUptoSaid : Prop := fnExactClauseHoldsUptoRow.holds Try.pinned (OpenSpec.upto fnExactClauseHoldsSpec)

end Rows
end Go.Proofs.Ytcgkbamcmpodoaa
