/-
  No cell of these rows narrows 'for every input' (looked for: loops, veiled, ifaces, maps, wideKeys, modest, calm, conditions, laid).
  DERIVED. THE GIVEN ROWS OF THIS SEAT. 10 by the template 'for every input the law returns true; each argument reads behind the call as it read before'; 0 by the template 'total and deterministic' (their statements: YtldpcocnhpeadaaTotals.lean).
  GIVEN WITH THE SEED: the statements are not yours to turn. If you find one false, say at which input.
  Laid BY PROGRAM, IN A SANDBOX (cutbox-rows.mjs): the forced cells as the released guide's own fill.sh prints them over the translation e256ffe006284dca… (all of the seat's roots in one cut). By AI agents, Wed Nov 11 2026. No macro, syntax, notation, axiom, sorry.
-/
import Derived.Test.YtldpcocnhpeadaaChecked
import GoSem.Claim
import GoSem.ClaimJoined
import GoSem.ClaimMapViews
import Derived.JoinedTies
import Derived.KernelRfl
namespace Go.Proofs.Ytldpcocnhpeadaa
/- THE CELL 'sum', in the pinned program and in every row, IS THE sha256 OF THE DUMP (.gsa) THAT YtldpcocnhpeadaaProg.lean LOADS. Nothing in Lean hashes anything: it is a label: what it is worth is what the hold of that sum in a sandbox is worth. -/
noncomputable def Try.pinned : Pinned := { name := "ytldpcocnhpeadaa", sum := "e256ffe006284dca4c7b3b2eeea23e105ace49f9ade80819a173950b84f65962", checked := Try.checked }
namespace Rows
def none {H : Type} : Left H := { results := [], args := [] }

/-- 'laws.FnDistance': WHATEVER THE INPUT: true; the input reads as it did. -/
def fnDistanceSpec : ChangeSpec := { name := "fnDistance", fn := fun _ => fun
  | [d1, d2] => { results := [.lit (.bool true)], args := [d1, d2] }
  | _ => none }
def fnDistanceRow : OpenClaim := { program := "ytldpcocnhpeadaa", sum := "e256ffe006284dca4c7b3b2eeea23e105ace49f9ade80819a173950b84f65962", func := "loop.example/constraintsolver/laws.FnDistance", spec := "fnDistance", apart := false }
def FnDistanceSaid : Prop := fnDistanceRow.holds Try.pinned (OpenSpec.ofChange fnDistanceSpec)

/-- ITS FALSE NEIGHBOUR: 'it returns false'. Refute it at one input. -/
def fnDistanceWrong : ChangeSpec := { name := "fnDistance", fn := fun _ => fun
  | [d1, d2] => { results := [.lit (.bool false)], args := [d1, d2] }
  | _ => none }
def FnDistanceWrongFalsely : Prop := fnDistanceRow.holds Try.pinned (OpenSpec.ofChange fnDistanceWrong)

/-- 'laws.FnExactSubsumes': WHATEVER THE INPUT: true; the input reads as it did. -/
def fnExactSubsumesSpec : ChangeSpec := { name := "fnExactSubsumes", fn := fun _ => fun
  | [d1, d2, d3] => { results := [.lit (.bool true)], args := [d1, d2, d3] }
  | _ => none }
def fnExactSubsumesRow : OpenClaim := { program := "ytldpcocnhpeadaa", sum := "e256ffe006284dca4c7b3b2eeea23e105ace49f9ade80819a173950b84f65962", func := "loop.example/constraintsolver/laws.FnExactSubsumes", spec := "fnExactSubsumes", unfollowed := true, recurses := true, apart := false }
def FnExactSubsumesSaid : Prop := fnExactSubsumesRow.holds Try.pinned (OpenSpec.ofChange fnExactSubsumesSpec)

/-- ITS FALSE NEIGHBOUR: 'it returns false'. Refute it at one input. -/
def fnExactSubsumesWrong : ChangeSpec := { name := "fnExactSubsumes", fn := fun _ => fun
  | [d1, d2, d3] => { results := [.lit (.bool false)], args := [d1, d2, d3] }
  | _ => none }
def FnExactSubsumesWrongFalsely : Prop := fnExactSubsumesRow.holds Try.pinned (OpenSpec.ofChange fnExactSubsumesWrong)

/-- 'laws.FnSubsumes': WHATEVER THE INPUT: true; the input reads as it did. -/
def fnSubsumesSpec : ChangeSpec := { name := "fnSubsumes", fn := fun _ => fun
  | [d1, d2] => { results := [.lit (.bool true)], args := [d1, d2] }
  | _ => none }
def fnSubsumesRow : OpenClaim := { program := "ytldpcocnhpeadaa", sum := "e256ffe006284dca4c7b3b2eeea23e105ace49f9ade80819a173950b84f65962", func := "loop.example/constraintsolver/laws.FnSubsumes", spec := "fnSubsumes", unfollowed := true, recurses := true, apart := false }
def FnSubsumesSaid : Prop := fnSubsumesRow.holds Try.pinned (OpenSpec.ofChange fnSubsumesSpec)

/-- ITS FALSE NEIGHBOUR: 'it returns false'. Refute it at one input. -/
def fnSubsumesWrong : ChangeSpec := { name := "fnSubsumes", fn := fun _ => fun
  | [d1, d2] => { results := [.lit (.bool false)], args := [d1, d2] }
  | _ => none }
def FnSubsumesWrongFalsely : Prop := fnSubsumesRow.holds Try.pinned (OpenSpec.ofChange fnSubsumesWrong)

/-- 'laws.FnClauseHolds': WHATEVER THE INPUT: true; the input reads as it did. -/
def fnClauseHoldsSpec : ChangeSpec := { name := "fnClauseHolds", fn := fun _ => fun
  | [d] => { results := [.lit (.bool true)], args := [d] }
  | _ => none }
def fnClauseHoldsRow : OpenClaim := { program := "ytldpcocnhpeadaa", sum := "e256ffe006284dca4c7b3b2eeea23e105ace49f9ade80819a173950b84f65962", func := "loop.example/constraintsolver/laws.FnClauseHolds", spec := "fnClauseHolds", unfollowed := true, recurses := true, apart := false }
def FnClauseHoldsSaid : Prop := fnClauseHoldsRow.holds Try.pinned (OpenSpec.ofChange fnClauseHoldsSpec)

/-- ITS FALSE NEIGHBOUR: 'it returns false'. Refute it at one input. -/
def fnClauseHoldsWrong : ChangeSpec := { name := "fnClauseHolds", fn := fun _ => fun
  | [d] => { results := [.lit (.bool false)], args := [d] }
  | _ => none }
def FnClauseHoldsWrongFalsely : Prop := fnClauseHoldsRow.holds Try.pinned (OpenSpec.ofChange fnClauseHoldsWrong)

/-- 'laws.FnExactUnitPropagate': WHATEVER THE INPUT: true; the input reads as it did. -/
def fnExactUnitPropagateSpec : ChangeSpec := { name := "fnExactUnitPropagate", fn := fun _ => fun
  | [d1, d2] => { results := [.lit (.bool true)], args := [d1, d2] }
  | _ => none }
def fnExactUnitPropagateRow : OpenClaim := { program := "ytldpcocnhpeadaa", sum := "e256ffe006284dca4c7b3b2eeea23e105ace49f9ade80819a173950b84f65962", func := "loop.example/constraintsolver/laws.FnExactUnitPropagate", spec := "fnExactUnitPropagate", unfollowed := true, recurses := true, apart := false }
def FnExactUnitPropagateSaid : Prop := fnExactUnitPropagateRow.holds Try.pinned (OpenSpec.ofChange fnExactUnitPropagateSpec)

/-- ITS FALSE NEIGHBOUR: 'it returns false'. Refute it at one input. -/
def fnExactUnitPropagateWrong : ChangeSpec := { name := "fnExactUnitPropagate", fn := fun _ => fun
  | [d1, d2] => { results := [.lit (.bool false)], args := [d1, d2] }
  | _ => none }
def FnExactUnitPropagateWrongFalsely : Prop := fnExactUnitPropagateRow.holds Try.pinned (OpenSpec.ofChange fnExactUnitPropagateWrong)

/-- 'laws.FnUnitPropagate': WHATEVER THE INPUT: true; the input reads as it did. -/
def fnUnitPropagateSpec : ChangeSpec := { name := "fnUnitPropagate", fn := fun _ => fun
  | [d1, d2] => { results := [.lit (.bool true)], args := [d1, d2] }
  | _ => none }
def fnUnitPropagateRow : OpenClaim := { program := "ytldpcocnhpeadaa", sum := "e256ffe006284dca4c7b3b2eeea23e105ace49f9ade80819a173950b84f65962", func := "loop.example/constraintsolver/laws.FnUnitPropagate", spec := "fnUnitPropagate", unfollowed := true, recurses := true, apart := false }
def FnUnitPropagateSaid : Prop := fnUnitPropagateRow.holds Try.pinned (OpenSpec.ofChange fnUnitPropagateSpec)

/-- ITS FALSE NEIGHBOUR: 'it returns false'. Refute it at one input. -/
def fnUnitPropagateWrong : ChangeSpec := { name := "fnUnitPropagate", fn := fun _ => fun
  | [d1, d2] => { results := [.lit (.bool false)], args := [d1, d2] }
  | _ => none }
def FnUnitPropagateWrongFalsely : Prop := fnUnitPropagateRow.holds Try.pinned (OpenSpec.ofChange fnUnitPropagateWrong)

/-- 'laws.FnExactResolve': WHATEVER THE INPUT: true; the input reads as it did. -/
def fnExactResolveSpec : ChangeSpec := { name := "fnExactResolve", fn := fun _ => fun
  | [d1, d2, d3, d4] => { results := [.lit (.bool true)], args := [d1, d2, d3, d4] }
  | _ => none }
def fnExactResolveRow : OpenClaim := { program := "ytldpcocnhpeadaa", sum := "e256ffe006284dca4c7b3b2eeea23e105ace49f9ade80819a173950b84f65962", func := "loop.example/constraintsolver/laws.FnExactResolve", spec := "fnExactResolve", unfollowed := true, recurses := true, apart := false }
def FnExactResolveSaid : Prop := fnExactResolveRow.holds Try.pinned (OpenSpec.ofChange fnExactResolveSpec)

/-- ITS FALSE NEIGHBOUR: 'it returns false'. Refute it at one input. -/
def fnExactResolveWrong : ChangeSpec := { name := "fnExactResolve", fn := fun _ => fun
  | [d1, d2, d3, d4] => { results := [.lit (.bool false)], args := [d1, d2, d3, d4] }
  | _ => none }
def FnExactResolveWrongFalsely : Prop := fnExactResolveRow.holds Try.pinned (OpenSpec.ofChange fnExactResolveWrong)

/-- 'laws.FnResolve': WHATEVER THE INPUT: true; the input reads as it did. -/
def fnResolveSpec : ChangeSpec := { name := "fnResolve", fn := fun _ => fun
  | [d1, d2] => { results := [.lit (.bool true)], args := [d1, d2] }
  | _ => none }
def fnResolveRow : OpenClaim := { program := "ytldpcocnhpeadaa", sum := "e256ffe006284dca4c7b3b2eeea23e105ace49f9ade80819a173950b84f65962", func := "loop.example/constraintsolver/laws.FnResolve", spec := "fnResolve", unfollowed := true, recurses := true, apart := false }
def FnResolveSaid : Prop := fnResolveRow.holds Try.pinned (OpenSpec.ofChange fnResolveSpec)

/-- ITS FALSE NEIGHBOUR: 'it returns false'. Refute it at one input. -/
def fnResolveWrong : ChangeSpec := { name := "fnResolve", fn := fun _ => fun
  | [d1, d2] => { results := [.lit (.bool false)], args := [d1, d2] }
  | _ => none }
def FnResolveWrongFalsely : Prop := fnResolveRow.holds Try.pinned (OpenSpec.ofChange fnResolveWrong)

/-- 'laws.FnExactDiagramCount': WHATEVER THE INPUT: true; the input reads as it did. -/
def fnExactDiagramCountSpec : ChangeSpec := { name := "fnExactDiagramCount", fn := fun _ => fun
  | [d] => { results := [.lit (.bool true)], args := [d] }
  | _ => none }
def fnExactDiagramCountRow : OpenClaim := { program := "ytldpcocnhpeadaa", sum := "e256ffe006284dca4c7b3b2eeea23e105ace49f9ade80819a173950b84f65962", func := "loop.example/constraintsolver/laws.FnExactDiagramCount", spec := "fnExactDiagramCount", unfollowed := true, recurses := true, apart := false }
def FnExactDiagramCountSaid : Prop := fnExactDiagramCountRow.holds Try.pinned (OpenSpec.ofChange fnExactDiagramCountSpec)

/-- ITS FALSE NEIGHBOUR: 'it returns false'. Refute it at one input. -/
def fnExactDiagramCountWrong : ChangeSpec := { name := "fnExactDiagramCount", fn := fun _ => fun
  | [d] => { results := [.lit (.bool false)], args := [d] }
  | _ => none }
def FnExactDiagramCountWrongFalsely : Prop := fnExactDiagramCountRow.holds Try.pinned (OpenSpec.ofChange fnExactDiagramCountWrong)

/-- 'laws.FnExactDiagramDomains': WHATEVER THE INPUT: true; the input reads as it did. -/
def fnExactDiagramDomainsSpec : ChangeSpec := { name := "fnExactDiagramDomains", fn := fun _ => fun
  | [d] => { results := [.lit (.bool true)], args := [d] }
  | _ => none }
def fnExactDiagramDomainsRow : OpenClaim := { program := "ytldpcocnhpeadaa", sum := "e256ffe006284dca4c7b3b2eeea23e105ace49f9ade80819a173950b84f65962", func := "loop.example/constraintsolver/laws.FnExactDiagramDomains", spec := "fnExactDiagramDomains", unfollowed := true, recurses := true, apart := false }
def FnExactDiagramDomainsSaid : Prop := fnExactDiagramDomainsRow.holds Try.pinned (OpenSpec.ofChange fnExactDiagramDomainsSpec)

/-- ITS FALSE NEIGHBOUR: 'it returns false'. Refute it at one input. -/
def fnExactDiagramDomainsWrong : ChangeSpec := { name := "fnExactDiagramDomains", fn := fun _ => fun
  | [d] => { results := [.lit (.bool false)], args := [d] }
  | _ => none }
def FnExactDiagramDomainsWrongFalsely : Prop := fnExactDiagramDomainsRow.holds Try.pinned (OpenSpec.ofChange fnExactDiagramDomainsWrong)

/- THE SECOND FORM. 'bulk': how many values and letters a reading holds, each counted each time it is reached (what is shared counts as often as it is met; a slice's spare places count too). A statement '..UptoSaid' is the law's where the arguments, and the package variables that the reading takes, are together of bulk at most 1048576: NARROWER than '..Said'. Prove '..Said' where nothing that the law and all that it calls make is longer than what came in: it says more and counts as full. Else prove '..UptoSaid'. A law counts once. -/
mutual
def uptoBulk {H : Type} : DataW H → Nat
  | .lit (.string bytes) => bytes.length + 1
  | .lit _ => 1
  | .nil => 1
  | .ptr d => uptoBulk d + 1
  | .slice elems spare => uptoBulkAll elems + uptoBulkAll spare + 1
  | .agg parts => uptoBulkAll parts + 1
  | .iface _ d => uptoBulk d + 1
  | .map entries => uptoBulkEntries entries + 1
  | .held _ => 1
def uptoBulkAll {H : Type} : List (DataW H) → Nat
  | [] => 0
  | d :: r => uptoBulk d + uptoBulkAll r
def uptoBulkEntries {H : Type} : List (Lit × DataW H) → Nat
  | [] => 0
  | x :: r => uptoBulkEntry x + uptoBulkEntries r
def uptoBulkEntry {H : Type} : Lit × DataW H → Nat
  | (.string bytes, d) => bytes.length + uptoBulk d + 1
  | (_, d) => uptoBulk d + 1
 end
def uptoSmall : (H : Type) → List (DataW H) → Bool := fun _ ds => decide (uptoBulkAll ds ≤ 1048576)
def OpenSpec.upto (s : _root_.Go.ChangeSpec) : _root_.Go.OpenSpec := { _root_.Go.OpenSpec.ofChange s with cond := some uptoSmall }

/-- 'laws.FnDistance', WHERE WHAT IT READS IS OF BULK AT MOST 1048576: true; the input reads as it did. -/
def fnDistanceUptoRow : OpenClaim := { program := "ytldpcocnhpeadaa", sum := "e256ffe006284dca4c7b3b2eeea23e105ace49f9ade80819a173950b84f65962", func := "loop.example/constraintsolver/laws.FnDistance", spec := "fnDistance", apart := false, narrowed := true }
def FnDistanceUptoSaid : Prop := fnDistanceUptoRow.holds Try.pinned (OpenSpec.upto fnDistanceSpec)

/-- 'laws.FnExactSubsumes', WHERE WHAT IT READS IS OF BULK AT MOST 1048576: true; the input reads as it did. -/
def fnExactSubsumesUptoRow : OpenClaim := { program := "ytldpcocnhpeadaa", sum := "e256ffe006284dca4c7b3b2eeea23e105ace49f9ade80819a173950b84f65962", func := "loop.example/constraintsolver/laws.FnExactSubsumes", spec := "fnExactSubsumes", unfollowed := true, recurses := true, apart := false, narrowed := true }
def FnExactSubsumesUptoSaid : Prop := fnExactSubsumesUptoRow.holds Try.pinned (OpenSpec.upto fnExactSubsumesSpec)

/-- 'laws.FnSubsumes', WHERE WHAT IT READS IS OF BULK AT MOST 1048576: true; the input reads as it did. -/
def fnSubsumesUptoRow : OpenClaim := { program := "ytldpcocnhpeadaa", sum := "e256ffe006284dca4c7b3b2eeea23e105ace49f9ade80819a173950b84f65962", func := "loop.example/constraintsolver/laws.FnSubsumes", spec := "fnSubsumes", unfollowed := true, recurses := true, apart := false, narrowed := true }
def FnSubsumesUptoSaid : Prop := fnSubsumesUptoRow.holds Try.pinned (OpenSpec.upto fnSubsumesSpec)

/-- 'laws.FnClauseHolds', WHERE WHAT IT READS IS OF BULK AT MOST 1048576: true; the input reads as it did. -/
def fnClauseHoldsUptoRow : OpenClaim := { program := "ytldpcocnhpeadaa", sum := "e256ffe006284dca4c7b3b2eeea23e105ace49f9ade80819a173950b84f65962", func := "loop.example/constraintsolver/laws.FnClauseHolds", spec := "fnClauseHolds", unfollowed := true, recurses := true, apart := false, narrowed := true }
def FnClauseHoldsUptoSaid : Prop := fnClauseHoldsUptoRow.holds Try.pinned (OpenSpec.upto fnClauseHoldsSpec)

/-- 'laws.FnExactUnitPropagate', WHERE WHAT IT READS IS OF BULK AT MOST 1048576: true; the input reads as it did. -/
def fnExactUnitPropagateUptoRow : OpenClaim := { program := "ytldpcocnhpeadaa", sum := "e256ffe006284dca4c7b3b2eeea23e105ace49f9ade80819a173950b84f65962", func := "loop.example/constraintsolver/laws.FnExactUnitPropagate", spec := "fnExactUnitPropagate", unfollowed := true, recurses := true, apart := false, narrowed := true }
def FnExactUnitPropagateUptoSaid : Prop := fnExactUnitPropagateUptoRow.holds Try.pinned (OpenSpec.upto fnExactUnitPropagateSpec)

/-- 'laws.FnUnitPropagate', WHERE WHAT IT READS IS OF BULK AT MOST 1048576: true; the input reads as it did. -/
def fnUnitPropagateUptoRow : OpenClaim := { program := "ytldpcocnhpeadaa", sum := "e256ffe006284dca4c7b3b2eeea23e105ace49f9ade80819a173950b84f65962", func := "loop.example/constraintsolver/laws.FnUnitPropagate", spec := "fnUnitPropagate", unfollowed := true, recurses := true, apart := false, narrowed := true }
def FnUnitPropagateUptoSaid : Prop := fnUnitPropagateUptoRow.holds Try.pinned (OpenSpec.upto fnUnitPropagateSpec)

/-- 'laws.FnExactResolve', WHERE WHAT IT READS IS OF BULK AT MOST 1048576: true; the input reads as it did. -/
def fnExactResolveUptoRow : OpenClaim := { program := "ytldpcocnhpeadaa", sum := "e256ffe006284dca4c7b3b2eeea23e105ace49f9ade80819a173950b84f65962", func := "loop.example/constraintsolver/laws.FnExactResolve", spec := "fnExactResolve", unfollowed := true, recurses := true, apart := false, narrowed := true }
def FnExactResolveUptoSaid : Prop := fnExactResolveUptoRow.holds Try.pinned (OpenSpec.upto fnExactResolveSpec)

/-- 'laws.FnResolve', WHERE WHAT IT READS IS OF BULK AT MOST 1048576: true; the input reads as it did. -/
def fnResolveUptoRow : OpenClaim := { program := "ytldpcocnhpeadaa", sum := "e256ffe006284dca4c7b3b2eeea23e105ace49f9ade80819a173950b84f65962", func := "loop.example/constraintsolver/laws.FnResolve", spec := "fnResolve", unfollowed := true, recurses := true, apart := false, narrowed := true }
def FnResolveUptoSaid : Prop := fnResolveUptoRow.holds Try.pinned (OpenSpec.upto fnResolveSpec)

/-- 'laws.FnExactDiagramCount', WHERE WHAT IT READS IS OF BULK AT MOST 1048576: true; the input reads as it did. -/
def fnExactDiagramCountUptoRow : OpenClaim := { program := "ytldpcocnhpeadaa", sum := "e256ffe006284dca4c7b3b2eeea23e105ace49f9ade80819a173950b84f65962", func := "loop.example/constraintsolver/laws.FnExactDiagramCount", spec := "fnExactDiagramCount", unfollowed := true, recurses := true, apart := false, narrowed := true }
def FnExactDiagramCountUptoSaid : Prop := fnExactDiagramCountUptoRow.holds Try.pinned (OpenSpec.upto fnExactDiagramCountSpec)

/-- 'laws.FnExactDiagramDomains', WHERE WHAT IT READS IS OF BULK AT MOST 1048576: true; the input reads as it did. -/
def fnExactDiagramDomainsUptoRow : OpenClaim := { program := "ytldpcocnhpeadaa", sum := "e256ffe006284dca4c7b3b2eeea23e105ace49f9ade80819a173950b84f65962", func := "loop.example/constraintsolver/laws.FnExactDiagramDomains", spec := "fnExactDiagramDomains", unfollowed := true, recurses := true, apart := false, narrowed := true }
def FnExactDiagramDomainsUptoSaid : Prop := fnExactDiagramDomainsUptoRow.holds Try.pinned (OpenSpec.upto fnExactDiagramDomainsSpec)

end Rows
end Go.Proofs.Ytldpcocnhpeadaa
