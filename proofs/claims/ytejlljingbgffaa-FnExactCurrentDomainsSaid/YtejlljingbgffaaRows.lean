/-
  No cell of these rows narrows 'for every input' (looked for: loops, veiled, ifaces, maps, wideKeys, modest, calm, conditions, laid).
  DERIVED. THE GIVEN ROWS OF THIS SEAT. 6 by the template 'for every input the law returns true; each argument reads behind the call as it read before'; 0 by the template 'total and deterministic' (their statements: YtejlljingbgffaaTotals.lean).
  GIVEN WITH THE SEED: the statements are not yours to turn. If you find one false, say at which input.
  Laid BY PROGRAM, IN A SANDBOX (cutbox-rows.mjs): the forced cells as the released guide's own fill.sh prints them over the translation 59830c511f7204a7… (all of the seat's roots in one cut). By AI agents, Wed Nov 11 2026. No macro, syntax, notation, axiom, sorry.
-/
import Derived.Test.YtejlljingbgffaaChecked
import GoSem.Claim
import GoSem.ClaimJoined
import GoSem.ClaimMapViews
import Derived.JoinedTies
import Derived.KernelRfl
namespace Go.Proofs.Ytejlljingbgffaa
/- THE CELL 'sum', in the pinned program and in every row, IS THE sha256 OF THE DUMP (.gsa) THAT YtejlljingbgffaaProg.lean LOADS. Nothing in Lean hashes anything: it is a label: what it is worth is what the hold of that sum in a sandbox is worth. -/
noncomputable def Try.pinned : Pinned := { name := "ytejlljingbgffaa", sum := "59830c511f7204a7d3a4a61e3bc626980ed5f3d39d6a1a9b5f398c59a3650ab5", checked := Try.checked }
namespace Rows
def none {H : Type} : Left H := { results := [], args := [] }

/-- 'laws.FnExactCurrentDomains': WHATEVER THE INPUT: true; the input reads as it did. -/
def fnExactCurrentDomainsSpec : ChangeSpec := { name := "fnExactCurrentDomains", fn := fun _ => fun
  | [d] => { results := [.lit (.bool true)], args := [d] }
  | _ => none }
def fnExactCurrentDomainsRow : OpenClaim := { program := "ytejlljingbgffaa", sum := "59830c511f7204a7d3a4a61e3bc626980ed5f3d39d6a1a9b5f398c59a3650ab5", func := "loop.example/constraintsolver/laws.FnExactCurrentDomains", spec := "fnExactCurrentDomains", unfollowed := true, recurses := true, apart := false }
def FnExactCurrentDomainsSaid : Prop := fnExactCurrentDomainsRow.holds Try.pinned (OpenSpec.ofChange fnExactCurrentDomainsSpec)

/-- ITS FALSE NEIGHBOUR: 'it returns false'. Refute it at one input. -/
def fnExactCurrentDomainsWrong : ChangeSpec := { name := "fnExactCurrentDomains", fn := fun _ => fun
  | [d] => { results := [.lit (.bool false)], args := [d] }
  | _ => none }
def FnExactCurrentDomainsWrongFalsely : Prop := fnExactCurrentDomainsRow.holds Try.pinned (OpenSpec.ofChange fnExactCurrentDomainsWrong)

/-- 'laws.FnExactWithConstraint': WHATEVER THE INPUT: true; the input reads as it did. -/
def fnExactWithConstraintSpec : ChangeSpec := { name := "fnExactWithConstraint", fn := fun _ => fun
  | [d1, d2] => { results := [.lit (.bool true)], args := [d1, d2] }
  | _ => none }
def fnExactWithConstraintRow : OpenClaim := { program := "ytejlljingbgffaa", sum := "59830c511f7204a7d3a4a61e3bc626980ed5f3d39d6a1a9b5f398c59a3650ab5", func := "loop.example/constraintsolver/laws.FnExactWithConstraint", spec := "fnExactWithConstraint", unfollowed := true, recurses := true, apart := false }
def FnExactWithConstraintSaid : Prop := fnExactWithConstraintRow.holds Try.pinned (OpenSpec.ofChange fnExactWithConstraintSpec)

/-- ITS FALSE NEIGHBOUR: 'it returns false'. Refute it at one input. -/
def fnExactWithConstraintWrong : ChangeSpec := { name := "fnExactWithConstraint", fn := fun _ => fun
  | [d1, d2] => { results := [.lit (.bool false)], args := [d1, d2] }
  | _ => none }
def FnExactWithConstraintWrongFalsely : Prop := fnExactWithConstraintRow.holds Try.pinned (OpenSpec.ofChange fnExactWithConstraintWrong)

/-- 'laws.FnExactWithoutConstraint': WHATEVER THE INPUT: true; the input reads as it did. -/
def fnExactWithoutConstraintSpec : ChangeSpec := { name := "fnExactWithoutConstraint", fn := fun _ => fun
  | [d1, d2] => { results := [.lit (.bool true)], args := [d1, d2] }
  | _ => none }
def fnExactWithoutConstraintRow : OpenClaim := { program := "ytejlljingbgffaa", sum := "59830c511f7204a7d3a4a61e3bc626980ed5f3d39d6a1a9b5f398c59a3650ab5", func := "loop.example/constraintsolver/laws.FnExactWithoutConstraint", spec := "fnExactWithoutConstraint", unfollowed := true, recurses := true, apart := false }
def FnExactWithoutConstraintSaid : Prop := fnExactWithoutConstraintRow.holds Try.pinned (OpenSpec.ofChange fnExactWithoutConstraintSpec)

/-- ITS FALSE NEIGHBOUR: 'it returns false'. Refute it at one input. -/
def fnExactWithoutConstraintWrong : ChangeSpec := { name := "fnExactWithoutConstraint", fn := fun _ => fun
  | [d1, d2] => { results := [.lit (.bool false)], args := [d1, d2] }
  | _ => none }
def FnExactWithoutConstraintWrongFalsely : Prop := fnExactWithoutConstraintRow.holds Try.pinned (OpenSpec.ofChange fnExactWithoutConstraintWrong)

/-- 'laws.FnExactBackjump': WHATEVER THE INPUT: true; the input reads as it did. -/
def fnExactBackjumpSpec : ChangeSpec := { name := "fnExactBackjump", fn := fun _ => fun
  | [d1, d2] => { results := [.lit (.bool true)], args := [d1, d2] }
  | _ => none }
def fnExactBackjumpRow : OpenClaim := { program := "ytejlljingbgffaa", sum := "59830c511f7204a7d3a4a61e3bc626980ed5f3d39d6a1a9b5f398c59a3650ab5", func := "loop.example/constraintsolver/laws.FnExactBackjump", spec := "fnExactBackjump", unfollowed := true, recurses := true, apart := false }
def FnExactBackjumpSaid : Prop := fnExactBackjumpRow.holds Try.pinned (OpenSpec.ofChange fnExactBackjumpSpec)

/-- ITS FALSE NEIGHBOUR: 'it returns false'. Refute it at one input. -/
def fnExactBackjumpWrong : ChangeSpec := { name := "fnExactBackjump", fn := fun _ => fun
  | [d1, d2] => { results := [.lit (.bool false)], args := [d1, d2] }
  | _ => none }
def FnExactBackjumpWrongFalsely : Prop := fnExactBackjumpRow.holds Try.pinned (OpenSpec.ofChange fnExactBackjumpWrong)

/-- 'laws.FnIsSolution': WHATEVER THE INPUT: true; the input reads as it did. -/
def fnIsSolutionSpec : ChangeSpec := { name := "fnIsSolution", fn := fun _ => fun
  | [d] => { results := [.lit (.bool true)], args := [d] }
  | _ => none }
def fnIsSolutionRow : OpenClaim := { program := "ytejlljingbgffaa", sum := "59830c511f7204a7d3a4a61e3bc626980ed5f3d39d6a1a9b5f398c59a3650ab5", func := "loop.example/constraintsolver/laws.FnIsSolution", spec := "fnIsSolution", unfollowed := true, recurses := true, apart := false }
def FnIsSolutionSaid : Prop := fnIsSolutionRow.holds Try.pinned (OpenSpec.ofChange fnIsSolutionSpec)

/-- ITS FALSE NEIGHBOUR: 'it returns false'. Refute it at one input. -/
def fnIsSolutionWrong : ChangeSpec := { name := "fnIsSolution", fn := fun _ => fun
  | [d] => { results := [.lit (.bool false)], args := [d] }
  | _ => none }
def FnIsSolutionWrongFalsely : Prop := fnIsSolutionRow.holds Try.pinned (OpenSpec.ofChange fnIsSolutionWrong)

/-- 'laws.FnModelRelax': WHATEVER THE INPUT: true; the input reads as it did. -/
def fnModelRelaxSpec : ChangeSpec := { name := "fnModelRelax", fn := fun _ => fun
  | [d] => { results := [.lit (.bool true)], args := [d] }
  | _ => none }
def fnModelRelaxRow : OpenClaim := { program := "ytejlljingbgffaa", sum := "59830c511f7204a7d3a4a61e3bc626980ed5f3d39d6a1a9b5f398c59a3650ab5", func := "loop.example/constraintsolver/laws.FnModelRelax", spec := "fnModelRelax", unfollowed := true, recurses := true, apart := false }
def FnModelRelaxSaid : Prop := fnModelRelaxRow.holds Try.pinned (OpenSpec.ofChange fnModelRelaxSpec)

/-- ITS FALSE NEIGHBOUR: 'it returns false'. Refute it at one input. -/
def fnModelRelaxWrong : ChangeSpec := { name := "fnModelRelax", fn := fun _ => fun
  | [d] => { results := [.lit (.bool false)], args := [d] }
  | _ => none }
def FnModelRelaxWrongFalsely : Prop := fnModelRelaxRow.holds Try.pinned (OpenSpec.ofChange fnModelRelaxWrong)

/- THE SECOND FORM. 'bulk': how many values and letters a reading holds, each counted each time it is reached (what is shared counts as often as it is met; a slice's spare places count too). A statement '..UptoSaid' is the law's where the arguments, and the package variables that the reading takes, are together of bulk at most 1048576: NARROWER than '..Said'. Prove '..Said' where nothing that the law and all that it calls make is longer than what came in: it says more and counts as full. Else prove '..UptoSaid'. A law counts once. -/
mutual
def uptoBulk {H : Type} : DataW H → Nat
  | .lit (.string bytes) => bytes.length + 1
  | .lit _ => 1
  | .nil => 1
  | .ptr d => uptoBulk d + 1
  | .slice elems spare => uptoBulkAll elems + uptoBulkAll spare + 1
  | .agg parts => uptoBulkAll parts + 1
  | .iface _ d => uptoBulk d + 1
  | .map entries => uptoBulkEntries entries + 1
  | .held _ => 1
def uptoBulkAll {H : Type} : List (DataW H) → Nat
  | [] => 0
  | d :: r => uptoBulk d + uptoBulkAll r
def uptoBulkEntries {H : Type} : List (Lit × DataW H) → Nat
  | [] => 0
  | x :: r => uptoBulkEntry x + uptoBulkEntries r
def uptoBulkEntry {H : Type} : Lit × DataW H → Nat
  | (.string bytes, d) => bytes.length + uptoBulk d + 1
  | (_, d) => uptoBulk d + 1
 end
def uptoSmall : (H : Type) → List (DataW H) → Bool := fun _ ds => decide (uptoBulkAll ds ≤ 1048576)
def OpenSpec.upto (s : _root_.Go.ChangeSpec) : _root_.Go.OpenSpec := { _root_.Go.OpenSpec.ofChange s with cond := some uptoSmall }

/-- 'laws.FnExactCurrentDomains', WHERE WHAT IT READS IS OF BULK AT MOST 1048576: true; the input reads as it did. -/
def fnExactCurrentDomainsUptoRow : OpenClaim := { program := "ytejlljingbgffaa", sum := "59830c511f7204a7d3a4a61e3bc626980ed5f3d39d6a1a9b5f398c59a3650ab5", func := "loop.example/constraintsolver/laws.FnExactCurrentDomains", spec := "fnExactCurrentDomains", unfollowed := true, recurses := true, apart := false, narrowed := true }
def FnExactCurrentDomainsUptoSaid : Prop := fnExactCurrentDomainsUptoRow.holds Try.pinned (OpenSpec.upto fnExactCurrentDomainsSpec)

/-- 'laws.FnExactWithConstraint', WHERE WHAT IT READS IS OF BULK AT MOST 1048576: true; the input reads as it did. -/
def fnExactWithConstraintUptoRow : OpenClaim := { program := "ytejlljingbgffaa", sum := "59830c511f7204a7d3a4a61e3bc626980ed5f3d39d6a1a9b5f398c59a3650ab5", func := "loop.example/constraintsolver/laws.FnExactWithConstraint", spec := "fnExactWithConstraint", unfollowed := true, recurses := true, apart := false, narrowed := true }
def FnExactWithConstraintUptoSaid : Prop := fnExactWithConstraintUptoRow.holds Try.pinned (OpenSpec.upto fnExactWithConstraintSpec)

/-- 'laws.FnExactWithoutConstraint', WHERE WHAT IT READS IS OF BULK AT MOST 1048576: true; the input reads as it did. -/
def fnExactWithoutConstraintUptoRow : OpenClaim := { program := "ytejlljingbgffaa", sum := "59830c511f7204a7d3a4a61e3bc626980ed5f3d39d6a1a9b5f398c59a3650ab5", func := "loop.example/constraintsolver/laws.FnExactWithoutConstraint", spec := "fnExactWithoutConstraint", unfollowed := true, recurses := true, apart := false, narrowed := true }
def FnExactWithoutConstraintUptoSaid : Prop := fnExactWithoutConstraintUptoRow.holds Try.pinned (OpenSpec.upto fnExactWithoutConstraintSpec)

/-- 'laws.FnExactBackjump', WHERE WHAT IT READS IS OF BULK AT MOST 1048576: true; the input reads as it did. -/
def fnExactBackjumpUptoRow : OpenClaim := { program := "ytejlljingbgffaa", sum := "59830c511f7204a7d3a4a61e3bc626980ed5f3d39d6a1a9b5f398c59a3650ab5", func := "loop.example/constraintsolver/laws.FnExactBackjump", spec := "fnExactBackjump", unfollowed := true, recurses := true, apart := false, narrowed := true }
def FnExactBackjumpUptoSaid : Prop := fnExactBackjumpUptoRow.holds Try.pinned (OpenSpec.upto fnExactBackjumpSpec)

/-- 'laws.FnIsSolution', WHERE WHAT IT READS IS OF BULK AT MOST 1048576: true; the input reads as it did. -/
def fnIsSolutionUptoRow : OpenClaim := { program := "ytejlljingbgffaa", sum := "59830c511f7204a7d3a4a61e3bc626980ed5f3d39d6a1a9b5f398c59a3650ab5", func := "loop.example/constraintsolver/laws.FnIsSolution", spec := "fnIsSolution", unfollowed := true, recurses := true, apart := false, narrowed := true }
def FnIsSolutionUptoSaid : Prop := fnIsSolutionUptoRow.holds Try.pinned (OpenSpec.upto fnIsSolutionSpec)

/-- 'laws.FnModelRelax', WHERE WHAT IT READS IS OF BULK AT MOST 1048576: true; the input reads as it did. -/
def fnModelRelaxUptoRow : OpenClaim := { program := "ytejlljingbgffaa", sum := "59830c511f7204a7d3a4a61e3bc626980ed5f3d39d6a1a9b5f398c59a3650ab5", func := "loop.example/constraintsolver/laws.FnModelRelax", spec := "fnModelRelax", unfollowed := true, recurses := true, apart := false, narrowed := true }
def FnModelRelaxUptoSaid : Prop := fnModelRelaxUptoRow.holds Try.pinned (OpenSpec.upto fnModelRelaxSpec)

end Rows
end Go.Proofs.Ytejlljingbgffaa
