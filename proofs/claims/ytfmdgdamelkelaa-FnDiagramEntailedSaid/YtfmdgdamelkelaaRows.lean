/-
  No cell of these rows narrows 'for every input' (looked for: loops, veiled, ifaces, maps, wideKeys, modest, calm, conditions, laid).
  DERIVED. THE GIVEN ROWS OF THIS SEAT. 6 by the template 'for every input the law returns true; each argument reads behind the call as it read before'; 0 by the template 'total and deterministic' (their statements: YtfmdgdamelkelaaTotals.lean).
  GIVEN WITH THE SEED: the statements are not yours to turn. If you find one false, say at which input.
  Laid BY PROGRAM, IN A SANDBOX (cutbox-rows.mjs): the forced cells as the released guide's own fill.sh prints them over the translation 532d77460f04b4a8… (all of the seat's roots in one cut). By AI agents, Wed Nov 11 2026. No macro, syntax, notation, axiom, sorry.
-/
import Derived.Test.YtfmdgdamelkelaaChecked
import GoSem.Claim
import GoSem.ClaimJoined
import GoSem.ClaimMapViews
import Derived.JoinedTies
import Derived.KernelRfl
namespace Go.Proofs.Ytfmdgdamelkelaa
/- THE CELL 'sum', in the pinned program and in every row, IS THE sha256 OF THE DUMP (.gsa) THAT YtfmdgdamelkelaaProg.lean LOADS. Nothing in Lean hashes anything: it is a label: what it is worth is what the hold of that sum in a sandbox is worth. -/
noncomputable def Try.pinned : Pinned := { name := "ytfmdgdamelkelaa", sum := "532d77460f04b4a8806d16a23a76583a601f44b893ce7bf160992c8ad6b98f44", checked := Try.checked }
namespace Rows
def none {H : Type} : Left H := { results := [], args := [] }

/-- 'laws.FnExactBuildDiagram': WHATEVER THE INPUT: true; the input reads as it did. -/
def fnExactBuildDiagramSpec : ChangeSpec := { name := "fnExactBuildDiagram", fn := fun _ => fun
  | [d1, d2] => { results := [.lit (.bool true)], args := [d1, d2] }
  | _ => none }
def fnExactBuildDiagramRow : OpenClaim := { program := "ytfmdgdamelkelaa", sum := "532d77460f04b4a8806d16a23a76583a601f44b893ce7bf160992c8ad6b98f44", func := "loop.example/constraintsolver/laws.FnExactBuildDiagram", spec := "fnExactBuildDiagram", unfollowed := true, recurses := true, plainKeys := false, apart := false }
def FnExactBuildDiagramSaid : Prop := fnExactBuildDiagramRow.holds Try.pinned (OpenSpec.ofChange fnExactBuildDiagramSpec)

/-- ITS FALSE NEIGHBOUR: 'it returns false'. Refute it at one input. -/
def fnExactBuildDiagramWrong : ChangeSpec := { name := "fnExactBuildDiagram", fn := fun _ => fun
  | [d1, d2] => { results := [.lit (.bool false)], args := [d1, d2] }
  | _ => none }
def FnExactBuildDiagramWrongFalsely : Prop := fnExactBuildDiagramRow.holds Try.pinned (OpenSpec.ofChange fnExactBuildDiagramWrong)

/-- 'laws.FnDiagramReduced': WHATEVER THE INPUT: true; the input reads as it did. -/
def fnDiagramReducedSpec : ChangeSpec := { name := "fnDiagramReduced", fn := fun _ => fun
  | [d] => { results := [.lit (.bool true)], args := [d] }
  | _ => none }
def fnDiagramReducedRow : OpenClaim := { program := "ytfmdgdamelkelaa", sum := "532d77460f04b4a8806d16a23a76583a601f44b893ce7bf160992c8ad6b98f44", func := "loop.example/constraintsolver/laws.FnDiagramReduced", spec := "fnDiagramReduced", unfollowed := true, recurses := true, plainKeys := false, apart := false }
def FnDiagramReducedSaid : Prop := fnDiagramReducedRow.holds Try.pinned (OpenSpec.ofChange fnDiagramReducedSpec)

/-- ITS FALSE NEIGHBOUR: 'it returns false'. Refute it at one input. -/
def fnDiagramReducedWrong : ChangeSpec := { name := "fnDiagramReduced", fn := fun _ => fun
  | [d] => { results := [.lit (.bool false)], args := [d] }
  | _ => none }
def FnDiagramReducedWrongFalsely : Prop := fnDiagramReducedRow.holds Try.pinned (OpenSpec.ofChange fnDiagramReducedWrong)

/-- 'laws.FnDiagramEntailed': WHATEVER THE INPUT: true; the input reads as it did. -/
def fnDiagramEntailedSpec : ChangeSpec := { name := "fnDiagramEntailed", fn := fun _ => fun
  | [d] => { results := [.lit (.bool true)], args := [d] }
  | _ => none }
def fnDiagramEntailedRow : OpenClaim := { program := "ytfmdgdamelkelaa", sum := "532d77460f04b4a8806d16a23a76583a601f44b893ce7bf160992c8ad6b98f44", func := "loop.example/constraintsolver/laws.FnDiagramEntailed", spec := "fnDiagramEntailed", unfollowed := true, recurses := true, plainKeys := false, apart := false }
def FnDiagramEntailedSaid : Prop := fnDiagramEntailedRow.holds Try.pinned (OpenSpec.ofChange fnDiagramEntailedSpec)

/-- ITS FALSE NEIGHBOUR: 'it returns false'. Refute it at one input. -/
def fnDiagramEntailedWrong : ChangeSpec := { name := "fnDiagramEntailed", fn := fun _ => fun
  | [d] => { results := [.lit (.bool false)], args := [d] }
  | _ => none }
def FnDiagramEntailedWrongFalsely : Prop := fnDiagramEntailedRow.holds Try.pinned (OpenSpec.ofChange fnDiagramEntailedWrong)

/-- 'laws.FnDiagramAccepts': WHATEVER THE INPUT: true; the input reads as it did. -/
def fnDiagramAcceptsSpec : ChangeSpec := { name := "fnDiagramAccepts", fn := fun _ => fun
  | [d] => { results := [.lit (.bool true)], args := [d] }
  | _ => none }
def fnDiagramAcceptsRow : OpenClaim := { program := "ytfmdgdamelkelaa", sum := "532d77460f04b4a8806d16a23a76583a601f44b893ce7bf160992c8ad6b98f44", func := "loop.example/constraintsolver/laws.FnDiagramAccepts", spec := "fnDiagramAccepts", unfollowed := true, recurses := true, plainKeys := false, apart := false }
def FnDiagramAcceptsSaid : Prop := fnDiagramAcceptsRow.holds Try.pinned (OpenSpec.ofChange fnDiagramAcceptsSpec)

/-- ITS FALSE NEIGHBOUR: 'it returns false'. Refute it at one input. -/
def fnDiagramAcceptsWrong : ChangeSpec := { name := "fnDiagramAccepts", fn := fun _ => fun
  | [d] => { results := [.lit (.bool false)], args := [d] }
  | _ => none }
def FnDiagramAcceptsWrongFalsely : Prop := fnDiagramAcceptsRow.holds Try.pinned (OpenSpec.ofChange fnDiagramAcceptsWrong)

/-- 'laws.FnDiagramCount': WHATEVER THE INPUT: true; the input reads as it did. -/
def fnDiagramCountSpec : ChangeSpec := { name := "fnDiagramCount", fn := fun _ => fun
  | [d] => { results := [.lit (.bool true)], args := [d] }
  | _ => none }
def fnDiagramCountRow : OpenClaim := { program := "ytfmdgdamelkelaa", sum := "532d77460f04b4a8806d16a23a76583a601f44b893ce7bf160992c8ad6b98f44", func := "loop.example/constraintsolver/laws.FnDiagramCount", spec := "fnDiagramCount", unfollowed := true, recurses := true, plainKeys := false, apart := false }
def FnDiagramCountSaid : Prop := fnDiagramCountRow.holds Try.pinned (OpenSpec.ofChange fnDiagramCountSpec)

/-- ITS FALSE NEIGHBOUR: 'it returns false'. Refute it at one input. -/
def fnDiagramCountWrong : ChangeSpec := { name := "fnDiagramCount", fn := fun _ => fun
  | [d] => { results := [.lit (.bool false)], args := [d] }
  | _ => none }
def FnDiagramCountWrongFalsely : Prop := fnDiagramCountRow.holds Try.pinned (OpenSpec.ofChange fnDiagramCountWrong)

/-- 'laws.FnExactDiagramDomains': WHATEVER THE INPUT: true; the input reads as it did. -/
def fnExactDiagramDomainsSpec : ChangeSpec := { name := "fnExactDiagramDomains", fn := fun _ => fun
  | [d] => { results := [.lit (.bool true)], args := [d] }
  | _ => none }
def fnExactDiagramDomainsRow : OpenClaim := { program := "ytfmdgdamelkelaa", sum := "532d77460f04b4a8806d16a23a76583a601f44b893ce7bf160992c8ad6b98f44", func := "loop.example/constraintsolver/laws.FnExactDiagramDomains", spec := "fnExactDiagramDomains", unfollowed := true, recurses := true, plainKeys := false, apart := false }
def FnExactDiagramDomainsSaid : Prop := fnExactDiagramDomainsRow.holds Try.pinned (OpenSpec.ofChange fnExactDiagramDomainsSpec)

/-- ITS FALSE NEIGHBOUR: 'it returns false'. Refute it at one input. -/
def fnExactDiagramDomainsWrong : ChangeSpec := { name := "fnExactDiagramDomains", fn := fun _ => fun
  | [d] => { results := [.lit (.bool false)], args := [d] }
  | _ => none }
def FnExactDiagramDomainsWrongFalsely : Prop := fnExactDiagramDomainsRow.holds Try.pinned (OpenSpec.ofChange fnExactDiagramDomainsWrong)

/- THE SECOND FORM. 'bulk': how many values and letters a reading holds, each counted each time it is reached (what is shared counts as often as it is met; a slice's spare places count too). A statement '..UptoSaid' is the law's where the arguments, and the package variables that the reading takes, are together of bulk at most 1048576: NARROWER than '..Said'. Prove '..Said' where nothing that the law and all that it calls make is longer than what came in: it says more and counts as full. Else prove '..UptoSaid'. A law counts once. -/
mutual
def uptoBulk {H : Type} : DataW H → Nat
  | .lit (.string bytes) => bytes.length + 1
  | .lit _ => 1
  | .nil => 1
  | .ptr d => uptoBulk d + 1
  | .slice elems spare => uptoBulkAll elems + uptoBulkAll spare + 1
  | .agg parts => uptoBulkAll parts + 1
  | .iface _ d => uptoBulk d + 1
  | .map entries => uptoBulkEntries entries + 1
  | .held _ => 1
def uptoBulkAll {H : Type} : List (DataW H) → Nat
  | [] => 0
  | d :: r => uptoBulk d + uptoBulkAll r
def uptoBulkEntries {H : Type} : List (Lit × DataW H) → Nat
  | [] => 0
  | x :: r => uptoBulkEntry x + uptoBulkEntries r
def uptoBulkEntry {H : Type} : Lit × DataW H → Nat
  | (.string bytes, d) => bytes.length + uptoBulk d + 1
  | (_, d) => uptoBulk d + 1
 end
def uptoSmall : (H : Type) → List (DataW H) → Bool := fun _ ds => decide (uptoBulkAll ds ≤ 1048576)
def OpenSpec.upto (s : _root_.Go.ChangeSpec) : _root_.Go.OpenSpec := { _root_.Go.OpenSpec.ofChange s with cond := some uptoSmall }

/-- 'laws.FnExactBuildDiagram', WHERE WHAT IT READS IS OF BULK AT MOST 1048576: true; the input reads as it did. -/
def fnExactBuildDiagramUptoRow : OpenClaim := { program := "ytfmdgdamelkelaa", sum := "532d77460f04b4a8806d16a23a76583a601f44b893ce7bf160992c8ad6b98f44", func := "loop.example/constraintsolver/laws.FnExactBuildDiagram", spec := "fnExactBuildDiagram", unfollowed := true, recurses := true, plainKeys := false, apart := false, narrowed := true }
def FnExactBuildDiagramUptoSaid : Prop := fnExactBuildDiagramUptoRow.holds Try.pinned (OpenSpec.upto fnExactBuildDiagramSpec)

/-- 'laws.FnDiagramReduced', WHERE WHAT IT READS IS OF BULK AT MOST 1048576: true; the input reads as it did. -/
def fnDiagramReducedUptoRow : OpenClaim := { program := "ytfmdgdamelkelaa", sum := "532d77460f04b4a8806d16a23a76583a601f44b893ce7bf160992c8ad6b98f44", func := "loop.example/constraintsolver/laws.FnDiagramReduced", spec := "fnDiagramReduced", unfollowed := true, recurses := true, plainKeys := false, apart := false, narrowed := true }
def FnDiagramReducedUptoSaid : Prop := fnDiagramReducedUptoRow.holds Try.pinned (OpenSpec.upto fnDiagramReducedSpec)

/-- 'laws.FnDiagramEntailed', WHERE WHAT IT READS IS OF BULK AT MOST 1048576: true; the input reads as it did. -/
def fnDiagramEntailedUptoRow : OpenClaim := { program := "ytfmdgdamelkelaa", sum := "532d77460f04b4a8806d16a23a76583a601f44b893ce7bf160992c8ad6b98f44", func := "loop.example/constraintsolver/laws.FnDiagramEntailed", spec := "fnDiagramEntailed", unfollowed := true, recurses := true, plainKeys := false, apart := false, narrowed := true }
def FnDiagramEntailedUptoSaid : Prop := fnDiagramEntailedUptoRow.holds Try.pinned (OpenSpec.upto fnDiagramEntailedSpec)

/-- 'laws.FnDiagramAccepts', WHERE WHAT IT READS IS OF BULK AT MOST 1048576: true; the input reads as it did. -/
def fnDiagramAcceptsUptoRow : OpenClaim := { program := "ytfmdgdamelkelaa", sum := "532d77460f04b4a8806d16a23a76583a601f44b893ce7bf160992c8ad6b98f44", func := "loop.example/constraintsolver/laws.FnDiagramAccepts", spec := "fnDiagramAccepts", unfollowed := true, recurses := true, plainKeys := false, apart := false, narrowed := true }
def FnDiagramAcceptsUptoSaid : Prop := fnDiagramAcceptsUptoRow.holds Try.pinned (OpenSpec.upto fnDiagramAcceptsSpec)

/-- 'laws.FnDiagramCount', WHERE WHAT IT READS IS OF BULK AT MOST 1048576: true; the input reads as it did. -/
def fnDiagramCountUptoRow : OpenClaim := { program := "ytfmdgdamelkelaa", sum := "532d77460f04b4a8806d16a23a76583a601f44b893ce7bf160992c8ad6b98f44", func := "loop.example/constraintsolver/laws.FnDiagramCount", spec := "fnDiagramCount", unfollowed := true, recurses := true, plainKeys := false, apart := false, narrowed := true }
def FnDiagramCountUptoSaid : Prop := fnDiagramCountUptoRow.holds Try.pinned (OpenSpec.upto fnDiagramCountSpec)

/-- 'laws.FnExactDiagramDomains', WHERE WHAT IT READS IS OF BULK AT MOST 1048576: true; the input reads as it did. -/
def fnExactDiagramDomainsUptoRow : OpenClaim := { program := "ytfmdgdamelkelaa", sum := "532d77460f04b4a8806d16a23a76583a601f44b893ce7bf160992c8ad6b98f44", func := "loop.example/constraintsolver/laws.FnExactDiagramDomains", spec := "fnExactDiagramDomains", unfollowed := true, recurses := true, plainKeys := false, apart := false, narrowed := true }
def FnExactDiagramDomainsUptoSaid : Prop := fnExactDiagramDomainsUptoRow.holds Try.pinned (OpenSpec.upto fnExactDiagramDomainsSpec)

end Rows
end Go.Proofs.Ytfmdgdamelkelaa
