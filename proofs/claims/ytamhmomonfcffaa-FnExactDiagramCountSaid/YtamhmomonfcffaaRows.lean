/-
  No cell of these rows narrows 'for every input' (looked for: loops, veiled, ifaces, maps, wideKeys, modest, calm, conditions, laid).
  DERIVED. THE GIVEN ROWS OF THIS SEAT. 2 by the template 'for every input the law returns true; each argument reads behind the call as it read before'; 0 by the template 'total and deterministic' (their statements: YtamhmomonfcffaaTotals.lean).
  GIVEN WITH THE SEED: the statements are not yours to turn. If you find one false, say at which input.
  Laid BY PROGRAM, IN A SANDBOX (cutbox-rows.mjs): the forced cells as the released guide's own fill.sh prints them over the translation f6defe9b4ae672be… (all of the seat's roots in one cut). By AI agents, Wed Nov 11 2026. No macro, syntax, notation, axiom, sorry.
-/
import Derived.Test.YtamhmomonfcffaaChecked
import GoSem.Claim
import GoSem.ClaimJoined
import GoSem.ClaimMapViews
import Derived.JoinedTies
import Derived.KernelRfl
namespace Go.Proofs.Ytamhmomonfcffaa
/- THE CELL 'sum', in the pinned program and in every row, IS THE sha256 OF THE DUMP (.gsa) THAT YtamhmomonfcffaaProg.lean LOADS. Nothing in Lean hashes anything: it is a label: what it is worth is what the hold of that sum in a sandbox is worth. -/
noncomputable def Try.pinned : Pinned := { name := "ytamhmomonfcffaa", sum := "f6defe9b4ae672be9e745b7ffc88fcd5c99844bc43e1db446564c5b4cf01b1aa", checked := Try.checked }
namespace Rows
def none {H : Type} : Left H := { results := [], args := [] }

/-- 'laws.FnExactDiagramCount': WHATEVER THE INPUT: true; the input reads as it did. -/
def fnExactDiagramCountSpec : ChangeSpec := { name := "fnExactDiagramCount", fn := fun _ => fun
  | [d] => { results := [.lit (.bool true)], args := [d] }
  | _ => none }
def fnExactDiagramCountRow : OpenClaim := { program := "ytamhmomonfcffaa", sum := "f6defe9b4ae672be9e745b7ffc88fcd5c99844bc43e1db446564c5b4cf01b1aa", func := "loop.example/constraintsolver/laws.FnExactDiagramCount", spec := "fnExactDiagramCount", unfollowed := true, recurses := true, apart := false }
def FnExactDiagramCountSaid : Prop := fnExactDiagramCountRow.holds Try.pinned (OpenSpec.ofChange fnExactDiagramCountSpec)

/-- ITS FALSE NEIGHBOUR: 'it returns false'. Refute it at one input. -/
def fnExactDiagramCountWrong : ChangeSpec := { name := "fnExactDiagramCount", fn := fun _ => fun
  | [d] => { results := [.lit (.bool false)], args := [d] }
  | _ => none }
def FnExactDiagramCountWrongFalsely : Prop := fnExactDiagramCountRow.holds Try.pinned (OpenSpec.ofChange fnExactDiagramCountWrong)

/-- 'laws.FnExactDiagramDomains': WHATEVER THE INPUT: true; the input reads as it did. -/
def fnExactDiagramDomainsSpec : ChangeSpec := { name := "fnExactDiagramDomains", fn := fun _ => fun
  | [d] => { results := [.lit (.bool true)], args := [d] }
  | _ => none }
def fnExactDiagramDomainsRow : OpenClaim := { program := "ytamhmomonfcffaa", sum := "f6defe9b4ae672be9e745b7ffc88fcd5c99844bc43e1db446564c5b4cf01b1aa", func := "loop.example/constraintsolver/laws.FnExactDiagramDomains", spec := "fnExactDiagramDomains", unfollowed := true, recurses := true, apart := false }
def FnExactDiagramDomainsSaid : Prop := fnExactDiagramDomainsRow.holds Try.pinned (OpenSpec.ofChange fnExactDiagramDomainsSpec)

/-- ITS FALSE NEIGHBOUR: 'it returns false'. Refute it at one input. -/
def fnExactDiagramDomainsWrong : ChangeSpec := { name := "fnExactDiagramDomains", fn := fun _ => fun
  | [d] => { results := [.lit (.bool false)], args := [d] }
  | _ => none }
def FnExactDiagramDomainsWrongFalsely : Prop := fnExactDiagramDomainsRow.holds Try.pinned (OpenSpec.ofChange fnExactDiagramDomainsWrong)

/- THE SECOND FORM. 'bulk': how many values and letters a reading holds, each counted each time it is reached (what is shared counts as often as it is met; a slice's spare places count too). A statement '..UptoSaid' is the law's where the arguments, and the package variables that the reading takes, are together of bulk at most 1048576: NARROWER than '..Said'. Prove '..Said' where nothing that the law and all that it calls make is longer than what came in: it says more and counts as full. Else prove '..UptoSaid'. A law counts once. -/
mutual
def uptoBulk {H : Type} : DataW H → Nat
  | .lit (.string bytes) => bytes.length + 1
  | .lit _ => 1
  | .nil => 1
  | .ptr d => uptoBulk d + 1
  | .slice elems spare => uptoBulkAll elems + uptoBulkAll spare + 1
  | .agg parts => uptoBulkAll parts + 1
  | .iface _ d => uptoBulk d + 1
  | .map entries => uptoBulkEntries entries + 1
  | .held _ => 1
def uptoBulkAll {H : Type} : List (DataW H) → Nat
  | [] => 0
  | d :: r => uptoBulk d + uptoBulkAll r
def uptoBulkEntries {H : Type} : List (Lit × DataW H) → Nat
  | [] => 0
  | x :: r => uptoBulkEntry x + uptoBulkEntries r
def uptoBulkEntry {H : Type} : Lit × DataW H → Nat
  | (.string bytes, d) => bytes.length + uptoBulk d + 1
  | (_, d) => uptoBulk d + 1
 end
def uptoSmall : (H : Type) → List (DataW H) → Bool := fun _ ds => decide (uptoBulkAll ds ≤ 1048576)
def OpenSpec.upto (s : _root_.Go.ChangeSpec) : _root_.Go.OpenSpec := { _root_.Go.OpenSpec.ofChange s with cond := some uptoSmall }

/-- 'laws.FnExactDiagramCount', WHERE WHAT IT READS IS OF BULK AT MOST 1048576: true; the input reads as it did. -/
def fnExactDiagramCountUptoRow : OpenClaim := { program := "ytamhmomonfcffaa", sum := "f6defe9b4ae672be9e745b7ffc88fcd5c99844bc43e1db446564c5b4cf01b1aa", func := "loop.example/constraintsolver/laws.FnExactDiagramCount", spec := "fnExactDiagramCount", unfollowed := true, recurses := true, apart := false, narrowed := true }
def FnExactDiagramCountUptoSaid : Prop := fnExactDiagramCountUptoRow.holds Try.pinned (OpenSpec.upto fnExactDiagramCountSpec)

/-- 'laws.FnExactDiagramDomains', WHERE WHAT IT READS IS OF BULK AT MOST 1048576: true; the input reads as it did. -/
def fnExactDiagramDomainsUptoRow : OpenClaim := { program := "ytamhmomonfcffaa", sum := "f6defe9b4ae672be9e745b7ffc88fcd5c99844bc43e1db446564c5b4cf01b1aa", func := "loop.example/constraintsolver/laws.FnExactDiagramDomains", spec := "fnExactDiagramDomains", unfollowed := true, recurses := true, apart := false, narrowed := true }
def FnExactDiagramDomainsUptoSaid : Prop := fnExactDiagramDomainsUptoRow.holds Try.pinned (OpenSpec.upto fnExactDiagramDomainsSpec)

end Rows
end Go.Proofs.Ytamhmomonfcffaa
