/-
  No cell of these rows narrows 'for every input' (looked for: loops, veiled, ifaces, maps, wideKeys, modest, calm, conditions, laid).
  DERIVED. THE GIVEN ROWS OF THIS SEAT. 6 by the template 'for every input the law returns true; each argument reads behind the call as it read before'; 0 by the template 'total and deterministic' (their statements: YtgjpncohobfabaaTotals.lean).
  GIVEN WITH THE SEED: the statements are not yours to turn. If you find one false, say at which input.
  Laid BY PROGRAM, IN A SANDBOX (cutbox-rows.mjs): the forced cells as the released guide's own fill.sh prints them over the translation 870c04442ab37580… (all of the seat's roots in one cut). By AI agents, Wed Nov 11 2026. No macro, syntax, notation, axiom, sorry.
-/
import Derived.Test.YtgjpncohobfabaaChecked
import GoSem.Claim
import GoSem.ClaimJoined
import GoSem.ClaimMapViews
import Derived.JoinedTies
import Derived.KernelRfl
namespace Go.Proofs.Ytgjpncohobfabaa
/- THE CELL 'sum', in the pinned program and in every row, IS THE sha256 OF THE DUMP (.gsa) THAT YtgjpncohobfabaaProg.lean LOADS. Nothing in Lean hashes anything: it is a label: what it is worth is what the hold of that sum in a sandbox is worth. -/
noncomputable def Try.pinned : Pinned := { name := "ytgjpncohobfabaa", sum := "870c04442ab375803245d228bcf6e222ab8e25f6f0e9a87b71d93b1c836d82b1", checked := Try.checked }
namespace Rows
def none {H : Type} : Left H := { results := [], args := [] }

/-- 'laws.FnExactConstants': WHATEVER THE INPUT: true; the input reads as it did. -/
def fnExactConstantsSpec : ChangeSpec := { name := "fnExactConstants", fn := fun _ => fun
  | [] => { results := [.lit (.bool true)], args := [] }
  | _ => none }
def fnExactConstantsRow : OpenClaim := { program := "ytgjpncohobfabaa", sum := "870c04442ab375803245d228bcf6e222ab8e25f6f0e9a87b71d93b1c836d82b1", func := "loop.example/constraintsolver/laws.FnExactConstants", spec := "fnExactConstants", apart := false }
def FnExactConstantsSaid : Prop := fnExactConstantsRow.holds Try.pinned (OpenSpec.ofChange fnExactConstantsSpec)

/-- ITS FALSE NEIGHBOUR: 'it returns false'. Refute it at one input. -/
def fnExactConstantsWrong : ChangeSpec := { name := "fnExactConstants", fn := fun _ => fun
  | [] => { results := [.lit (.bool false)], args := [] }
  | _ => none }
def FnExactConstantsWrongFalsely : Prop := fnExactConstantsRow.holds Try.pinned (OpenSpec.ofChange fnExactConstantsWrong)

/-- 'laws.FnExactValidDomain': WHATEVER THE INPUT: true; the input reads as it did. -/
def fnExactValidDomainSpec : ChangeSpec := { name := "fnExactValidDomain", fn := fun _ => fun
  | [d] => { results := [.lit (.bool true)], args := [d] }
  | _ => none }
def fnExactValidDomainRow : OpenClaim := { program := "ytgjpncohobfabaa", sum := "870c04442ab375803245d228bcf6e222ab8e25f6f0e9a87b71d93b1c836d82b1", func := "loop.example/constraintsolver/laws.FnExactValidDomain", spec := "fnExactValidDomain", apart := false }
def FnExactValidDomainSaid : Prop := fnExactValidDomainRow.holds Try.pinned (OpenSpec.ofChange fnExactValidDomainSpec)

/-- ITS FALSE NEIGHBOUR: 'it returns false'. Refute it at one input. -/
def fnExactValidDomainWrong : ChangeSpec := { name := "fnExactValidDomain", fn := fun _ => fun
  | [d] => { results := [.lit (.bool false)], args := [d] }
  | _ => none }
def FnExactValidDomainWrongFalsely : Prop := fnExactValidDomainRow.holds Try.pinned (OpenSpec.ofChange fnExactValidDomainWrong)

/-- 'laws.FnExactDomainHas': WHATEVER THE INPUT: true; the input reads as it did. -/
def fnExactDomainHasSpec : ChangeSpec := { name := "fnExactDomainHas", fn := fun _ => fun
  | [d1, d2] => { results := [.lit (.bool true)], args := [d1, d2] }
  | _ => none }
def fnExactDomainHasRow : OpenClaim := { program := "ytgjpncohobfabaa", sum := "870c04442ab375803245d228bcf6e222ab8e25f6f0e9a87b71d93b1c836d82b1", func := "loop.example/constraintsolver/laws.FnExactDomainHas", spec := "fnExactDomainHas", apart := false }
def FnExactDomainHasSaid : Prop := fnExactDomainHasRow.holds Try.pinned (OpenSpec.ofChange fnExactDomainHasSpec)

/-- ITS FALSE NEIGHBOUR: 'it returns false'. Refute it at one input. -/
def fnExactDomainHasWrong : ChangeSpec := { name := "fnExactDomainHas", fn := fun _ => fun
  | [d1, d2] => { results := [.lit (.bool false)], args := [d1, d2] }
  | _ => none }
def FnExactDomainHasWrongFalsely : Prop := fnExactDomainHasRow.holds Try.pinned (OpenSpec.ofChange fnExactDomainHasWrong)

/-- 'laws.FnExactDomainRange': WHATEVER THE INPUT: true; the input reads as it did. -/
def fnExactDomainRangeSpec : ChangeSpec := { name := "fnExactDomainRange", fn := fun _ => fun
  | [d1, d2] => { results := [.lit (.bool true)], args := [d1, d2] }
  | _ => none }
def fnExactDomainRangeRow : OpenClaim := { program := "ytgjpncohobfabaa", sum := "870c04442ab375803245d228bcf6e222ab8e25f6f0e9a87b71d93b1c836d82b1", func := "loop.example/constraintsolver/laws.FnExactDomainRange", spec := "fnExactDomainRange", apart := false }
def FnExactDomainRangeSaid : Prop := fnExactDomainRangeRow.holds Try.pinned (OpenSpec.ofChange fnExactDomainRangeSpec)

/-- ITS FALSE NEIGHBOUR: 'it returns false'. Refute it at one input. -/
def fnExactDomainRangeWrong : ChangeSpec := { name := "fnExactDomainRange", fn := fun _ => fun
  | [d1, d2] => { results := [.lit (.bool false)], args := [d1, d2] }
  | _ => none }
def FnExactDomainRangeWrongFalsely : Prop := fnExactDomainRangeRow.holds Try.pinned (OpenSpec.ofChange fnExactDomainRangeWrong)

/-- 'laws.FnExactLuby': WHATEVER THE INPUT: true; the input reads as it did. -/
def fnExactLubySpec : ChangeSpec := { name := "fnExactLuby", fn := fun _ => fun
  | [d] => { results := [.lit (.bool true)], args := [d] }
  | _ => none }
def fnExactLubyRow : OpenClaim := { program := "ytgjpncohobfabaa", sum := "870c04442ab375803245d228bcf6e222ab8e25f6f0e9a87b71d93b1c836d82b1", func := "loop.example/constraintsolver/laws.FnExactLuby", spec := "fnExactLuby", recurses := true, apart := false }
def FnExactLubySaid : Prop := fnExactLubyRow.holds Try.pinned (OpenSpec.ofChange fnExactLubySpec)

/-- ITS FALSE NEIGHBOUR: 'it returns false'. Refute it at one input. -/
def fnExactLubyWrong : ChangeSpec := { name := "fnExactLuby", fn := fun _ => fun
  | [d] => { results := [.lit (.bool false)], args := [d] }
  | _ => none }
def FnExactLubyWrongFalsely : Prop := fnExactLubyRow.holds Try.pinned (OpenSpec.ofChange fnExactLubyWrong)

/-- 'laws.FnDomainRange': WHATEVER THE INPUT: true; the input reads as it did. -/
def fnDomainRangeSpec : ChangeSpec := { name := "fnDomainRange", fn := fun _ => fun
  | [d] => { results := [.lit (.bool true)], args := [d] }
  | _ => none }
def fnDomainRangeRow : OpenClaim := { program := "ytgjpncohobfabaa", sum := "870c04442ab375803245d228bcf6e222ab8e25f6f0e9a87b71d93b1c836d82b1", func := "loop.example/constraintsolver/laws.FnDomainRange", spec := "fnDomainRange", apart := false }
def FnDomainRangeSaid : Prop := fnDomainRangeRow.holds Try.pinned (OpenSpec.ofChange fnDomainRangeSpec)

/-- ITS FALSE NEIGHBOUR: 'it returns false'. Refute it at one input. -/
def fnDomainRangeWrong : ChangeSpec := { name := "fnDomainRange", fn := fun _ => fun
  | [d] => { results := [.lit (.bool false)], args := [d] }
  | _ => none }
def FnDomainRangeWrongFalsely : Prop := fnDomainRangeRow.holds Try.pinned (OpenSpec.ofChange fnDomainRangeWrong)

/- THE SECOND FORM. 'bulk': how many values and letters a reading holds, each counted each time it is reached (what is shared counts as often as it is met; a slice's spare places count too). A statement '..UptoSaid' is the law's where the arguments, and the package variables that the reading takes, are together of bulk at most 1048576: NARROWER than '..Said'. Prove '..Said' where nothing that the law and all that it calls make is longer than what came in: it says more and counts as full. Else prove '..UptoSaid'. A law counts once. -/
mutual
def uptoBulk {H : Type} : DataW H → Nat
  | .lit (.string bytes) => bytes.length + 1
  | .lit _ => 1
  | .nil => 1
  | .ptr d => uptoBulk d + 1
  | .slice elems spare => uptoBulkAll elems + uptoBulkAll spare + 1
  | .agg parts => uptoBulkAll parts + 1
  | .iface _ d => uptoBulk d + 1
  | .map entries => uptoBulkEntries entries + 1
  | .held _ => 1
def uptoBulkAll {H : Type} : List (DataW H) → Nat
  | [] => 0
  | d :: r => uptoBulk d + uptoBulkAll r
def uptoBulkEntries {H : Type} : List (Lit × DataW H) → Nat
  | [] => 0
  | x :: r => uptoBulkEntry x + uptoBulkEntries r
def uptoBulkEntry {H : Type} : Lit × DataW H → Nat
  | (.string bytes, d) => bytes.length + uptoBulk d + 1
  | (_, d) => uptoBulk d + 1
 end
def uptoSmall : (H : Type) → List (DataW H) → Bool := fun _ ds => decide (uptoBulkAll ds ≤ 1048576)
def OpenSpec.upto (s : _root_.Go.ChangeSpec) : _root_.Go.OpenSpec := { _root_.Go.OpenSpec.ofChange s with cond := some uptoSmall }

/-- 'laws.FnExactConstants', WHERE WHAT IT READS IS OF BULK AT MOST 1048576: true; the input reads as it did. -/
def fnExactConstantsUptoRow : OpenClaim := { program := "ytgjpncohobfabaa", sum := "870c04442ab375803245d228bcf6e222ab8e25f6f0e9a87b71d93b1c836d82b1", func := "loop.example/constraintsolver/laws.FnExactConstants", spec := "fnExactConstants", apart := false, narrowed := true }
def FnExactConstantsUptoSaid : Prop := fnExactConstantsUptoRow.holds Try.pinned (OpenSpec.upto fnExactConstantsSpec)

/-- 'laws.FnExactValidDomain', WHERE WHAT IT READS IS OF BULK AT MOST 1048576: true; the input reads as it did. -/
def fnExactValidDomainUptoRow : OpenClaim := { program := "ytgjpncohobfabaa", sum := "870c04442ab375803245d228bcf6e222ab8e25f6f0e9a87b71d93b1c836d82b1", func := "loop.example/constraintsolver/laws.FnExactValidDomain", spec := "fnExactValidDomain", apart := false, narrowed := true }
def FnExactValidDomainUptoSaid : Prop := fnExactValidDomainUptoRow.holds Try.pinned (OpenSpec.upto fnExactValidDomainSpec)

/-- 'laws.FnExactDomainHas', WHERE WHAT IT READS IS OF BULK AT MOST 1048576: true; the input reads as it did. -/
def fnExactDomainHasUptoRow : OpenClaim := { program := "ytgjpncohobfabaa", sum := "870c04442ab375803245d228bcf6e222ab8e25f6f0e9a87b71d93b1c836d82b1", func := "loop.example/constraintsolver/laws.FnExactDomainHas", spec := "fnExactDomainHas", apart := false, narrowed := true }
def FnExactDomainHasUptoSaid : Prop := fnExactDomainHasUptoRow.holds Try.pinned (OpenSpec.upto fnExactDomainHasSpec)

/-- 'laws.FnExactDomainRange', WHERE WHAT IT READS IS OF BULK AT MOST 1048576: true; the input reads as it did. -/
def fnExactDomainRangeUptoRow : OpenClaim := { program := "ytgjpncohobfabaa", sum := "870c04442ab375803245d228bcf6e222ab8e25f6f0e9a87b71d93b1c836d82b1", func := "loop.example/constraintsolver/laws.FnExactDomainRange", spec := "fnExactDomainRange", apart := false, narrowed := true }
def FnExactDomainRangeUptoSaid : Prop := fnExactDomainRangeUptoRow.holds Try.pinned (OpenSpec.upto fnExactDomainRangeSpec)

/-- 'laws.FnExactLuby', WHERE WHAT IT READS IS OF BULK AT MOST 1048576: true; the input reads as it did. -/
def fnExactLubyUptoRow : OpenClaim := { program := "ytgjpncohobfabaa", sum := "870c04442ab375803245d228bcf6e222ab8e25f6f0e9a87b71d93b1c836d82b1", func := "loop.example/constraintsolver/laws.FnExactLuby", spec := "fnExactLuby", recurses := true, apart := false, narrowed := true }
def FnExactLubyUptoSaid : Prop := fnExactLubyUptoRow.holds Try.pinned (OpenSpec.upto fnExactLubySpec)

/-- 'laws.FnDomainRange', WHERE WHAT IT READS IS OF BULK AT MOST 1048576: true; the input reads as it did. -/
def fnDomainRangeUptoRow : OpenClaim := { program := "ytgjpncohobfabaa", sum := "870c04442ab375803245d228bcf6e222ab8e25f6f0e9a87b71d93b1c836d82b1", func := "loop.example/constraintsolver/laws.FnDomainRange", spec := "fnDomainRange", apart := false, narrowed := true }
def FnDomainRangeUptoSaid : Prop := fnDomainRangeUptoRow.holds Try.pinned (OpenSpec.upto fnDomainRangeSpec)

end Rows
end Go.Proofs.Ytgjpncohobfabaa
