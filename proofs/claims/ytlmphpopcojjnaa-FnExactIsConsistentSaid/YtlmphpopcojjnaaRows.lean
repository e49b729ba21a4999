/-
  No cell of these rows narrows 'for every input' (looked for: loops, veiled, ifaces, maps, wideKeys, modest, calm, conditions, laid).
  DERIVED. THE GIVEN ROWS OF THIS SEAT. 5 by the template 'for every input the law returns true; each argument reads behind the call as it read before'; 0 by the template 'total and deterministic' (their statements: YtlmphpopcojjnaaTotals.lean).
  GIVEN WITH THE SEED: the statements are not yours to turn. If you find one false, say at which input.
  Laid BY PROGRAM, IN A SANDBOX (cutbox-rows.mjs): the forced cells as the released guide's own fill.sh prints them over the translation 545bb35c66282fae… (all of the seat's roots in one cut). By AI agents, Wed Nov 11 2026. No macro, syntax, notation, axiom, sorry.
-/
import Derived.Test.YtlmphpopcojjnaaChecked
import GoSem.Claim
import GoSem.ClaimJoined
import GoSem.ClaimMapViews
import Derived.JoinedTies
import Derived.KernelRfl
namespace Go.Proofs.Ytlmphpopcojjnaa
/- THE CELL 'sum', in the pinned program and in every row, IS THE sha256 OF THE DUMP (.gsa) THAT YtlmphpopcojjnaaProg.lean LOADS. Nothing in Lean hashes anything: it is a label: what it is worth is what the hold of that sum in a sandbox is worth. -/
noncomputable def Try.pinned : Pinned := { name := "ytlmphpopcojjnaa", sum := "545bb35c66282faec1e7b9ec2b7d14c4f2e1b1ed841163aa02246a0355a4a8f9", checked := Try.checked }
namespace Rows
def none {H : Type} : Left H := { results := [], args := [] }

/-- 'laws.FnExactIsEntailed': WHATEVER THE INPUT: true; the input reads as it did. -/
def fnExactIsEntailedSpec : ChangeSpec := { name := "fnExactIsEntailed", fn := fun _ => fun
  | [d1, d2] => { results := [.lit (.bool true)], args := [d1, d2] }
  | _ => none }
def fnExactIsEntailedRow : OpenClaim := { program := "ytlmphpopcojjnaa", sum := "545bb35c66282faec1e7b9ec2b7d14c4f2e1b1ed841163aa02246a0355a4a8f9", func := "loop.example/constraintsolver/laws.FnExactIsEntailed", spec := "fnExactIsEntailed", unfollowed := true, recurses := true, apart := false }
def FnExactIsEntailedSaid : Prop := fnExactIsEntailedRow.holds Try.pinned (OpenSpec.ofChange fnExactIsEntailedSpec)

/-- ITS FALSE NEIGHBOUR: 'it returns false'. Refute it at one input. -/
def fnExactIsEntailedWrong : ChangeSpec := { name := "fnExactIsEntailed", fn := fun _ => fun
  | [d1, d2] => { results := [.lit (.bool false)], args := [d1, d2] }
  | _ => none }
def FnExactIsEntailedWrongFalsely : Prop := fnExactIsEntailedRow.holds Try.pinned (OpenSpec.ofChange fnExactIsEntailedWrong)

/-- 'laws.FnExactFilter': WHATEVER THE INPUT: true; the input reads as it did. -/
def fnExactFilterSpec : ChangeSpec := { name := "fnExactFilter", fn := fun _ => fun
  | [d1, d2] => { results := [.lit (.bool true)], args := [d1, d2] }
  | _ => none }
def fnExactFilterRow : OpenClaim := { program := "ytlmphpopcojjnaa", sum := "545bb35c66282faec1e7b9ec2b7d14c4f2e1b1ed841163aa02246a0355a4a8f9", func := "loop.example/constraintsolver/laws.FnExactFilter", spec := "fnExactFilter", unfollowed := true, recurses := true, apart := false }
def FnExactFilterSaid : Prop := fnExactFilterRow.holds Try.pinned (OpenSpec.ofChange fnExactFilterSpec)

/-- ITS FALSE NEIGHBOUR: 'it returns false'. Refute it at one input. -/
def fnExactFilterWrong : ChangeSpec := { name := "fnExactFilter", fn := fun _ => fun
  | [d1, d2] => { results := [.lit (.bool false)], args := [d1, d2] }
  | _ => none }
def FnExactFilterWrongFalsely : Prop := fnExactFilterRow.holds Try.pinned (OpenSpec.ofChange fnExactFilterWrong)

/-- 'laws.FnExactIsConsistent': WHATEVER THE INPUT: true; the input reads as it did. -/
def fnExactIsConsistentSpec : ChangeSpec := { name := "fnExactIsConsistent", fn := fun _ => fun
  | [d] => { results := [.lit (.bool true)], args := [d] }
  | _ => none }
def fnExactIsConsistentRow : OpenClaim := { program := "ytlmphpopcojjnaa", sum := "545bb35c66282faec1e7b9ec2b7d14c4f2e1b1ed841163aa02246a0355a4a8f9", func := "loop.example/constraintsolver/laws.FnExactIsConsistent", spec := "fnExactIsConsistent", unfollowed := true, recurses := true, apart := false }
def FnExactIsConsistentSaid : Prop := fnExactIsConsistentRow.holds Try.pinned (OpenSpec.ofChange fnExactIsConsistentSpec)

/-- ITS FALSE NEIGHBOUR: 'it returns false'. Refute it at one input. -/
def fnExactIsConsistentWrong : ChangeSpec := { name := "fnExactIsConsistent", fn := fun _ => fun
  | [d] => { results := [.lit (.bool false)], args := [d] }
  | _ => none }
def FnExactIsConsistentWrongFalsely : Prop := fnExactIsConsistentRow.holds Try.pinned (OpenSpec.ofChange fnExactIsConsistentWrong)

/-- 'laws.FnFilterIdempotent': WHATEVER THE INPUT: true; the input reads as it did. -/
def fnFilterIdempotentSpec : ChangeSpec := { name := "fnFilterIdempotent", fn := fun _ => fun
  | [d] => { results := [.lit (.bool true)], args := [d] }
  | _ => none }
def fnFilterIdempotentRow : OpenClaim := { program := "ytlmphpopcojjnaa", sum := "545bb35c66282faec1e7b9ec2b7d14c4f2e1b1ed841163aa02246a0355a4a8f9", func := "loop.example/constraintsolver/laws.FnFilterIdempotent", spec := "fnFilterIdempotent", unfollowed := true, recurses := true, apart := false }
def FnFilterIdempotentSaid : Prop := fnFilterIdempotentRow.holds Try.pinned (OpenSpec.ofChange fnFilterIdempotentSpec)

/-- ITS FALSE NEIGHBOUR: 'it returns false'. Refute it at one input. -/
def fnFilterIdempotentWrong : ChangeSpec := { name := "fnFilterIdempotent", fn := fun _ => fun
  | [d] => { results := [.lit (.bool false)], args := [d] }
  | _ => none }
def FnFilterIdempotentWrongFalsely : Prop := fnFilterIdempotentRow.holds Try.pinned (OpenSpec.ofChange fnFilterIdempotentWrong)

/-- 'laws.FnFilterMonotone': WHATEVER THE INPUT: true; the input reads as it did. -/
def fnFilterMonotoneSpec : ChangeSpec := { name := "fnFilterMonotone", fn := fun _ => fun
  | [d1, d2] => { results := [.lit (.bool true)], args := [d1, d2] }
  | _ => none }
def fnFilterMonotoneRow : OpenClaim := { program := "ytlmphpopcojjnaa", sum := "545bb35c66282faec1e7b9ec2b7d14c4f2e1b1ed841163aa02246a0355a4a8f9", func := "loop.example/constraintsolver/laws.FnFilterMonotone", spec := "fnFilterMonotone", unfollowed := true, recurses := true, apart := false }
def FnFilterMonotoneSaid : Prop := fnFilterMonotoneRow.holds Try.pinned (OpenSpec.ofChange fnFilterMonotoneSpec)

/-- ITS FALSE NEIGHBOUR: 'it returns false'. Refute it at one input. -/
def fnFilterMonotoneWrong : ChangeSpec := { name := "fnFilterMonotone", fn := fun _ => fun
  | [d1, d2] => { results := [.lit (.bool false)], args := [d1, d2] }
  | _ => none }
def FnFilterMonotoneWrongFalsely : Prop := fnFilterMonotoneRow.holds Try.pinned (OpenSpec.ofChange fnFilterMonotoneWrong)

/- THE SECOND FORM. 'bulk': how many values and letters a reading holds, each counted each time it is reached (what is shared counts as often as it is met; a slice's spare places count too). A statement '..UptoSaid' is the law's where the arguments, and the package variables that the reading takes, are together of bulk at most 1048576: NARROWER than '..Said'. Prove '..Said' where nothing that the law and all that it calls make is longer than what came in: it says more and counts as full. Else prove '..UptoSaid'. A law counts once. -/
mutual
def uptoBulk {H : Type} : DataW H → Nat
  | .lit (.string bytes) => bytes.length + 1
  | .lit _ => 1
  | .nil => 1
  | .ptr d => uptoBulk d + 1
  | .slice elems spare => uptoBulkAll elems + uptoBulkAll spare + 1
  | .agg parts => uptoBulkAll parts + 1
  | .iface _ d => uptoBulk d + 1
  | .map entries => uptoBulkEntries entries + 1
  | .held _ => 1
def uptoBulkAll {H : Type} : List (DataW H) → Nat
  | [] => 0
  | d :: r => uptoBulk d + uptoBulkAll r
def uptoBulkEntries {H : Type} : List (Lit × DataW H) → Nat
  | [] => 0
  | x :: r => uptoBulkEntry x + uptoBulkEntries r
def uptoBulkEntry {H : Type} : Lit × DataW H → Nat
  | (.string bytes, d) => bytes.length + uptoBulk d + 1
  | (_, d) => uptoBulk d + 1
 end
def uptoSmall : (H : Type) → List (DataW H) → Bool := fun _ ds => decide (uptoBulkAll ds ≤ 1048576)
def OpenSpec.upto (s : _root_.Go.ChangeSpec) : _root_.Go.OpenSpec := { _root_.Go.OpenSpec.ofChange s with cond := some uptoSmall }

/-- 'laws.FnExactIsEntailed', WHERE WHAT IT READS IS OF BULK AT MOST 1048576: true; the input reads as it did. -/
def fnExactIsEntailedUptoRow : OpenClaim := { program := "ytlmphpopcojjnaa", sum := "545bb35c66282faec1e7b9ec2b7d14c4f2e1b1ed841163aa02246a0355a4a8f9", func := "loop.example/constraintsolver/laws.FnExactIsEntailed", spec := "fnExactIsEntailed", unfollowed := true, recurses := true, apart := false, narrowed := true }
def FnExactIsEntailedUptoSaid : Prop := fnExactIsEntailedUptoRow.holds Try.pinned (OpenSpec.upto fnExactIsEntailedSpec)

/-- 'laws.FnExactFilter', WHERE WHAT IT READS IS OF BULK AT MOST 1048576: true; the input reads as it did. -/
def fnExactFilterUptoRow : OpenClaim := { program := "ytlmphpopcojjnaa", sum := "545bb35c66282faec1e7b9ec2b7d14c4f2e1b1ed841163aa02246a0355a4a8f9", func := "loop.example/constraintsolver/laws.FnExactFilter", spec := "fnExactFilter", unfollowed := true, recurses := true, apart := false, narrowed := true }
def FnExactFilterUptoSaid : Prop := fnExactFilterUptoRow.holds Try.pinned (OpenSpec.upto fnExactFilterSpec)

/-- 'laws.FnExactIsConsistent', WHERE WHAT IT READS IS OF BULK AT MOST 1048576: true; the input reads as it did. -/
def fnExactIsConsistentUptoRow : OpenClaim := { program := "ytlmphpopcojjnaa", sum := "545bb35c66282faec1e7b9ec2b7d14c4f2e1b1ed841163aa02246a0355a4a8f9", func := "loop.example/constraintsolver/laws.FnExactIsConsistent", spec := "fnExactIsConsistent", unfollowed := true, recurses := true, apart := false, narrowed := true }
def FnExactIsConsistentUptoSaid : Prop := fnExactIsConsistentUptoRow.holds Try.pinned (OpenSpec.upto fnExactIsConsistentSpec)

/-- 'laws.FnFilterIdempotent', WHERE WHAT IT READS IS OF BULK AT MOST 1048576: true; the input reads as it did. -/
def fnFilterIdempotentUptoRow : OpenClaim := { program := "ytlmphpopcojjnaa", sum := "545bb35c66282faec1e7b9ec2b7d14c4f2e1b1ed841163aa02246a0355a4a8f9", func := "loop.example/constraintsolver/laws.FnFilterIdempotent", spec := "fnFilterIdempotent", unfollowed := true, recurses := true, apart := false, narrowed := true }
def FnFilterIdempotentUptoSaid : Prop := fnFilterIdempotentUptoRow.holds Try.pinned (OpenSpec.upto fnFilterIdempotentSpec)

/-- 'laws.FnFilterMonotone', WHERE WHAT IT READS IS OF BULK AT MOST 1048576: true; the input reads as it did. -/
def fnFilterMonotoneUptoRow : OpenClaim := { program := "ytlmphpopcojjnaa", sum := "545bb35c66282faec1e7b9ec2b7d14c4f2e1b1ed841163aa02246a0355a4a8f9", func := "loop.example/constraintsolver/laws.FnFilterMonotone", spec := "fnFilterMonotone", unfollowed := true, recurses := true, apart := false, narrowed := true }
def FnFilterMonotoneUptoSaid : Prop := fnFilterMonotoneUptoRow.holds Try.pinned (OpenSpec.upto fnFilterMonotoneSpec)

end Rows
end Go.Proofs.Ytlmphpopcojjnaa
