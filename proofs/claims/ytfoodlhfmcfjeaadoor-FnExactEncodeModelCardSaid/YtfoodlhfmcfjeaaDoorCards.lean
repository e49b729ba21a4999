/-
  DERIVED. GIVEN WITH THE SEED: THE CARDS: each row of YtfoodlhfmcfjeaaDoorRows.lean that lists a variable, with what it lists TIED to the program's text (the seventh form; the later family's looks); each row that meets fmt, with fmt's text TOLD by the authors' own Lean function (tested against real Go, not proved from fmt's source: count such statements apart). THE CARD IS WHAT COUNTS. Prove the row's statement (the work); the ties are given (YtfoodlhfmcfjeaaDoorTie.lean); close each card by the builder's one call (the guide's Derived/Test/ToyasCard.lean, 'card_holds'). Laid BY PROGRAM, IN A SANDBOX (cutbox-door.mjs). By AI agents, Wed Nov 11 2026. No macro, syntax, notation, axiom, sorry.
-/
import Derived.Test.YtfoodlhfmcfjeaaDoorRows
import GoSem.ClaimSeven
namespace Go.Proofs.YtfoodlhfmcfjeaaDoor
namespace Rows

/-- THE TIED CARD OF 'laws.FnExactEncodeModel'. -/
def fnExactEncodeModelCard : Claim7 := { stood := { row := fnExactEncodeModelRow, standIns := [], harness := (true, "6cbe3ab06301494c166dfaf9f45fd1079e2b7473ac28b9d079adb283f5bf90ad"), looks := false }, kinds := [], alts := [], laidByText := true, laidKinds := [.data, .data, .data], laidTests := true, laidLooks := .later }
def FnExactEncodeModelCardSaid : Prop := Claim7.holds Tryd.pinned (.plain (OpenSpec.ofChange fnExactEncodeModelSpec)) fnExactEncodeModelCard

/-- THE SECOND FORM's CARD OF 'laws.FnExactEncodeModel'. -/
def fnExactEncodeModelUptoCard : Claim7 := { stood := { row := fnExactEncodeModelUptoRow, standIns := [], harness := (true, "6cbe3ab06301494c166dfaf9f45fd1079e2b7473ac28b9d079adb283f5bf90ad"), looks := false }, kinds := [], alts := [], laidByText := true, laidKinds := [.data, .data, .data], laidTests := true, laidLooks := .later }
def FnExactEncodeModelUptoCardSaid : Prop := Claim7.holds Tryd.pinned (.plain (OpenSpec.upto fnExactEncodeModelSpec)) fnExactEncodeModelUptoCard
end Rows
end Go.Proofs.YtfoodlhfmcfjeaaDoor
