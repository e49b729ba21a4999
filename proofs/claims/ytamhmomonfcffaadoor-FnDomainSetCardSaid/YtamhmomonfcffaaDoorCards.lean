/-
  DERIVED. GIVEN WITH THE SEED: THE CARDS: each row of YtamhmomonfcffaaDoorRows.lean that lists a variable, with what it lists TIED to the program's text (the seventh form; the later family's looks); each row that meets fmt, with fmt's text TOLD by the authors' own Lean function (tested against real Go, not proved from fmt's source: count such statements apart). THE CARD IS WHAT COUNTS. Prove the row's statement (the work); the ties are given (YtamhmomonfcffaaDoorTie.lean); close each card by the builder's one call (the guide's Derived/Test/ToyasCard.lean, 'card_holds'). Laid BY PROGRAM, IN A SANDBOX (cutbox-door.mjs). By AI agents, Wed Nov 11 2026. No macro, syntax, notation, axiom, sorry.
-/
import Derived.Test.YtamhmomonfcffaaDoorRows
import GoSem.ClaimSeven
namespace Go.Proofs.YtamhmomonfcffaaDoor
namespace Rows

/-- THE TIED CARD OF 'laws.FnExactDomainBounds'. -/
def fnExactDomainBoundsCard : Claim7 := { stood := { row := fnExactDomainBoundsRow, standIns := [], harness := (true, "e001f359480462b13b32b951f210770511a06b5d800ecc5a83240665fc1b6b9c"), looks := false }, kinds := [], alts := [], laidByText := true, laidKinds := [.data, .data], laidTests := true, laidLooks := .later }
def FnExactDomainBoundsCardSaid : Prop := Claim7.holds Tryd.pinned (.plain (OpenSpec.ofChange fnExactDomainBoundsSpec)) fnExactDomainBoundsCard

/-- THE TIED CARD OF 'laws.FnDomainSet'. -/
def fnDomainSetCard : Claim7 := { stood := { row := fnDomainSetRow, standIns := [], harness := (true, "e001f359480462b13b32b951f210770511a06b5d800ecc5a83240665fc1b6b9c"), looks := false }, kinds := [], alts := [], laidByText := true, laidKinds := [.data, .data], laidTests := true, laidLooks := .later }
def FnDomainSetCardSaid : Prop := Claim7.holds Tryd.pinned (.plain (OpenSpec.ofChange fnDomainSetSpec)) fnDomainSetCard

/-- THE SECOND FORM's CARD OF 'laws.FnExactDomainBounds'. -/
def fnExactDomainBoundsUptoCard : Claim7 := { stood := { row := fnExactDomainBoundsUptoRow, standIns := [], harness := (true, "e001f359480462b13b32b951f210770511a06b5d800ecc5a83240665fc1b6b9c"), looks := false }, kinds := [], alts := [], laidByText := true, laidKinds := [.data, .data], laidTests := true, laidLooks := .later }
def FnExactDomainBoundsUptoCardSaid : Prop := Claim7.holds Tryd.pinned (.plain (OpenSpec.upto fnExactDomainBoundsSpec)) fnExactDomainBoundsUptoCard

/-- THE SECOND FORM's CARD OF 'laws.FnDomainSet'. -/
def fnDomainSetUptoCard : Claim7 := { stood := { row := fnDomainSetUptoRow, standIns := [], harness := (true, "e001f359480462b13b32b951f210770511a06b5d800ecc5a83240665fc1b6b9c"), looks := false }, kinds := [], alts := [], laidByText := true, laidKinds := [.data, .data], laidTests := true, laidLooks := .later }
def FnDomainSetUptoCardSaid : Prop := Claim7.holds Tryd.pinned (.plain (OpenSpec.upto fnDomainSetSpec)) fnDomainSetUptoCard
end Rows
end Go.Proofs.YtamhmomonfcffaaDoor
