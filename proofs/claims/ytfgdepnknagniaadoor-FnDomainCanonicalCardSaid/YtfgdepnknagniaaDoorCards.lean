/-
  DERIVED. GIVEN WITH THE SEED: THE CARDS: each row of YtfgdepnknagniaaDoorRows.lean that lists a variable, with what it lists TIED to the program's text (the seventh form; the later family's looks); each row that meets fmt, with fmt's text TOLD by the authors' own Lean function (tested against real Go, not proved from fmt's source: count such statements apart). THE CARD IS WHAT COUNTS. Prove the row's statement (the work); the ties are given (YtfgdepnknagniaaDoorTie.lean); close each card by the builder's one call (the guide's Derived/Test/ToyasCard.lean, 'card_holds'). Laid BY PROGRAM, IN A SANDBOX (cutbox-door.mjs). By AI agents, Wed Nov 11 2026. No macro, syntax, notation, axiom, sorry.
-/
import Derived.Test.YtfgdepnknagniaaDoorRows
import GoSem.ClaimSeven
namespace Go.Proofs.YtfgdepnknagniaaDoor
namespace Rows

/-- THE TIED CARD OF 'laws.FnExactEncodeDomain'. -/
def fnExactEncodeDomainCard : Claim7 := { stood := { row := fnExactEncodeDomainRow, standIns := [], harness := (true, "8018518ae0810bee9f89879f26de8327517deb1bc7fd1cfb2d2292d3ddd285ca"), looks := false }, kinds := [], alts := [], laidByText := true, laidKinds := [.data, .data, .data], laidTests := true, laidLooks := .later }
def FnExactEncodeDomainCardSaid : Prop := Claim7.holds Tryd.pinned (.plain (OpenSpec.ofChange fnExactEncodeDomainSpec)) fnExactEncodeDomainCard

/-- THE TIED CARD OF 'laws.FnExactDecodeDomain'. -/
def fnExactDecodeDomainCard : Claim7 := { stood := { row := fnExactDecodeDomainRow, standIns := [], harness := (true, "8018518ae0810bee9f89879f26de8327517deb1bc7fd1cfb2d2292d3ddd285ca"), looks := false }, kinds := [], alts := [], laidByText := true, laidKinds := [.data, .data, .data], laidTests := true, laidLooks := .later }
def FnExactDecodeDomainCardSaid : Prop := Claim7.holds Tryd.pinned (.plain (OpenSpec.ofChange fnExactDecodeDomainSpec)) fnExactDecodeDomainCard

/-- THE TIED CARD OF 'laws.FnDomainRoundTrip'. -/
def fnDomainRoundTripCard : Claim7 := { stood := { row := fnDomainRoundTripRow, standIns := [], harness := (true, "8018518ae0810bee9f89879f26de8327517deb1bc7fd1cfb2d2292d3ddd285ca"), looks := false }, kinds := [], alts := [], laidByText := true, laidKinds := [.data, .data, .data], laidTests := true, laidLooks := .later }
def FnDomainRoundTripCardSaid : Prop := Claim7.holds Tryd.pinned (.plain (OpenSpec.ofChange fnDomainRoundTripSpec)) fnDomainRoundTripCard

/-- THE TIED CARD OF 'laws.FnDomainCanonical'. -/
def fnDomainCanonicalCard : Claim7 := { stood := { row := fnDomainCanonicalRow, standIns := [], harness := (true, "8018518ae0810bee9f89879f26de8327517deb1bc7fd1cfb2d2292d3ddd285ca"), looks := false }, kinds := [], alts := [], laidByText := true, laidKinds := [.data, .data, .data], laidTests := true, laidLooks := .later }
def FnDomainCanonicalCardSaid : Prop := Claim7.holds Tryd.pinned (.plain (OpenSpec.ofChange fnDomainCanonicalSpec)) fnDomainCanonicalCard

/-- THE SECOND FORM's CARD OF 'laws.FnExactEncodeDomain'. -/
def fnExactEncodeDomainUptoCard : Claim7 := { stood := { row := fnExactEncodeDomainUptoRow, standIns := [], harness := (true, "8018518ae0810bee9f89879f26de8327517deb1bc7fd1cfb2d2292d3ddd285ca"), looks := false }, kinds := [], alts := [], laidByText := true, laidKinds := [.data, .data, .data], laidTests := true, laidLooks := .later }
def FnExactEncodeDomainUptoCardSaid : Prop := Claim7.holds Tryd.pinned (.plain (OpenSpec.upto fnExactEncodeDomainSpec)) fnExactEncodeDomainUptoCard

/-- THE SECOND FORM's CARD OF 'laws.FnExactDecodeDomain'. -/
def fnExactDecodeDomainUptoCard : Claim7 := { stood := { row := fnExactDecodeDomainUptoRow, standIns := [], harness := (true, "8018518ae0810bee9f89879f26de8327517deb1bc7fd1cfb2d2292d3ddd285ca"), looks := false }, kinds := [], alts := [], laidByText := true, laidKinds := [.data, .data, .data], laidTests := true, laidLooks := .later }
def FnExactDecodeDomainUptoCardSaid : Prop := Claim7.holds Tryd.pinned (.plain (OpenSpec.upto fnExactDecodeDomainSpec)) fnExactDecodeDomainUptoCard

/-- THE SECOND FORM's CARD OF 'laws.FnDomainRoundTrip'. -/
def fnDomainRoundTripUptoCard : Claim7 := { stood := { row := fnDomainRoundTripUptoRow, standIns := [], harness := (true, "8018518ae0810bee9f89879f26de8327517deb1bc7fd1cfb2d2292d3ddd285ca"), looks := false }, kinds := [], alts := [], laidByText := true, laidKinds := [.data, .data, .data], laidTests := true, laidLooks := .later }
def FnDomainRoundTripUptoCardSaid : Prop := Claim7.holds Tryd.pinned (.plain (OpenSpec.upto fnDomainRoundTripSpec)) fnDomainRoundTripUptoCard

/-- THE SECOND FORM's CARD OF 'laws.FnDomainCanonical'. -/
def fnDomainCanonicalUptoCard : Claim7 := { stood := { row := fnDomainCanonicalUptoRow, standIns := [], harness := (true, "8018518ae0810bee9f89879f26de8327517deb1bc7fd1cfb2d2292d3ddd285ca"), looks := false }, kinds := [], alts := [], laidByText := true, laidKinds := [.data, .data, .data], laidTests := true, laidLooks := .later }
def FnDomainCanonicalUptoCardSaid : Prop := Claim7.holds Tryd.pinned (.plain (OpenSpec.upto fnDomainCanonicalSpec)) fnDomainCanonicalUptoCard
end Rows
end Go.Proofs.YtfgdepnknagniaaDoor
