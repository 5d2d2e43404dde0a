/-
  DERIVED. GIVEN WITH THE SEED: THE CARDS: each row of YtfaffgneccjpbaaGreatDoorRows.lean that lists a variable, with what it lists TIED to the program's text (the seventh form; the later family's looks); each row that meets fmt, with fmt's text TOLD by the authors' own Lean function (tested against real Go, not proved from fmt's source: count such statements apart). THE CARD IS WHAT COUNTS. Prove the row's statement (the work); the ties are given (YtfaffgneccjpbaaGreatDoorTie.lean); close each card by the builder's one call (the guide's Derived/Test/ToyasCard.lean, 'card_holds'). Laid BY PROGRAM, IN A SANDBOX (cutbox-door.mjs). By AI agents, Wed Nov 11 2026. No macro, syntax, notation, axiom, sorry.
-/
import Derived.Test.YtfaffgneccjpbaaGreatDoorRows
import GoSem.ClaimSeven
namespace Go.Proofs.YtfaffgneccjpbaaGreatDoor
namespace Rows

/-- THE TIED CARD OF 'laws.FnPin'. -/
def fnPinCard : Claim7 := { stood := { row := fnPinRow, standIns := [], harness := (true, "f4692e76b6b58235b30c91166afee1c1f0998ecd50d19474472fa3f158b77e73"), looks := true }, kinds := [], alts := [], laidByText := true, laidKinds := [.data, .data, .data, .data, .sentinel, .sentinel, .pinned], laidTests := true, laidLooks := .later }
def FnPinCardSaid : Prop := Claim7.holds Tryz.pinned (.plain (OpenSpec.ofChange fnPinSpec)) fnPinCard

/-- THE TIED CARD OF 'laws.FnQuery'. -/
def fnQueryCard : Claim7 := { stood := { row := fnQueryRow, standIns := [], harness := (true, "f4692e76b6b58235b30c91166afee1c1f0998ecd50d19474472fa3f158b77e73"), looks := true }, kinds := [], alts := [], laidByText := true, laidKinds := [.data, .data, .data, .data, .sentinel, .sentinel, .pinned], laidTests := true, laidLooks := .later }
def FnQueryCardSaid : Prop := Claim7.holds Tryz.pinned (.plain (OpenSpec.ofChange fnQuerySpec)) fnQueryCard

/-- THE TIED CARD OF 'laws.FnIngest'. -/
def fnIngestCard : Claim7 := { stood := { row := fnIngestRow, standIns := [], harness := (true, "f4692e76b6b58235b30c91166afee1c1f0998ecd50d19474472fa3f158b77e73"), looks := true }, kinds := [], alts := [], laidByText := true, laidKinds := [.data, .data, .data, .data, .sentinel, .sentinel, .pinned], laidTests := true, laidLooks := .later }
def FnIngestCardSaid : Prop := Claim7.holds Tryz.pinned (.plain (OpenSpec.ofChange fnIngestSpec)) fnIngestCard

/-- THE SECOND FORM's CARD OF 'laws.FnPin'. -/
def fnPinUptoCard : Claim7 := { stood := { row := fnPinUptoRow, standIns := [], harness := (true, "f4692e76b6b58235b30c91166afee1c1f0998ecd50d19474472fa3f158b77e73"), looks := true }, kinds := [], alts := [], laidByText := true, laidKinds := [.data, .data, .data, .data, .sentinel, .sentinel, .pinned], laidTests := true, laidLooks := .later }
def FnPinUptoCardSaid : Prop := Claim7.holds Tryz.pinned (.plain (OpenSpec.upto fnPinSpec)) fnPinUptoCard

/-- THE SECOND FORM's CARD OF 'laws.FnQuery'. -/
def fnQueryUptoCard : Claim7 := { stood := { row := fnQueryUptoRow, standIns := [], harness := (true, "f4692e76b6b58235b30c91166afee1c1f0998ecd50d19474472fa3f158b77e73"), looks := true }, kinds := [], alts := [], laidByText := true, laidKinds := [.data, .data, .data, .data, .sentinel, .sentinel, .pinned], laidTests := true, laidLooks := .later }
def FnQueryUptoCardSaid : Prop := Claim7.holds Tryz.pinned (.plain (OpenSpec.upto fnQuerySpec)) fnQueryUptoCard

/-- THE SECOND FORM's CARD OF 'laws.FnIngest'. -/
def fnIngestUptoCard : Claim7 := { stood := { row := fnIngestUptoRow, standIns := [], harness := (true, "f4692e76b6b58235b30c91166afee1c1f0998ecd50d19474472fa3f158b77e73"), looks := true }, kinds := [], alts := [], laidByText := true, laidKinds := [.data, .data, .data, .data, .sentinel, .sentinel, .pinned], laidTests := true, laidLooks := .later }
def FnIngestUptoCardSaid : Prop := Claim7.holds Tryz.pinned (.plain (OpenSpec.upto fnIngestSpec)) fnIngestUptoCard
end Rows
end Go.Proofs.YtfaffgneccjpbaaGreatDoor
