/-
  DERIVED. GIVEN WITH THE SEED: THE CARDS: each row of YtopfpmcakoeloaaGreatDoorRows.lean that lists a variable, with what it lists TIED to the program's text (the seventh form; the later family's looks); each row that meets fmt, with fmt's text TOLD by the authors' own Lean function (tested against real Go, not proved from fmt's source: count such statements apart). THE CARD IS WHAT COUNTS. Prove the row's statement (the work); the ties are given (YtopfpmcakoeloaaGreatDoorTie.lean); close each card by the builder's one call (the guide's Derived/Test/ToyasCard.lean, 'card_holds'). Laid BY PROGRAM, IN A SANDBOX (cutbox-door.mjs). By AI agents, Wed Nov 11 2026. No macro, syntax, notation, axiom, sorry.
-/
import Derived.Test.YtopfpmcakoeloaaGreatDoorRows
import GoSem.ClaimSeven
namespace Go.Proofs.YtopfpmcakoeloaaGreatDoor
namespace Rows

/-- THE TIED CARD OF 'laws.FnExactStepIngester'. -/
def fnExactStepIngesterCard : Claim7 := { stood := { row := fnExactStepIngesterRow, standIns := [], harness := (true, "1cda47c9998f8b1911e7c5bcdfc57d0d0915675cafdc9daa49405c3bdc7a9573"), looks := true }, kinds := [], alts := [], laidByText := true, laidKinds := [.data, .data, .data, .data, .sentinel, .sentinel, .pinned], laidTests := true, laidLooks := .later }
def FnExactStepIngesterCardSaid : Prop := Claim7.holds Tryz.pinned (.plain (OpenSpec.ofChange fnExactStepIngesterSpec)) fnExactStepIngesterCard

/-- THE TIED CARD OF 'laws.FnIngester'. -/
def fnIngesterCard : Claim7 := { stood := { row := fnIngesterRow, standIns := [], harness := (true, "1cda47c9998f8b1911e7c5bcdfc57d0d0915675cafdc9daa49405c3bdc7a9573"), looks := true }, kinds := [], alts := [], laidByText := true, laidKinds := [.data, .data, .data, .data, .sentinel, .sentinel, .pinned], laidTests := true, laidLooks := .later }
def FnIngesterCardSaid : Prop := Claim7.holds Tryz.pinned (.plain (OpenSpec.ofChange fnIngesterSpec)) fnIngesterCard

/-- THE SECOND FORM's CARD OF 'laws.FnExactStepIngester'. -/
def fnExactStepIngesterUptoCard : Claim7 := { stood := { row := fnExactStepIngesterUptoRow, standIns := [], harness := (true, "1cda47c9998f8b1911e7c5bcdfc57d0d0915675cafdc9daa49405c3bdc7a9573"), looks := true }, kinds := [], alts := [], laidByText := true, laidKinds := [.data, .data, .data, .data, .sentinel, .sentinel, .pinned], laidTests := true, laidLooks := .later }
def FnExactStepIngesterUptoCardSaid : Prop := Claim7.holds Tryz.pinned (.plain (OpenSpec.upto fnExactStepIngesterSpec)) fnExactStepIngesterUptoCard

/-- THE SECOND FORM's CARD OF 'laws.FnIngester'. -/
def fnIngesterUptoCard : Claim7 := { stood := { row := fnIngesterUptoRow, standIns := [], harness := (true, "1cda47c9998f8b1911e7c5bcdfc57d0d0915675cafdc9daa49405c3bdc7a9573"), looks := true }, kinds := [], alts := [], laidByText := true, laidKinds := [.data, .data, .data, .data, .sentinel, .sentinel, .pinned], laidTests := true, laidLooks := .later }
def FnIngesterUptoCardSaid : Prop := Claim7.holds Tryz.pinned (.plain (OpenSpec.upto fnIngesterSpec)) fnIngesterUptoCard
end Rows
end Go.Proofs.YtopfpmcakoeloaaGreatDoor
