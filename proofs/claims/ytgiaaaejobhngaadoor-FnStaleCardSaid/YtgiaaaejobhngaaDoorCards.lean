/-
  DERIVED. GIVEN WITH THE SEED: THE CARDS: each row of YtgiaaaejobhngaaDoorRows.lean that lists a variable, with what it lists TIED to the program's text (the seventh form; the later family's looks); each row that meets fmt, with fmt's text TOLD by the authors' own Lean function (tested against real Go, not proved from fmt's source: count such statements apart). THE CARD IS WHAT COUNTS. Prove the row's statement (the work); the ties are given (YtgiaaaejobhngaaDoorTie.lean); close each card by the builder's one call (the guide's Derived/Test/ToyasCard.lean, 'card_holds'). Laid BY PROGRAM, IN A SANDBOX (cutbox-door.mjs). By AI agents, Wed Nov 11 2026. No macro, syntax, notation, axiom, sorry.
-/
import Derived.Test.YtgiaaaejobhngaaDoorRows
import GoSem.ClaimSeven
namespace Go.Proofs.YtgiaaaejobhngaaDoor
namespace Rows

/-- THE TIED CARD OF 'laws.FnStale'. -/
def fnStaleCard : Claim7 := { stood := { row := fnStaleRow, standIns := [], harness := (true, "15a18868a731310933fe4d14a40a0514f01cba0695dd1be3f37c6e14d4118a0c"), looks := true }, kinds := [], alts := [], laidByText := true, laidKinds := [.data, .data, .data, .sentinel, .sentinel], laidTests := true, laidLooks := .later }
def FnStaleCardSaid : Prop := Claim7.holds Tryd.pinned (.plain (OpenSpec.ofChange fnStaleSpec)) fnStaleCard

/-- THE SECOND FORM's CARD OF 'laws.FnStale'. -/
def fnStaleUptoCard : Claim7 := { stood := { row := fnStaleUptoRow, standIns := [], harness := (true, "15a18868a731310933fe4d14a40a0514f01cba0695dd1be3f37c6e14d4118a0c"), looks := true }, kinds := [], alts := [], laidByText := true, laidKinds := [.data, .data, .data, .sentinel, .sentinel], laidTests := true, laidLooks := .later }
def FnStaleUptoCardSaid : Prop := Claim7.holds Tryd.pinned (.plain (OpenSpec.upto fnStaleSpec)) fnStaleUptoCard
end Rows
end Go.Proofs.YtgiaaaejobhngaaDoor
