/-
  DERIVED. GIVEN WITH THE SEED: THE CARDS: each row of YtigbaclopbcjnaaGreatDoorRows.lean that lists a variable, with what it lists TIED to the program's text (the seventh form; the later family's looks); each row that meets fmt, with fmt's text TOLD by the authors' own Lean function (tested against real Go, not proved from fmt's source: count such statements apart). THE CARD IS WHAT COUNTS. Prove the row's statement (the work); the ties are given (YtigbaclopbcjnaaGreatDoorTie.lean); close each card by the builder's one call (the guide's Derived/Test/ToyasCard.lean, 'card_holds'). Laid BY PROGRAM, IN A SANDBOX (cutbox-door.mjs). By AI agents, Wed Nov 11 2026. No macro, syntax, notation, axiom, sorry.
-/
import Derived.Test.YtigbaclopbcjnaaGreatDoorRows
import GoSem.ClaimSeven
namespace Go.Proofs.YtigbaclopbcjnaaGreatDoor
namespace Rows

/-- THE TIED CARD OF 'laws.FnWorker'. -/
def fnWorkerCard : Claim7 := { stood := { row := fnWorkerRow, standIns := [], harness := (true, "163b22ae09ff28dbcd99597fa8ba5f76909ec67f5b9cf011a8f1ffd7bbe05b17"), looks := true }, kinds := [], alts := [], laidByText := true, laidKinds := [.data, .data, .data, .data, .sentinel, .sentinel, .pinned], laidTests := true, laidLooks := .later }
def FnWorkerCardSaid : Prop := Claim7.holds Tryz.pinned (.plain (OpenSpec.ofChange fnWorkerSpec)) fnWorkerCard

/-- THE SECOND FORM's CARD OF 'laws.FnWorker'. -/
def fnWorkerUptoCard : Claim7 := { stood := { row := fnWorkerUptoRow, standIns := [], harness := (true, "163b22ae09ff28dbcd99597fa8ba5f76909ec67f5b9cf011a8f1ffd7bbe05b17"), looks := true }, kinds := [], alts := [], laidByText := true, laidKinds := [.data, .data, .data, .data, .sentinel, .sentinel, .pinned], laidTests := true, laidLooks := .later }
def FnWorkerUptoCardSaid : Prop := Claim7.holds Tryz.pinned (.plain (OpenSpec.upto fnWorkerSpec)) fnWorkerUptoCard
end Rows
end Go.Proofs.YtigbaclopbcjnaaGreatDoor
