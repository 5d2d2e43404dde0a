/-
  DERIVED. GIVEN WITH THE SEED: THE CARDS: each row of YtijokkaeofagoaaGreatDoorRows.lean that lists a variable, with what it lists TIED to the program's text (the seventh form; the later family's looks); each row that meets fmt, with fmt's text TOLD by the authors' own Lean function (tested against real Go, not proved from fmt's source: count such statements apart). THE CARD IS WHAT COUNTS. Prove the row's statement (the work); the ties are given (YtijokkaeofagoaaGreatDoorTie.lean); close each card by the builder's one call (the guide's Derived/Test/ToyasCard.lean, 'card_holds'). Laid BY PROGRAM, IN A SANDBOX (cutbox-door.mjs). By AI agents, Wed Nov 11 2026. No macro, syntax, notation, axiom, sorry.
-/
import Derived.Test.YtijokkaeofagoaaGreatDoorRows
import GoSem.ClaimSeven
namespace Go.Proofs.YtijokkaeofagoaaGreatDoor
namespace Rows

/-- THE TIED CARD OF 'laws.FnExactExact'. -/
def fnExactExactCard : Claim7 := { stood := { row := fnExactExactRow, standIns := [], harness := (true, "34542023d0a927b06d276386dd5d5f271219d3235326dd3dd80299e4c51297d9"), looks := true }, kinds := [], alts := [], laidByText := true, laidKinds := [.data, .data, .data, .data, .sentinel, .sentinel, .pinned], laidTests := true, laidLooks := .later }
def FnExactExactCardSaid : Prop := Claim7.holds Tryz.pinned (.plain (OpenSpec.ofChange fnExactExactSpec)) fnExactExactCard

/-- THE TIED CARD OF 'laws.FnExactAtRest'. -/
def fnExactAtRestCard : Claim7 := { stood := { row := fnExactAtRestRow, standIns := [], harness := (true, "34542023d0a927b06d276386dd5d5f271219d3235326dd3dd80299e4c51297d9"), looks := true }, kinds := [], alts := [], laidByText := true, laidKinds := [.data, .data, .data, .data, .sentinel, .sentinel, .pinned], laidTests := true, laidLooks := .later }
def FnExactAtRestCardSaid : Prop := Claim7.holds Tryz.pinned (.plain (OpenSpec.ofChange fnExactAtRestSpec)) fnExactAtRestCard

/-- THE SECOND FORM's CARD OF 'laws.FnExactExact'. -/
def fnExactExactUptoCard : Claim7 := { stood := { row := fnExactExactUptoRow, standIns := [], harness := (true, "34542023d0a927b06d276386dd5d5f271219d3235326dd3dd80299e4c51297d9"), looks := true }, kinds := [], alts := [], laidByText := true, laidKinds := [.data, .data, .data, .data, .sentinel, .sentinel, .pinned], laidTests := true, laidLooks := .later }
def FnExactExactUptoCardSaid : Prop := Claim7.holds Tryz.pinned (.plain (OpenSpec.upto fnExactExactSpec)) fnExactExactUptoCard

/-- THE SECOND FORM's CARD OF 'laws.FnExactAtRest'. -/
def fnExactAtRestUptoCard : Claim7 := { stood := { row := fnExactAtRestUptoRow, standIns := [], harness := (true, "34542023d0a927b06d276386dd5d5f271219d3235326dd3dd80299e4c51297d9"), looks := true }, kinds := [], alts := [], laidByText := true, laidKinds := [.data, .data, .data, .data, .sentinel, .sentinel, .pinned], laidTests := true, laidLooks := .later }
def FnExactAtRestUptoCardSaid : Prop := Claim7.holds Tryz.pinned (.plain (OpenSpec.upto fnExactAtRestSpec)) fnExactAtRestUptoCard
end Rows
end Go.Proofs.YtijokkaeofagoaaGreatDoor
