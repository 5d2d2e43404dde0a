/-
  DERIVED. GIVEN WITH THE SEED: THE CARDS: each row of YtbphkhlgcneapaaGreatDoorRows.lean that lists a variable, with what it lists TIED to the program's text (the seventh form; the later family's looks); each row that meets fmt, with fmt's text TOLD by the authors' own Lean function (tested against real Go, not proved from fmt's source: count such statements apart). THE CARD IS WHAT COUNTS. Prove the row's statement (the work); the ties are given (YtbphkhlgcneapaaGreatDoorTie.lean); close each card by the builder's one call (the guide's Derived/Test/ToyasCard.lean, 'card_holds'). Laid BY PROGRAM, IN A SANDBOX (cutbox-door.mjs). By AI agents, Wed Nov 11 2026. No macro, syntax, notation, axiom, sorry.
-/
import Derived.Test.YtbphkhlgcneapaaGreatDoorRows
import GoSem.ClaimSeven
namespace Go.Proofs.YtbphkhlgcneapaaGreatDoor
namespace Rows

/-- THE TIED CARD OF 'laws.FnExactStepSweeper'. -/
def fnExactStepSweeperCard : Claim7 := { stood := { row := fnExactStepSweeperRow, standIns := [], harness := (true, "2a49503392798cfc4945274ff7be8b2e09b7ff965a93971b5678adfea979fe3c"), looks := true }, kinds := [], alts := [], laidByText := true, laidKinds := [.data, .data, .data, .data, .sentinel, .sentinel, .pinned], laidTests := true, laidLooks := .later }
def FnExactStepSweeperCardSaid : Prop := Claim7.holds Tryz.pinned (.plain (OpenSpec.ofChange fnExactStepSweeperSpec)) fnExactStepSweeperCard

/-- THE TIED CARD OF 'laws.FnExactFleetOK'. -/
def fnExactFleetOKCard : Claim7 := { stood := { row := fnExactFleetOKRow, standIns := [], harness := (true, "2a49503392798cfc4945274ff7be8b2e09b7ff965a93971b5678adfea979fe3c"), looks := true }, kinds := [], alts := [], laidByText := true, laidKinds := [.data, .data, .data, .sentinel, .sentinel], laidTests := true, laidLooks := .later }
def FnExactFleetOKCardSaid : Prop := Claim7.holds Tryz.pinned (.plain (OpenSpec.ofChange fnExactFleetOKSpec)) fnExactFleetOKCard

/-- THE TIED CARD OF 'laws.FnExactNothingGone'. -/
def fnExactNothingGoneCard : Claim7 := { stood := { row := fnExactNothingGoneRow, standIns := [], harness := (true, "2a49503392798cfc4945274ff7be8b2e09b7ff965a93971b5678adfea979fe3c"), looks := true }, kinds := [], alts := [], laidByText := true, laidKinds := [.data, .data, .data, .sentinel, .sentinel], laidTests := true, laidLooks := .later }
def FnExactNothingGoneCardSaid : Prop := Claim7.holds Tryz.pinned (.plain (OpenSpec.ofChange fnExactNothingGoneSpec)) fnExactNothingGoneCard

/-- THE TIED CARD OF 'laws.FnExactClockOf'. -/
def fnExactClockOfCard : Claim7 := { stood := { row := fnExactClockOfRow, standIns := [], harness := (true, "2a49503392798cfc4945274ff7be8b2e09b7ff965a93971b5678adfea979fe3c"), looks := true }, kinds := [], alts := [], laidByText := true, laidKinds := [.data, .data, .data, .sentinel, .sentinel], laidTests := true, laidLooks := .later }
def FnExactClockOfCardSaid : Prop := Claim7.holds Tryz.pinned (.plain (OpenSpec.ofChange fnExactClockOfSpec)) fnExactClockOfCard

/-- THE TIED CARD OF 'laws.FnExactAnswersTrue'. -/
def fnExactAnswersTrueCard : Claim7 := { stood := { row := fnExactAnswersTrueRow, standIns := [], harness := (true, "2a49503392798cfc4945274ff7be8b2e09b7ff965a93971b5678adfea979fe3c"), looks := true }, kinds := [], alts := [], laidByText := true, laidKinds := [.data, .data, .data, .sentinel, .sentinel], laidTests := true, laidLooks := .later }
def FnExactAnswersTrueCardSaid : Prop := Claim7.holds Tryz.pinned (.plain (OpenSpec.ofChange fnExactAnswersTrueSpec)) fnExactAnswersTrueCard

/-- THE TIED CARD OF 'laws.FnExactEntryTrue'. -/
def fnExactEntryTrueCard : Claim7 := { stood := { row := fnExactEntryTrueRow, standIns := [], harness := (true, "2a49503392798cfc4945274ff7be8b2e09b7ff965a93971b5678adfea979fe3c"), looks := true }, kinds := [], alts := [], laidByText := true, laidKinds := [.data, .data, .data, .data, .sentinel, .sentinel, .pinned], laidTests := true, laidLooks := .later }
def FnExactEntryTrueCardSaid : Prop := Claim7.holds Tryz.pinned (.plain (OpenSpec.ofChange fnExactEntryTrueSpec)) fnExactEntryTrueCard

/-- THE TIED CARD OF 'laws.FnExactReadAct'. -/
def fnExactReadActCard : Claim7 := { stood := { row := fnExactReadActRow, standIns := [], harness := (true, "2a49503392798cfc4945274ff7be8b2e09b7ff965a93971b5678adfea979fe3c"), looks := true }, kinds := [], alts := [], laidByText := true, laidKinds := [.data, .data, .data, .data, .sentinel, .sentinel, .pinned], laidTests := true, laidLooks := .later }
def FnExactReadActCardSaid : Prop := Claim7.holds Tryz.pinned (.plain (OpenSpec.ofChange fnExactReadActSpec)) fnExactReadActCard

/-- THE TIED CARD OF 'laws.FnExactSameFleet'. -/
def fnExactSameFleetCard : Claim7 := { stood := { row := fnExactSameFleetRow, standIns := [], harness := (true, "2a49503392798cfc4945274ff7be8b2e09b7ff965a93971b5678adfea979fe3c"), looks := true }, kinds := [], alts := [], laidByText := true, laidKinds := [.data, .data, .data, .sentinel, .sentinel], laidTests := true, laidLooks := .later }
def FnExactSameFleetCardSaid : Prop := Claim7.holds Tryz.pinned (.plain (OpenSpec.ofChange fnExactSameFleetSpec)) fnExactSameFleetCard

/-- THE SECOND FORM's CARD OF 'laws.FnExactStepSweeper'. -/
def fnExactStepSweeperUptoCard : Claim7 := { stood := { row := fnExactStepSweeperUptoRow, standIns := [], harness := (true, "2a49503392798cfc4945274ff7be8b2e09b7ff965a93971b5678adfea979fe3c"), looks := true }, kinds := [], alts := [], laidByText := true, laidKinds := [.data, .data, .data, .data, .sentinel, .sentinel, .pinned], laidTests := true, laidLooks := .later }
def FnExactStepSweeperUptoCardSaid : Prop := Claim7.holds Tryz.pinned (.plain (OpenSpec.upto fnExactStepSweeperSpec)) fnExactStepSweeperUptoCard

/-- THE SECOND FORM's CARD OF 'laws.FnExactFleetOK'. -/
def fnExactFleetOKUptoCard : Claim7 := { stood := { row := fnExactFleetOKUptoRow, standIns := [], harness := (true, "2a49503392798cfc4945274ff7be8b2e09b7ff965a93971b5678adfea979fe3c"), looks := true }, kinds := [], alts := [], laidByText := true, laidKinds := [.data, .data, .data, .sentinel, .sentinel], laidTests := true, laidLooks := .later }
def FnExactFleetOKUptoCardSaid : Prop := Claim7.holds Tryz.pinned (.plain (OpenSpec.upto fnExactFleetOKSpec)) fnExactFleetOKUptoCard

/-- THE SECOND FORM's CARD OF 'laws.FnExactNothingGone'. -/
def fnExactNothingGoneUptoCard : Claim7 := { stood := { row := fnExactNothingGoneUptoRow, standIns := [], harness := (true, "2a49503392798cfc4945274ff7be8b2e09b7ff965a93971b5678adfea979fe3c"), looks := true }, kinds := [], alts := [], laidByText := true, laidKinds := [.data, .data, .data, .sentinel, .sentinel], laidTests := true, laidLooks := .later }
def FnExactNothingGoneUptoCardSaid : Prop := Claim7.holds Tryz.pinned (.plain (OpenSpec.upto fnExactNothingGoneSpec)) fnExactNothingGoneUptoCard

/-- THE SECOND FORM's CARD OF 'laws.FnExactClockOf'. -/
def fnExactClockOfUptoCard : Claim7 := { stood := { row := fnExactClockOfUptoRow, standIns := [], harness := (true, "2a49503392798cfc4945274ff7be8b2e09b7ff965a93971b5678adfea979fe3c"), looks := true }, kinds := [], alts := [], laidByText := true, laidKinds := [.data, .data, .data, .sentinel, .sentinel], laidTests := true, laidLooks := .later }
def FnExactClockOfUptoCardSaid : Prop := Claim7.holds Tryz.pinned (.plain (OpenSpec.upto fnExactClockOfSpec)) fnExactClockOfUptoCard

/-- THE SECOND FORM's CARD OF 'laws.FnExactAnswersTrue'. -/
def fnExactAnswersTrueUptoCard : Claim7 := { stood := { row := fnExactAnswersTrueUptoRow, standIns := [], harness := (true, "2a49503392798cfc4945274ff7be8b2e09b7ff965a93971b5678adfea979fe3c"), looks := true }, kinds := [], alts := [], laidByText := true, laidKinds := [.data, .data, .data, .sentinel, .sentinel], laidTests := true, laidLooks := .later }
def FnExactAnswersTrueUptoCardSaid : Prop := Claim7.holds Tryz.pinned (.plain (OpenSpec.upto fnExactAnswersTrueSpec)) fnExactAnswersTrueUptoCard

/-- THE SECOND FORM's CARD OF 'laws.FnExactEntryTrue'. -/
def fnExactEntryTrueUptoCard : Claim7 := { stood := { row := fnExactEntryTrueUptoRow, standIns := [], harness := (true, "2a49503392798cfc4945274ff7be8b2e09b7ff965a93971b5678adfea979fe3c"), looks := true }, kinds := [], alts := [], laidByText := true, laidKinds := [.data, .data, .data, .data, .sentinel, .sentinel, .pinned], laidTests := true, laidLooks := .later }
def FnExactEntryTrueUptoCardSaid : Prop := Claim7.holds Tryz.pinned (.plain (OpenSpec.upto fnExactEntryTrueSpec)) fnExactEntryTrueUptoCard

/-- THE SECOND FORM's CARD OF 'laws.FnExactReadAct'. -/
def fnExactReadActUptoCard : Claim7 := { stood := { row := fnExactReadActUptoRow, standIns := [], harness := (true, "2a49503392798cfc4945274ff7be8b2e09b7ff965a93971b5678adfea979fe3c"), looks := true }, kinds := [], alts := [], laidByText := true, laidKinds := [.data, .data, .data, .data, .sentinel, .sentinel, .pinned], laidTests := true, laidLooks := .later }
def FnExactReadActUptoCardSaid : Prop := Claim7.holds Tryz.pinned (.plain (OpenSpec.upto fnExactReadActSpec)) fnExactReadActUptoCard

/-- THE SECOND FORM's CARD OF 'laws.FnExactSameFleet'. -/
def fnExactSameFleetUptoCard : Claim7 := { stood := { row := fnExactSameFleetUptoRow, standIns := [], harness := (true, "2a49503392798cfc4945274ff7be8b2e09b7ff965a93971b5678adfea979fe3c"), looks := true }, kinds := [], alts := [], laidByText := true, laidKinds := [.data, .data, .data, .sentinel, .sentinel], laidTests := true, laidLooks := .later }
def FnExactSameFleetUptoCardSaid : Prop := Claim7.holds Tryz.pinned (.plain (OpenSpec.upto fnExactSameFleetSpec)) fnExactSameFleetUptoCard
end Rows
end Go.Proofs.YtbphkhlgcneapaaGreatDoor
