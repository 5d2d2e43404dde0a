/-
  DERIVED. GIVEN WITH THE SEED: THE CARDS: each row of YtpfmfdioonjccaaGreatDoorRows.lean that lists a variable, with what it lists TIED to the program's text (the seventh form; the later family's looks); each row that meets fmt, with fmt's text TOLD by the authors' own Lean function (tested against real Go, not proved from fmt's source: count such statements apart). THE CARD IS WHAT COUNTS. Prove the row's statement (the work); the ties are given (YtpfmfdioonjccaaGreatDoorTie.lean); close each card by the builder's one call (the guide's Derived/Test/ToyasCard.lean, 'card_holds'). Laid BY PROGRAM, IN A SANDBOX (cutbox-door.mjs). By AI agents, Wed Nov 11 2026. No macro, syntax, notation, axiom, sorry.
-/
import Derived.Test.YtpfmfdioonjccaaGreatDoorRows
import GoSem.ClaimSeven
namespace Go.Proofs.YtpfmfdioonjccaaGreatDoor
namespace Rows

/-- THE TIED CARD OF 'laws.FnExactAcquire'. -/
def fnExactAcquireCard : Claim7 := { stood := { row := fnExactAcquireRow, standIns := [], harness := (true, "4e4f09fec4cec5fe7f0e52d96fd1e50c417a4f51dc0f77668f5736c5aaccf78f"), looks := true }, kinds := [], alts := [], laidByText := true, laidKinds := [.data, .data, .data, .data, .sentinel, .sentinel, .pinned], laidTests := true, laidLooks := .later }
def FnExactAcquireCardSaid : Prop := Claim7.holds Tryz.pinned (.plain (OpenSpec.ofChange fnExactAcquireSpec)) fnExactAcquireCard

/-- THE TIED CARD OF 'laws.FnExactEntryTrue'. -/
def fnExactEntryTrueCard : Claim7 := { stood := { row := fnExactEntryTrueRow, standIns := [], harness := (true, "4e4f09fec4cec5fe7f0e52d96fd1e50c417a4f51dc0f77668f5736c5aaccf78f"), looks := true }, kinds := [], alts := [], laidByText := true, laidKinds := [.data, .data, .data, .data, .sentinel, .sentinel, .pinned], laidTests := true, laidLooks := .later }
def FnExactEntryTrueCardSaid : Prop := Claim7.holds Tryz.pinned (.plain (OpenSpec.ofChange fnExactEntryTrueSpec)) fnExactEntryTrueCard

/-- THE TIED CARD OF 'laws.FnExactFleetOK'. -/
def fnExactFleetOKCard : Claim7 := { stood := { row := fnExactFleetOKRow, standIns := [], harness := (true, "4e4f09fec4cec5fe7f0e52d96fd1e50c417a4f51dc0f77668f5736c5aaccf78f"), looks := true }, kinds := [], alts := [], laidByText := true, laidKinds := [.data, .data, .data, .sentinel, .sentinel], laidTests := true, laidLooks := .later }
def FnExactFleetOKCardSaid : Prop := Claim7.holds Tryz.pinned (.plain (OpenSpec.ofChange fnExactFleetOKSpec)) fnExactFleetOKCard

/-- THE TIED CARD OF 'laws.FnExactNothingGone'. -/
def fnExactNothingGoneCard : Claim7 := { stood := { row := fnExactNothingGoneRow, standIns := [], harness := (true, "4e4f09fec4cec5fe7f0e52d96fd1e50c417a4f51dc0f77668f5736c5aaccf78f"), looks := true }, kinds := [], alts := [], laidByText := true, laidKinds := [.data, .data, .data, .sentinel, .sentinel], laidTests := true, laidLooks := .later }
def FnExactNothingGoneCardSaid : Prop := Claim7.holds Tryz.pinned (.plain (OpenSpec.ofChange fnExactNothingGoneSpec)) fnExactNothingGoneCard

/-- THE TIED CARD OF 'laws.FnExactSweepOrphans'. -/
def fnExactSweepOrphansCard : Claim7 := { stood := { row := fnExactSweepOrphansRow, standIns := [], harness := (true, "4e4f09fec4cec5fe7f0e52d96fd1e50c417a4f51dc0f77668f5736c5aaccf78f"), looks := true }, kinds := [], alts := [], laidByText := true, laidKinds := [.data, .data, .data, .data, .sentinel, .sentinel, .pinned], laidTests := true, laidLooks := .later }
def FnExactSweepOrphansCardSaid : Prop := Claim7.holds Tryz.pinned (.plain (OpenSpec.ofChange fnExactSweepOrphansSpec)) fnExactSweepOrphansCard

/-- THE TIED CARD OF 'laws.FnExactClockOf'. -/
def fnExactClockOfCard : Claim7 := { stood := { row := fnExactClockOfRow, standIns := [], harness := (true, "4e4f09fec4cec5fe7f0e52d96fd1e50c417a4f51dc0f77668f5736c5aaccf78f"), looks := true }, kinds := [], alts := [], laidByText := true, laidKinds := [.data, .data, .data, .sentinel, .sentinel], laidTests := true, laidLooks := .later }
def FnExactClockOfCardSaid : Prop := Claim7.holds Tryz.pinned (.plain (OpenSpec.ofChange fnExactClockOfSpec)) fnExactClockOfCard

/-- THE TIED CARD OF 'laws.FnExactReplayLog'. -/
def fnExactReplayLogCard : Claim7 := { stood := { row := fnExactReplayLogRow, standIns := [], harness := (true, "4e4f09fec4cec5fe7f0e52d96fd1e50c417a4f51dc0f77668f5736c5aaccf78f"), looks := true }, kinds := [], alts := [], laidByText := true, laidKinds := [.data, .data, .data, .data, .sentinel, .sentinel, .pinned], laidTests := true, laidLooks := .later }
def FnExactReplayLogCardSaid : Prop := Claim7.holds Tryz.pinned (.plain (OpenSpec.ofChange fnExactReplayLogSpec)) fnExactReplayLogCard

/-- THE TIED CARD OF 'laws.FnExactAnswersTrue'. -/
def fnExactAnswersTrueCard : Claim7 := { stood := { row := fnExactAnswersTrueRow, standIns := [], harness := (true, "4e4f09fec4cec5fe7f0e52d96fd1e50c417a4f51dc0f77668f5736c5aaccf78f"), looks := true }, kinds := [], alts := [], laidByText := true, laidKinds := [.data, .data, .data, .sentinel, .sentinel], laidTests := true, laidLooks := .later }
def FnExactAnswersTrueCardSaid : Prop := Claim7.holds Tryz.pinned (.plain (OpenSpec.ofChange fnExactAnswersTrueSpec)) fnExactAnswersTrueCard

/-- THE TIED CARD OF 'laws.FnExactSameFleet'. -/
def fnExactSameFleetCard : Claim7 := { stood := { row := fnExactSameFleetRow, standIns := [], harness := (true, "4e4f09fec4cec5fe7f0e52d96fd1e50c417a4f51dc0f77668f5736c5aaccf78f"), looks := true }, kinds := [], alts := [], laidByText := true, laidKinds := [.data, .data, .data, .sentinel, .sentinel], laidTests := true, laidLooks := .later }
def FnExactSameFleetCardSaid : Prop := Claim7.holds Tryz.pinned (.plain (OpenSpec.ofChange fnExactSameFleetSpec)) fnExactSameFleetCard

/-- THE TIED CARD OF 'laws.FnExactFleetLines'. -/
def fnExactFleetLinesCard : Claim7 := { stood := { row := fnExactFleetLinesRow, standIns := [], harness := (true, "4e4f09fec4cec5fe7f0e52d96fd1e50c417a4f51dc0f77668f5736c5aaccf78f"), looks := true }, kinds := [], alts := [], laidByText := true, laidKinds := [.data, .data, .data, .sentinel, .sentinel], laidTests := true, laidLooks := .later }
def FnExactFleetLinesCardSaid : Prop := Claim7.holds Tryz.pinned (.plain (OpenSpec.ofChange fnExactFleetLinesSpec)) fnExactFleetLinesCard

/-- THE TIED CARD OF 'laws.FnExactStateTrue'. -/
def fnExactStateTrueCard : Claim7 := { stood := { row := fnExactStateTrueRow, standIns := [], harness := (true, "4e4f09fec4cec5fe7f0e52d96fd1e50c417a4f51dc0f77668f5736c5aaccf78f"), looks := true }, kinds := [], alts := [], laidByText := true, laidKinds := [.data, .data, .data, .data, .sentinel, .sentinel, .pinned], laidTests := true, laidLooks := .later }
def FnExactStateTrueCardSaid : Prop := Claim7.holds Tryz.pinned (.plain (OpenSpec.ofChange fnExactStateTrueSpec)) fnExactStateTrueCard

/-- THE TIED CARD OF 'laws.FnExactSweepTombs'. -/
def fnExactSweepTombsCard : Claim7 := { stood := { row := fnExactSweepTombsRow, standIns := [], harness := (true, "4e4f09fec4cec5fe7f0e52d96fd1e50c417a4f51dc0f77668f5736c5aaccf78f"), looks := true }, kinds := [], alts := [], laidByText := true, laidKinds := [.data, .data, .data, .data, .sentinel, .sentinel, .pinned], laidTests := true, laidLooks := .later }
def FnExactSweepTombsCardSaid : Prop := Claim7.holds Tryz.pinned (.plain (OpenSpec.ofChange fnExactSweepTombsSpec)) fnExactSweepTombsCard

/-- THE SECOND FORM's CARD OF 'laws.FnExactAcquire'. -/
def fnExactAcquireUptoCard : Claim7 := { stood := { row := fnExactAcquireUptoRow, standIns := [], harness := (true, "4e4f09fec4cec5fe7f0e52d96fd1e50c417a4f51dc0f77668f5736c5aaccf78f"), looks := true }, kinds := [], alts := [], laidByText := true, laidKinds := [.data, .data, .data, .data, .sentinel, .sentinel, .pinned], laidTests := true, laidLooks := .later }
def FnExactAcquireUptoCardSaid : Prop := Claim7.holds Tryz.pinned (.plain (OpenSpec.upto fnExactAcquireSpec)) fnExactAcquireUptoCard

/-- THE SECOND FORM's CARD OF 'laws.FnExactEntryTrue'. -/
def fnExactEntryTrueUptoCard : Claim7 := { stood := { row := fnExactEntryTrueUptoRow, standIns := [], harness := (true, "4e4f09fec4cec5fe7f0e52d96fd1e50c417a4f51dc0f77668f5736c5aaccf78f"), looks := true }, kinds := [], alts := [], laidByText := true, laidKinds := [.data, .data, .data, .data, .sentinel, .sentinel, .pinned], laidTests := true, laidLooks := .later }
def FnExactEntryTrueUptoCardSaid : Prop := Claim7.holds Tryz.pinned (.plain (OpenSpec.upto fnExactEntryTrueSpec)) fnExactEntryTrueUptoCard

/-- THE SECOND FORM's CARD OF 'laws.FnExactFleetOK'. -/
def fnExactFleetOKUptoCard : Claim7 := { stood := { row := fnExactFleetOKUptoRow, standIns := [], harness := (true, "4e4f09fec4cec5fe7f0e52d96fd1e50c417a4f51dc0f77668f5736c5aaccf78f"), looks := true }, kinds := [], alts := [], laidByText := true, laidKinds := [.data, .data, .data, .sentinel, .sentinel], laidTests := true, laidLooks := .later }
def FnExactFleetOKUptoCardSaid : Prop := Claim7.holds Tryz.pinned (.plain (OpenSpec.upto fnExactFleetOKSpec)) fnExactFleetOKUptoCard

/-- THE SECOND FORM's CARD OF 'laws.FnExactNothingGone'. -/
def fnExactNothingGoneUptoCard : Claim7 := { stood := { row := fnExactNothingGoneUptoRow, standIns := [], harness := (true, "4e4f09fec4cec5fe7f0e52d96fd1e50c417a4f51dc0f77668f5736c5aaccf78f"), looks := true }, kinds := [], alts := [], laidByText := true, laidKinds := [.data, .data, .data, .sentinel, .sentinel], laidTests := true, laidLooks := .later }
def FnExactNothingGoneUptoCardSaid : Prop := Claim7.holds Tryz.pinned (.plain (OpenSpec.upto fnExactNothingGoneSpec)) fnExactNothingGoneUptoCard

/-- THE SECOND FORM's CARD OF 'laws.FnExactSweepOrphans'. -/
def fnExactSweepOrphansUptoCard : Claim7 := { stood := { row := fnExactSweepOrphansUptoRow, standIns := [], harness := (true, "4e4f09fec4cec5fe7f0e52d96fd1e50c417a4f51dc0f77668f5736c5aaccf78f"), looks := true }, kinds := [], alts := [], laidByText := true, laidKinds := [.data, .data, .data, .data, .sentinel, .sentinel, .pinned], laidTests := true, laidLooks := .later }
def FnExactSweepOrphansUptoCardSaid : Prop := Claim7.holds Tryz.pinned (.plain (OpenSpec.upto fnExactSweepOrphansSpec)) fnExactSweepOrphansUptoCard

/-- THE SECOND FORM's CARD OF 'laws.FnExactClockOf'. -/
def fnExactClockOfUptoCard : Claim7 := { stood := { row := fnExactClockOfUptoRow, standIns := [], harness := (true, "4e4f09fec4cec5fe7f0e52d96fd1e50c417a4f51dc0f77668f5736c5aaccf78f"), looks := true }, kinds := [], alts := [], laidByText := true, laidKinds := [.data, .data, .data, .sentinel, .sentinel], laidTests := true, laidLooks := .later }
def FnExactClockOfUptoCardSaid : Prop := Claim7.holds Tryz.pinned (.plain (OpenSpec.upto fnExactClockOfSpec)) fnExactClockOfUptoCard

/-- THE SECOND FORM's CARD OF 'laws.FnExactReplayLog'. -/
def fnExactReplayLogUptoCard : Claim7 := { stood := { row := fnExactReplayLogUptoRow, standIns := [], harness := (true, "4e4f09fec4cec5fe7f0e52d96fd1e50c417a4f51dc0f77668f5736c5aaccf78f"), looks := true }, kinds := [], alts := [], laidByText := true, laidKinds := [.data, .data, .data, .data, .sentinel, .sentinel, .pinned], laidTests := true, laidLooks := .later }
def FnExactReplayLogUptoCardSaid : Prop := Claim7.holds Tryz.pinned (.plain (OpenSpec.upto fnExactReplayLogSpec)) fnExactReplayLogUptoCard

/-- THE SECOND FORM's CARD OF 'laws.FnExactAnswersTrue'. -/
def fnExactAnswersTrueUptoCard : Claim7 := { stood := { row := fnExactAnswersTrueUptoRow, standIns := [], harness := (true, "4e4f09fec4cec5fe7f0e52d96fd1e50c417a4f51dc0f77668f5736c5aaccf78f"), looks := true }, kinds := [], alts := [], laidByText := true, laidKinds := [.data, .data, .data, .sentinel, .sentinel], laidTests := true, laidLooks := .later }
def FnExactAnswersTrueUptoCardSaid : Prop := Claim7.holds Tryz.pinned (.plain (OpenSpec.upto fnExactAnswersTrueSpec)) fnExactAnswersTrueUptoCard

/-- THE SECOND FORM's CARD OF 'laws.FnExactSameFleet'. -/
def fnExactSameFleetUptoCard : Claim7 := { stood := { row := fnExactSameFleetUptoRow, standIns := [], harness := (true, "4e4f09fec4cec5fe7f0e52d96fd1e50c417a4f51dc0f77668f5736c5aaccf78f"), looks := true }, kinds := [], alts := [], laidByText := true, laidKinds := [.data, .data, .data, .sentinel, .sentinel], laidTests := true, laidLooks := .later }
def FnExactSameFleetUptoCardSaid : Prop := Claim7.holds Tryz.pinned (.plain (OpenSpec.upto fnExactSameFleetSpec)) fnExactSameFleetUptoCard

/-- THE SECOND FORM's CARD OF 'laws.FnExactFleetLines'. -/
def fnExactFleetLinesUptoCard : Claim7 := { stood := { row := fnExactFleetLinesUptoRow, standIns := [], harness := (true, "4e4f09fec4cec5fe7f0e52d96fd1e50c417a4f51dc0f77668f5736c5aaccf78f"), looks := true }, kinds := [], alts := [], laidByText := true, laidKinds := [.data, .data, .data, .sentinel, .sentinel], laidTests := true, laidLooks := .later }
def FnExactFleetLinesUptoCardSaid : Prop := Claim7.holds Tryz.pinned (.plain (OpenSpec.upto fnExactFleetLinesSpec)) fnExactFleetLinesUptoCard

/-- THE SECOND FORM's CARD OF 'laws.FnExactStateTrue'. -/
def fnExactStateTrueUptoCard : Claim7 := { stood := { row := fnExactStateTrueUptoRow, standIns := [], harness := (true, "4e4f09fec4cec5fe7f0e52d96fd1e50c417a4f51dc0f77668f5736c5aaccf78f"), looks := true }, kinds := [], alts := [], laidByText := true, laidKinds := [.data, .data, .data, .data, .sentinel, .sentinel, .pinned], laidTests := true, laidLooks := .later }
def FnExactStateTrueUptoCardSaid : Prop := Claim7.holds Tryz.pinned (.plain (OpenSpec.upto fnExactStateTrueSpec)) fnExactStateTrueUptoCard

/-- THE SECOND FORM's CARD OF 'laws.FnExactSweepTombs'. -/
def fnExactSweepTombsUptoCard : Claim7 := { stood := { row := fnExactSweepTombsUptoRow, standIns := [], harness := (true, "4e4f09fec4cec5fe7f0e52d96fd1e50c417a4f51dc0f77668f5736c5aaccf78f"), looks := true }, kinds := [], alts := [], laidByText := true, laidKinds := [.data, .data, .data, .data, .sentinel, .sentinel, .pinned], laidTests := true, laidLooks := .later }
def FnExactSweepTombsUptoCardSaid : Prop := Claim7.holds Tryz.pinned (.plain (OpenSpec.upto fnExactSweepTombsSpec)) fnExactSweepTombsUptoCard
end Rows
end Go.Proofs.YtpfmfdioonjccaaGreatDoor
