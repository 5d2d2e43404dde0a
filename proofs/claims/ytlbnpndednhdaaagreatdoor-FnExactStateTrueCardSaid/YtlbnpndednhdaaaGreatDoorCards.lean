/-
  DERIVED. GIVEN WITH THE SEED: THE CARDS: each row of YtlbnpndednhdaaaGreatDoorRows.lean that lists a variable, with what it lists TIED to the program's text (the seventh form; the later family's looks); each row that meets fmt, with fmt's text TOLD by the authors' own Lean function (tested against real Go, not proved from fmt's source: count such statements apart). THE CARD IS WHAT COUNTS. Prove the row's statement (the work); the ties are given (YtlbnpndednhdaaaGreatDoorTie.lean); close each card by the builder's one call (the guide's Derived/Test/ToyasCard.lean, 'card_holds'). Laid BY PROGRAM, IN A SANDBOX (cutbox-door.mjs). By AI agents, Wed Nov 11 2026. No macro, syntax, notation, axiom, sorry.
-/
import Derived.Test.YtlbnpndednhdaaaGreatDoorRows
import GoSem.ClaimSeven
namespace Go.Proofs.YtlbnpndednhdaaaGreatDoor
namespace Rows

/-- THE TIED CARD OF 'laws.FnExactFleetOK'. -/
def fnExactFleetOKCard : Claim7 := { stood := { row := fnExactFleetOKRow, standIns := [], harness := (true, "44c45cf72091ad90f5f71ca6e5c023cbe1d2462075c2d951d58bdeedb77c2d04"), looks := true }, kinds := [], alts := [], laidByText := true, laidKinds := [.data, .data, .data, .sentinel, .sentinel], laidTests := true, laidLooks := .later }
def FnExactFleetOKCardSaid : Prop := Claim7.holds Tryz.pinned (.plain (OpenSpec.ofChange fnExactFleetOKSpec)) fnExactFleetOKCard

/-- THE TIED CARD OF 'laws.FnExactNothingGone'. -/
def fnExactNothingGoneCard : Claim7 := { stood := { row := fnExactNothingGoneRow, standIns := [], harness := (true, "44c45cf72091ad90f5f71ca6e5c023cbe1d2462075c2d951d58bdeedb77c2d04"), looks := true }, kinds := [], alts := [], laidByText := true, laidKinds := [.data, .data, .data, .sentinel, .sentinel], laidTests := true, laidLooks := .later }
def FnExactNothingGoneCardSaid : Prop := Claim7.holds Tryz.pinned (.plain (OpenSpec.ofChange fnExactNothingGoneSpec)) fnExactNothingGoneCard

/-- THE TIED CARD OF 'laws.FnExactClockOf'. -/
def fnExactClockOfCard : Claim7 := { stood := { row := fnExactClockOfRow, standIns := [], harness := (true, "44c45cf72091ad90f5f71ca6e5c023cbe1d2462075c2d951d58bdeedb77c2d04"), looks := true }, kinds := [], alts := [], laidByText := true, laidKinds := [.data, .data, .data, .sentinel, .sentinel], laidTests := true, laidLooks := .later }
def FnExactClockOfCardSaid : Prop := Claim7.holds Tryz.pinned (.plain (OpenSpec.ofChange fnExactClockOfSpec)) fnExactClockOfCard

/-- THE TIED CARD OF 'laws.FnExactSameFleet'. -/
def fnExactSameFleetCard : Claim7 := { stood := { row := fnExactSameFleetRow, standIns := [], harness := (true, "44c45cf72091ad90f5f71ca6e5c023cbe1d2462075c2d951d58bdeedb77c2d04"), looks := true }, kinds := [], alts := [], laidByText := true, laidKinds := [.data, .data, .data, .sentinel, .sentinel], laidTests := true, laidLooks := .later }
def FnExactSameFleetCardSaid : Prop := Claim7.holds Tryz.pinned (.plain (OpenSpec.ofChange fnExactSameFleetSpec)) fnExactSameFleetCard

/-- THE TIED CARD OF 'laws.FnExactAnswersTrue'. -/
def fnExactAnswersTrueCard : Claim7 := { stood := { row := fnExactAnswersTrueRow, standIns := [], harness := (true, "44c45cf72091ad90f5f71ca6e5c023cbe1d2462075c2d951d58bdeedb77c2d04"), looks := true }, kinds := [], alts := [], laidByText := true, laidKinds := [.data, .data, .data, .sentinel, .sentinel], laidTests := true, laidLooks := .later }
def FnExactAnswersTrueCardSaid : Prop := Claim7.holds Tryz.pinned (.plain (OpenSpec.ofChange fnExactAnswersTrueSpec)) fnExactAnswersTrueCard

/-- THE TIED CARD OF 'laws.FnExactEntryTrue'. -/
def fnExactEntryTrueCard : Claim7 := { stood := { row := fnExactEntryTrueRow, standIns := [], harness := (true, "44c45cf72091ad90f5f71ca6e5c023cbe1d2462075c2d951d58bdeedb77c2d04"), looks := true }, kinds := [], alts := [], laidByText := true, laidKinds := [.data, .data, .data, .data, .sentinel, .sentinel, .pinned], laidTests := true, laidLooks := .later }
def FnExactEntryTrueCardSaid : Prop := Claim7.holds Tryz.pinned (.plain (OpenSpec.ofChange fnExactEntryTrueSpec)) fnExactEntryTrueCard

/-- THE TIED CARD OF 'laws.FnExactStateTrue'. -/
def fnExactStateTrueCard : Claim7 := { stood := { row := fnExactStateTrueRow, standIns := [], harness := (true, "44c45cf72091ad90f5f71ca6e5c023cbe1d2462075c2d951d58bdeedb77c2d04"), looks := true }, kinds := [], alts := [], laidByText := true, laidKinds := [.data, .data, .data, .data, .sentinel, .sentinel, .pinned], laidTests := true, laidLooks := .later }
def FnExactStateTrueCardSaid : Prop := Claim7.holds Tryz.pinned (.plain (OpenSpec.ofChange fnExactStateTrueSpec)) fnExactStateTrueCard

/-- THE TIED CARD OF 'laws.FnExactReadAct'. -/
def fnExactReadActCard : Claim7 := { stood := { row := fnExactReadActRow, standIns := [], harness := (true, "44c45cf72091ad90f5f71ca6e5c023cbe1d2462075c2d951d58bdeedb77c2d04"), looks := true }, kinds := [], alts := [], laidByText := true, laidKinds := [.data, .data, .data, .data, .sentinel, .sentinel, .pinned], laidTests := true, laidLooks := .later }
def FnExactReadActCardSaid : Prop := Claim7.holds Tryz.pinned (.plain (OpenSpec.ofChange fnExactReadActSpec)) fnExactReadActCard

/-- THE TIED CARD OF 'laws.FnPin'. -/
def fnPinCard : Claim7 := { stood := { row := fnPinRow, standIns := [], harness := (true, "44c45cf72091ad90f5f71ca6e5c023cbe1d2462075c2d951d58bdeedb77c2d04"), looks := true }, kinds := [], alts := [], laidByText := true, laidKinds := [.data, .data, .data, .data, .sentinel, .sentinel, .pinned], laidTests := true, laidLooks := .later }
def FnPinCardSaid : Prop := Claim7.holds Tryz.pinned (.plain (OpenSpec.ofChange fnPinSpec)) fnPinCard

/-- THE SECOND FORM's CARD OF 'laws.FnExactFleetOK'. -/
def fnExactFleetOKUptoCard : Claim7 := { stood := { row := fnExactFleetOKUptoRow, standIns := [], harness := (true, "44c45cf72091ad90f5f71ca6e5c023cbe1d2462075c2d951d58bdeedb77c2d04"), looks := true }, kinds := [], alts := [], laidByText := true, laidKinds := [.data, .data, .data, .sentinel, .sentinel], laidTests := true, laidLooks := .later }
def FnExactFleetOKUptoCardSaid : Prop := Claim7.holds Tryz.pinned (.plain (OpenSpec.upto fnExactFleetOKSpec)) fnExactFleetOKUptoCard

/-- THE SECOND FORM's CARD OF 'laws.FnExactNothingGone'. -/
def fnExactNothingGoneUptoCard : Claim7 := { stood := { row := fnExactNothingGoneUptoRow, standIns := [], harness := (true, "44c45cf72091ad90f5f71ca6e5c023cbe1d2462075c2d951d58bdeedb77c2d04"), looks := true }, kinds := [], alts := [], laidByText := true, laidKinds := [.data, .data, .data, .sentinel, .sentinel], laidTests := true, laidLooks := .later }
def FnExactNothingGoneUptoCardSaid : Prop := Claim7.holds Tryz.pinned (.plain (OpenSpec.upto fnExactNothingGoneSpec)) fnExactNothingGoneUptoCard

/-- THE SECOND FORM's CARD OF 'laws.FnExactClockOf'. -/
def fnExactClockOfUptoCard : Claim7 := { stood := { row := fnExactClockOfUptoRow, standIns := [], harness := (true, "44c45cf72091ad90f5f71ca6e5c023cbe1d2462075c2d951d58bdeedb77c2d04"), looks := true }, kinds := [], alts := [], laidByText := true, laidKinds := [.data, .data, .data, .sentinel, .sentinel], laidTests := true, laidLooks := .later }
def FnExactClockOfUptoCardSaid : Prop := Claim7.holds Tryz.pinned (.plain (OpenSpec.upto fnExactClockOfSpec)) fnExactClockOfUptoCard

/-- THE SECOND FORM's CARD OF 'laws.FnExactSameFleet'. -/
def fnExactSameFleetUptoCard : Claim7 := { stood := { row := fnExactSameFleetUptoRow, standIns := [], harness := (true, "44c45cf72091ad90f5f71ca6e5c023cbe1d2462075c2d951d58bdeedb77c2d04"), looks := true }, kinds := [], alts := [], laidByText := true, laidKinds := [.data, .data, .data, .sentinel, .sentinel], laidTests := true, laidLooks := .later }
def FnExactSameFleetUptoCardSaid : Prop := Claim7.holds Tryz.pinned (.plain (OpenSpec.upto fnExactSameFleetSpec)) fnExactSameFleetUptoCard

/-- THE SECOND FORM's CARD OF 'laws.FnExactAnswersTrue'. -/
def fnExactAnswersTrueUptoCard : Claim7 := { stood := { row := fnExactAnswersTrueUptoRow, standIns := [], harness := (true, "44c45cf72091ad90f5f71ca6e5c023cbe1d2462075c2d951d58bdeedb77c2d04"), looks := true }, kinds := [], alts := [], laidByText := true, laidKinds := [.data, .data, .data, .sentinel, .sentinel], laidTests := true, laidLooks := .later }
def FnExactAnswersTrueUptoCardSaid : Prop := Claim7.holds Tryz.pinned (.plain (OpenSpec.upto fnExactAnswersTrueSpec)) fnExactAnswersTrueUptoCard

/-- THE SECOND FORM's CARD OF 'laws.FnExactEntryTrue'. -/
def fnExactEntryTrueUptoCard : Claim7 := { stood := { row := fnExactEntryTrueUptoRow, standIns := [], harness := (true, "44c45cf72091ad90f5f71ca6e5c023cbe1d2462075c2d951d58bdeedb77c2d04"), looks := true }, kinds := [], alts := [], laidByText := true, laidKinds := [.data, .data, .data, .data, .sentinel, .sentinel, .pinned], laidTests := true, laidLooks := .later }
def FnExactEntryTrueUptoCardSaid : Prop := Claim7.holds Tryz.pinned (.plain (OpenSpec.upto fnExactEntryTrueSpec)) fnExactEntryTrueUptoCard

/-- THE SECOND FORM's CARD OF 'laws.FnExactStateTrue'. -/
def fnExactStateTrueUptoCard : Claim7 := { stood := { row := fnExactStateTrueUptoRow, standIns := [], harness := (true, "44c45cf72091ad90f5f71ca6e5c023cbe1d2462075c2d951d58bdeedb77c2d04"), looks := true }, kinds := [], alts := [], laidByText := true, laidKinds := [.data, .data, .data, .data, .sentinel, .sentinel, .pinned], laidTests := true, laidLooks := .later }
def FnExactStateTrueUptoCardSaid : Prop := Claim7.holds Tryz.pinned (.plain (OpenSpec.upto fnExactStateTrueSpec)) fnExactStateTrueUptoCard

/-- THE SECOND FORM's CARD OF 'laws.FnExactReadAct'. -/
def fnExactReadActUptoCard : Claim7 := { stood := { row := fnExactReadActUptoRow, standIns := [], harness := (true, "44c45cf72091ad90f5f71ca6e5c023cbe1d2462075c2d951d58bdeedb77c2d04"), looks := true }, kinds := [], alts := [], laidByText := true, laidKinds := [.data, .data, .data, .data, .sentinel, .sentinel, .pinned], laidTests := true, laidLooks := .later }
def FnExactReadActUptoCardSaid : Prop := Claim7.holds Tryz.pinned (.plain (OpenSpec.upto fnExactReadActSpec)) fnExactReadActUptoCard

/-- THE SECOND FORM's CARD OF 'laws.FnPin'. -/
def fnPinUptoCard : Claim7 := { stood := { row := fnPinUptoRow, standIns := [], harness := (true, "44c45cf72091ad90f5f71ca6e5c023cbe1d2462075c2d951d58bdeedb77c2d04"), looks := true }, kinds := [], alts := [], laidByText := true, laidKinds := [.data, .data, .data, .data, .sentinel, .sentinel, .pinned], laidTests := true, laidLooks := .later }
def FnPinUptoCardSaid : Prop := Claim7.holds Tryz.pinned (.plain (OpenSpec.upto fnPinSpec)) fnPinUptoCard
end Rows
end Go.Proofs.YtlbnpndednhdaaaGreatDoor
