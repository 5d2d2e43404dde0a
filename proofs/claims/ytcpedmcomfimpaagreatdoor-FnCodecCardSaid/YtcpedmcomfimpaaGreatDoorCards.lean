/-
  DERIVED. GIVEN WITH THE SEED: THE CARDS: each row of YtcpedmcomfimpaaGreatDoorRows.lean that lists a variable, with what it lists TIED to the program's text (the seventh form; the later family's looks); each row that meets fmt, with fmt's text TOLD by the authors' own Lean function (tested against real Go, not proved from fmt's source: count such statements apart). THE CARD IS WHAT COUNTS. Prove the row's statement (the work); the ties are given (YtcpedmcomfimpaaGreatDoorTie.lean); close each card by the builder's one call (the guide's Derived/Test/ToyasCard.lean, 'card_holds'). Laid BY PROGRAM, IN A SANDBOX (cutbox-door.mjs). By AI agents, Wed Nov 11 2026. No macro, syntax, notation, axiom, sorry.
-/
import Derived.Test.YtcpedmcomfimpaaGreatDoorRows
import GoSem.ClaimSeven
namespace Go.Proofs.YtcpedmcomfimpaaGreatDoor
namespace Rows

/-- THE TIED CARD OF 'laws.FnCodec'. -/
def fnCodecCard : Claim7 := { stood := { row := fnCodecRow, standIns := [], harness := (true, "a03d06a3554fd283179037222288ba614d38011fa48ceea113176f37b4a08d76"), looks := true }, kinds := [], alts := [], laidByText := true, laidKinds := [.data, .data, .data, .data, .sentinel, .sentinel, .pinned], laidTests := true, laidLooks := .later }
def FnCodecCardSaid : Prop := Claim7.holds Tryz.pinned (.plain (OpenSpec.ofChange fnCodecSpec)) fnCodecCard

/-- THE TIED CARD OF 'laws.FnWindow'. -/
def fnWindowCard : Claim7 := { stood := { row := fnWindowRow, standIns := [], harness := (true, "a03d06a3554fd283179037222288ba614d38011fa48ceea113176f37b4a08d76"), looks := true }, kinds := [], alts := [], laidByText := true, laidKinds := [.data, .data, .data, .data, .sentinel, .sentinel, .pinned], laidTests := true, laidLooks := .later }
def FnWindowCardSaid : Prop := Claim7.holds Tryz.pinned (.plain (OpenSpec.ofChange fnWindowSpec)) fnWindowCard

/-- THE TIED CARD OF 'laws.FnReplay'. -/
def fnReplayCard : Claim7 := { stood := { row := fnReplayRow, standIns := [], harness := (true, "a03d06a3554fd283179037222288ba614d38011fa48ceea113176f37b4a08d76"), looks := true }, kinds := [], alts := [], laidByText := true, laidKinds := [.data, .data, .data, .data, .sentinel, .sentinel, .pinned], laidTests := true, laidLooks := .later }
def FnReplayCardSaid : Prop := Claim7.holds Tryz.pinned (.plain (OpenSpec.ofChange fnReplaySpec)) fnReplayCard

/-- THE TIED CARD OF 'laws.FnExactFleetLines'. -/
def fnExactFleetLinesCard : Claim7 := { stood := { row := fnExactFleetLinesRow, standIns := [], harness := (true, "a03d06a3554fd283179037222288ba614d38011fa48ceea113176f37b4a08d76"), looks := true }, kinds := [], alts := [], laidByText := true, laidKinds := [.data, .data, .data, .sentinel, .sentinel], laidTests := true, laidLooks := .later }
def FnExactFleetLinesCardSaid : Prop := Claim7.holds Tryz.pinned (.plain (OpenSpec.ofChange fnExactFleetLinesSpec)) fnExactFleetLinesCard

/-- THE SECOND FORM's CARD OF 'laws.FnCodec'. -/
def fnCodecUptoCard : Claim7 := { stood := { row := fnCodecUptoRow, standIns := [], harness := (true, "a03d06a3554fd283179037222288ba614d38011fa48ceea113176f37b4a08d76"), looks := true }, kinds := [], alts := [], laidByText := true, laidKinds := [.data, .data, .data, .data, .sentinel, .sentinel, .pinned], laidTests := true, laidLooks := .later }
def FnCodecUptoCardSaid : Prop := Claim7.holds Tryz.pinned (.plain (OpenSpec.upto fnCodecSpec)) fnCodecUptoCard

/-- THE SECOND FORM's CARD OF 'laws.FnWindow'. -/
def fnWindowUptoCard : Claim7 := { stood := { row := fnWindowUptoRow, standIns := [], harness := (true, "a03d06a3554fd283179037222288ba614d38011fa48ceea113176f37b4a08d76"), looks := true }, kinds := [], alts := [], laidByText := true, laidKinds := [.data, .data, .data, .data, .sentinel, .sentinel, .pinned], laidTests := true, laidLooks := .later }
def FnWindowUptoCardSaid : Prop := Claim7.holds Tryz.pinned (.plain (OpenSpec.upto fnWindowSpec)) fnWindowUptoCard

/-- THE SECOND FORM's CARD OF 'laws.FnReplay'. -/
def fnReplayUptoCard : Claim7 := { stood := { row := fnReplayUptoRow, standIns := [], harness := (true, "a03d06a3554fd283179037222288ba614d38011fa48ceea113176f37b4a08d76"), looks := true }, kinds := [], alts := [], laidByText := true, laidKinds := [.data, .data, .data, .data, .sentinel, .sentinel, .pinned], laidTests := true, laidLooks := .later }
def FnReplayUptoCardSaid : Prop := Claim7.holds Tryz.pinned (.plain (OpenSpec.upto fnReplaySpec)) fnReplayUptoCard

/-- THE SECOND FORM's CARD OF 'laws.FnExactFleetLines'. -/
def fnExactFleetLinesUptoCard : Claim7 := { stood := { row := fnExactFleetLinesUptoRow, standIns := [], harness := (true, "a03d06a3554fd283179037222288ba614d38011fa48ceea113176f37b4a08d76"), looks := true }, kinds := [], alts := [], laidByText := true, laidKinds := [.data, .data, .data, .sentinel, .sentinel], laidTests := true, laidLooks := .later }
def FnExactFleetLinesUptoCardSaid : Prop := Claim7.holds Tryz.pinned (.plain (OpenSpec.upto fnExactFleetLinesSpec)) fnExactFleetLinesUptoCard
end Rows
end Go.Proofs.YtcpedmcomfimpaaGreatDoor
