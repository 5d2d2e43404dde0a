/-
  DERIVED. GIVEN WITH THE SEED: THE CARDS: each row of YtnplgeogieoioaaGreatDoorRows.lean that lists a variable, with what it lists TIED to the program's text (the seventh form; the later family's looks); each row that meets fmt, with fmt's text TOLD by the authors' own Lean function (tested against real Go, not proved from fmt's source: count such statements apart). THE CARD IS WHAT COUNTS. Prove the row's statement (the work); the ties are given (YtnplgeogieoioaaGreatDoorTie.lean); close each card by the builder's one call (the guide's Derived/Test/ToyasCard.lean, 'card_holds'). Laid BY PROGRAM, IN A SANDBOX (cutbox-door.mjs). By AI agents, Wed Nov 11 2026. No macro, syntax, notation, axiom, sorry.
-/
import Derived.Test.YtnplgeogieoioaaGreatDoorRows
import GoSem.ClaimSeven
namespace Go.Proofs.YtnplgeogieoioaaGreatDoor
namespace Rows

/-- THE TIED CARD OF 'laws.FnForget'. -/
def fnForgetCard : Claim7 := { stood := { row := fnForgetRow, standIns := [], harness := (true, "375f52fdc661f330874c55fc561ea966bceae45b059a87bfbdd35a6aca1891fc"), looks := true }, kinds := [], alts := [], laidByText := true, laidKinds := [.data, .data, .data, .data, .sentinel, .sentinel, .pinned], laidTests := true, laidLooks := .later }
def FnForgetCardSaid : Prop := Claim7.holds Tryz.pinned (.plain (OpenSpec.ofChange fnForgetSpec)) fnForgetCard

/-- THE TIED CARD OF 'laws.FnTokens'. -/
def fnTokensCard : Claim7 := { stood := { row := fnTokensRow, standIns := [], harness := (true, "375f52fdc661f330874c55fc561ea966bceae45b059a87bfbdd35a6aca1891fc"), looks := true }, kinds := [], alts := [], laidByText := true, laidKinds := [.data, .data, .data, .data, .sentinel, .sentinel, .pinned], laidTests := true, laidLooks := .later }
def FnTokensCardSaid : Prop := Claim7.holds Tryz.pinned (.plain (OpenSpec.ofChange fnTokensSpec)) fnTokensCard

/-- THE TIED CARD OF 'laws.FnReplay'. -/
def fnReplayCard : Claim7 := { stood := { row := fnReplayRow, standIns := [], harness := (true, "375f52fdc661f330874c55fc561ea966bceae45b059a87bfbdd35a6aca1891fc"), looks := true }, kinds := [], alts := [], laidByText := true, laidKinds := [.data, .data, .data, .data, .sentinel, .sentinel, .pinned], laidTests := true, laidLooks := .later }
def FnReplayCardSaid : Prop := Claim7.holds Tryz.pinned (.plain (OpenSpec.ofChange fnReplaySpec)) fnReplayCard

/-- THE SECOND FORM's CARD OF 'laws.FnForget'. -/
def fnForgetUptoCard : Claim7 := { stood := { row := fnForgetUptoRow, standIns := [], harness := (true, "375f52fdc661f330874c55fc561ea966bceae45b059a87bfbdd35a6aca1891fc"), looks := true }, kinds := [], alts := [], laidByText := true, laidKinds := [.data, .data, .data, .data, .sentinel, .sentinel, .pinned], laidTests := true, laidLooks := .later }
def FnForgetUptoCardSaid : Prop := Claim7.holds Tryz.pinned (.plain (OpenSpec.upto fnForgetSpec)) fnForgetUptoCard

/-- THE SECOND FORM's CARD OF 'laws.FnTokens'. -/
def fnTokensUptoCard : Claim7 := { stood := { row := fnTokensUptoRow, standIns := [], harness := (true, "375f52fdc661f330874c55fc561ea966bceae45b059a87bfbdd35a6aca1891fc"), looks := true }, kinds := [], alts := [], laidByText := true, laidKinds := [.data, .data, .data, .data, .sentinel, .sentinel, .pinned], laidTests := true, laidLooks := .later }
def FnTokensUptoCardSaid : Prop := Claim7.holds Tryz.pinned (.plain (OpenSpec.upto fnTokensSpec)) fnTokensUptoCard

/-- THE SECOND FORM's CARD OF 'laws.FnReplay'. -/
def fnReplayUptoCard : Claim7 := { stood := { row := fnReplayUptoRow, standIns := [], harness := (true, "375f52fdc661f330874c55fc561ea966bceae45b059a87bfbdd35a6aca1891fc"), looks := true }, kinds := [], alts := [], laidByText := true, laidKinds := [.data, .data, .data, .data, .sentinel, .sentinel, .pinned], laidTests := true, laidLooks := .later }
def FnReplayUptoCardSaid : Prop := Claim7.holds Tryz.pinned (.plain (OpenSpec.upto fnReplaySpec)) fnReplayUptoCard
end Rows
end Go.Proofs.YtnplgeogieoioaaGreatDoor
