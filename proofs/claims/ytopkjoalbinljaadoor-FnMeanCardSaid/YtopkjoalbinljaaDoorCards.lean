/-
  DERIVED. GIVEN WITH THE SEED: THE CARDS: each row of YtopkjoalbinljaaDoorRows.lean that lists a variable, with what it lists TIED to the program's text (the seventh form; the later family's looks); each row that meets fmt, with fmt's text TOLD by the authors' own Lean function (tested against real Go, not proved from fmt's source: count such statements apart). THE CARD IS WHAT COUNTS. Prove the row's statement (the work); the ties are given (YtopkjoalbinljaaDoorTie.lean); close each card by the builder's one call (the guide's Derived/Test/ToyasCard.lean, 'card_holds'). Laid BY PROGRAM, IN A SANDBOX (cutbox-door.mjs). By AI agents, Wed Nov 11 2026. No macro, syntax, notation, axiom, sorry.
-/
import Derived.Test.YtopkjoalbinljaaDoorRows
import GoSem.ClaimSeven
namespace Go.Proofs.YtopkjoalbinljaaDoor
namespace Rows

/-- THE TIED CARD OF 'laws.FnExactBucketsText'. -/
def fnExactBucketsTextCard : Claim7 := { stood := { row := fnExactBucketsTextRow, standIns := [], harness := (true, "49734a19f368801cb9761775b006dcf389e133626eea0331534cd1d896ac6f50"), looks := true }, kinds := [], alts := [], laidByText := true, laidKinds := [.data, .data, .data], laidTests := true, laidLooks := .later }
def FnExactBucketsTextCardSaid : Prop := Claim7.holds Tryd.pinned (.plain (OpenSpec.ofChange fnExactBucketsTextSpec)) fnExactBucketsTextCard

/-- THE TIED CARD OF 'laws.FnExactActText'. -/
def fnExactActTextCard : Claim7 := { stood := { row := fnExactActTextRow, standIns := [], harness := (true, "49734a19f368801cb9761775b006dcf389e133626eea0331534cd1d896ac6f50"), looks := true }, kinds := [], alts := [], laidByText := true, laidKinds := [.data, .data, .data], laidTests := true, laidLooks := .later }
def FnExactActTextCardSaid : Prop := Claim7.holds Tryd.pinned (.plain (OpenSpec.ofChange fnExactActTextSpec)) fnExactActTextCard

/-- THE TIED CARD OF 'laws.FnExactRecordText'. -/
def fnExactRecordTextCard : Claim7 := { stood := { row := fnExactRecordTextRow, standIns := [], harness := (true, "49734a19f368801cb9761775b006dcf389e133626eea0331534cd1d896ac6f50"), looks := true }, kinds := [], alts := [], laidByText := true, laidKinds := [.data, .data, .data, .sentinel, .sentinel], laidTests := true, laidLooks := .later }
def FnExactRecordTextCardSaid : Prop := Claim7.holds Tryd.pinned (.plain (OpenSpec.ofChange fnExactRecordTextSpec)) fnExactRecordTextCard

/-- THE TIED CARD OF 'laws.FnExactDueCount'. -/
def fnExactDueCountCard : Claim7 := { stood := { row := fnExactDueCountRow, standIns := [], harness := (true, "49734a19f368801cb9761775b006dcf389e133626eea0331534cd1d896ac6f50"), looks := true }, kinds := [], alts := [], laidByText := true, laidKinds := [.data, .data, .data, .sentinel, .sentinel], laidTests := true, laidLooks := .later }
def FnExactDueCountCardSaid : Prop := Claim7.holds Tryd.pinned (.plain (OpenSpec.ofChange fnExactDueCountSpec)) fnExactDueCountCard

/-- THE TIED CARD OF 'laws.FnStale'. -/
def fnStaleCard : Claim7 := { stood := { row := fnStaleRow, standIns := [], harness := (true, "49734a19f368801cb9761775b006dcf389e133626eea0331534cd1d896ac6f50"), looks := true }, kinds := [], alts := [], laidByText := true, laidKinds := [.data, .data, .data, .sentinel, .sentinel], laidTests := true, laidLooks := .later }
def FnStaleCardSaid : Prop := Claim7.holds Tryd.pinned (.plain (OpenSpec.ofChange fnStaleSpec)) fnStaleCard

/-- THE TIED CARD OF 'laws.FnMean'. -/
def fnMeanCard : Claim7 := { stood := { row := fnMeanRow, standIns := [], harness := (true, "49734a19f368801cb9761775b006dcf389e133626eea0331534cd1d896ac6f50"), looks := true }, kinds := [], alts := [], laidByText := true, laidKinds := [.data, .data, .data, .data, .sentinel, .sentinel, .pinned], laidTests := true, laidLooks := .later }
def FnMeanCardSaid : Prop := Claim7.holds Tryd.pinned (.plain (OpenSpec.ofChange fnMeanSpec)) fnMeanCard

/-- THE SECOND FORM's CARD OF 'laws.FnExactBucketsText'. -/
def fnExactBucketsTextUptoCard : Claim7 := { stood := { row := fnExactBucketsTextUptoRow, standIns := [], harness := (true, "49734a19f368801cb9761775b006dcf389e133626eea0331534cd1d896ac6f50"), looks := true }, kinds := [], alts := [], laidByText := true, laidKinds := [.data, .data, .data], laidTests := true, laidLooks := .later }
def FnExactBucketsTextUptoCardSaid : Prop := Claim7.holds Tryd.pinned (.plain (OpenSpec.upto fnExactBucketsTextSpec)) fnExactBucketsTextUptoCard

/-- THE SECOND FORM's CARD OF 'laws.FnExactActText'. -/
def fnExactActTextUptoCard : Claim7 := { stood := { row := fnExactActTextUptoRow, standIns := [], harness := (true, "49734a19f368801cb9761775b006dcf389e133626eea0331534cd1d896ac6f50"), looks := true }, kinds := [], alts := [], laidByText := true, laidKinds := [.data, .data, .data], laidTests := true, laidLooks := .later }
def FnExactActTextUptoCardSaid : Prop := Claim7.holds Tryd.pinned (.plain (OpenSpec.upto fnExactActTextSpec)) fnExactActTextUptoCard

/-- THE SECOND FORM's CARD OF 'laws.FnExactRecordText'. -/
def fnExactRecordTextUptoCard : Claim7 := { stood := { row := fnExactRecordTextUptoRow, standIns := [], harness := (true, "49734a19f368801cb9761775b006dcf389e133626eea0331534cd1d896ac6f50"), looks := true }, kinds := [], alts := [], laidByText := true, laidKinds := [.data, .data, .data, .sentinel, .sentinel], laidTests := true, laidLooks := .later }
def FnExactRecordTextUptoCardSaid : Prop := Claim7.holds Tryd.pinned (.plain (OpenSpec.upto fnExactRecordTextSpec)) fnExactRecordTextUptoCard

/-- THE SECOND FORM's CARD OF 'laws.FnExactDueCount'. -/
def fnExactDueCountUptoCard : Claim7 := { stood := { row := fnExactDueCountUptoRow, standIns := [], harness := (true, "49734a19f368801cb9761775b006dcf389e133626eea0331534cd1d896ac6f50"), looks := true }, kinds := [], alts := [], laidByText := true, laidKinds := [.data, .data, .data, .sentinel, .sentinel], laidTests := true, laidLooks := .later }
def FnExactDueCountUptoCardSaid : Prop := Claim7.holds Tryd.pinned (.plain (OpenSpec.upto fnExactDueCountSpec)) fnExactDueCountUptoCard

/-- THE SECOND FORM's CARD OF 'laws.FnStale'. -/
def fnStaleUptoCard : Claim7 := { stood := { row := fnStaleUptoRow, standIns := [], harness := (true, "49734a19f368801cb9761775b006dcf389e133626eea0331534cd1d896ac6f50"), looks := true }, kinds := [], alts := [], laidByText := true, laidKinds := [.data, .data, .data, .sentinel, .sentinel], laidTests := true, laidLooks := .later }
def FnStaleUptoCardSaid : Prop := Claim7.holds Tryd.pinned (.plain (OpenSpec.upto fnStaleSpec)) fnStaleUptoCard

/-- THE SECOND FORM's CARD OF 'laws.FnMean'. -/
def fnMeanUptoCard : Claim7 := { stood := { row := fnMeanUptoRow, standIns := [], harness := (true, "49734a19f368801cb9761775b006dcf389e133626eea0331534cd1d896ac6f50"), looks := true }, kinds := [], alts := [], laidByText := true, laidKinds := [.data, .data, .data, .data, .sentinel, .sentinel, .pinned], laidTests := true, laidLooks := .later }
def FnMeanUptoCardSaid : Prop := Claim7.holds Tryd.pinned (.plain (OpenSpec.upto fnMeanSpec)) fnMeanUptoCard
end Rows
end Go.Proofs.YtopkjoalbinljaaDoor
