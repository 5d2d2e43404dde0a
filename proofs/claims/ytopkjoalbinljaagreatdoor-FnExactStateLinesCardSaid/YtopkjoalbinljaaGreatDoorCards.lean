/-
  DERIVED. GIVEN WITH THE SEED: THE CARDS: each row of YtopkjoalbinljaaGreatDoorRows.lean that lists a variable, with what it lists TIED to the program's text (the seventh form; the later family's looks); each row that meets fmt, with fmt's text TOLD by the authors' own Lean function (tested against real Go, not proved from fmt's source: count such statements apart). THE CARD IS WHAT COUNTS. Prove the row's statement (the work); the ties are given (YtopkjoalbinljaaGreatDoorTie.lean); close each card by the builder's one call (the guide's Derived/Test/ToyasCard.lean, 'card_holds'). Laid BY PROGRAM, IN A SANDBOX (cutbox-door.mjs). By AI agents, Wed Nov 11 2026. No macro, syntax, notation, axiom, sorry.
-/
import Derived.Test.YtopkjoalbinljaaGreatDoorRows
import GoSem.ClaimSeven
namespace Go.Proofs.YtopkjoalbinljaaGreatDoor
namespace Rows

/-- THE TIED CARD OF 'laws.FnPlan'. -/
def fnPlanCard : Claim7 := { stood := { row := fnPlanRow, standIns := [], harness := (true, "e0e9224cb1118c1a508cafaa1d114f684fa591e7a68087abda953902a3860fba"), looks := true }, kinds := [], alts := [], laidByText := true, laidKinds := [.data, .data, .data, .sentinel, .sentinel], laidTests := true, laidLooks := .later }
def FnPlanCardSaid : Prop := Claim7.holds Tryz.pinned (.plain (OpenSpec.ofChange fnPlanSpec)) fnPlanCard

/-- THE TIED CARD OF 'laws.FnApply'. -/
def fnApplyCard : Claim7 := { stood := { row := fnApplyRow, standIns := [], harness := (true, "e0e9224cb1118c1a508cafaa1d114f684fa591e7a68087abda953902a3860fba"), looks := true }, kinds := [], alts := [], laidByText := true, laidKinds := [.data, .data, .data, .sentinel, .sentinel], laidTests := true, laidLooks := .later }
def FnApplyCardSaid : Prop := Claim7.holds Tryz.pinned (.plain (OpenSpec.ofChange fnApplySpec)) fnApplyCard

/-- THE TIED CARD OF 'laws.FnExactStateLines'. -/
def fnExactStateLinesCard : Claim7 := { stood := { row := fnExactStateLinesRow, standIns := [], harness := (true, "e0e9224cb1118c1a508cafaa1d114f684fa591e7a68087abda953902a3860fba"), looks := true }, kinds := [], alts := [], laidByText := true, laidKinds := [.data, .data, .data, .sentinel, .sentinel], laidTests := true, laidLooks := .later }
def FnExactStateLinesCardSaid : Prop := Claim7.holds Tryz.pinned (.plain (OpenSpec.ofChange fnExactStateLinesSpec)) fnExactStateLinesCard

/-- THE TIED CARD OF 'laws.FnWindow'. -/
def fnWindowCard : Claim7 := { stood := { row := fnWindowRow, standIns := [], harness := (true, "e0e9224cb1118c1a508cafaa1d114f684fa591e7a68087abda953902a3860fba"), looks := true }, kinds := [], alts := [], laidByText := true, laidKinds := [.data, .data, .data, .data, .sentinel, .sentinel, .pinned], laidTests := true, laidLooks := .later }
def FnWindowCardSaid : Prop := Claim7.holds Tryz.pinned (.plain (OpenSpec.ofChange fnWindowSpec)) fnWindowCard

/-- THE TIED CARD OF 'laws.FnRecord'. -/
def fnRecordCard : Claim7 := { stood := { row := fnRecordRow, standIns := [], harness := (true, "e0e9224cb1118c1a508cafaa1d114f684fa591e7a68087abda953902a3860fba"), looks := true }, kinds := [], alts := [], laidByText := true, laidKinds := [.data, .data, .data, .data, .sentinel, .sentinel, .pinned], laidTests := true, laidLooks := .later }
def FnRecordCardSaid : Prop := Claim7.holds Tryz.pinned (.plain (OpenSpec.ofChange fnRecordSpec)) fnRecordCard

/-- THE SECOND FORM's CARD OF 'laws.FnPlan'. -/
def fnPlanUptoCard : Claim7 := { stood := { row := fnPlanUptoRow, standIns := [], harness := (true, "e0e9224cb1118c1a508cafaa1d114f684fa591e7a68087abda953902a3860fba"), looks := true }, kinds := [], alts := [], laidByText := true, laidKinds := [.data, .data, .data, .sentinel, .sentinel], laidTests := true, laidLooks := .later }
def FnPlanUptoCardSaid : Prop := Claim7.holds Tryz.pinned (.plain (OpenSpec.upto fnPlanSpec)) fnPlanUptoCard

/-- THE SECOND FORM's CARD OF 'laws.FnApply'. -/
def fnApplyUptoCard : Claim7 := { stood := { row := fnApplyUptoRow, standIns := [], harness := (true, "e0e9224cb1118c1a508cafaa1d114f684fa591e7a68087abda953902a3860fba"), looks := true }, kinds := [], alts := [], laidByText := true, laidKinds := [.data, .data, .data, .sentinel, .sentinel], laidTests := true, laidLooks := .later }
def FnApplyUptoCardSaid : Prop := Claim7.holds Tryz.pinned (.plain (OpenSpec.upto fnApplySpec)) fnApplyUptoCard

/-- THE SECOND FORM's CARD OF 'laws.FnExactStateLines'. -/
def fnExactStateLinesUptoCard : Claim7 := { stood := { row := fnExactStateLinesUptoRow, standIns := [], harness := (true, "e0e9224cb1118c1a508cafaa1d114f684fa591e7a68087abda953902a3860fba"), looks := true }, kinds := [], alts := [], laidByText := true, laidKinds := [.data, .data, .data, .sentinel, .sentinel], laidTests := true, laidLooks := .later }
def FnExactStateLinesUptoCardSaid : Prop := Claim7.holds Tryz.pinned (.plain (OpenSpec.upto fnExactStateLinesSpec)) fnExactStateLinesUptoCard

/-- THE SECOND FORM's CARD OF 'laws.FnWindow'. -/
def fnWindowUptoCard : Claim7 := { stood := { row := fnWindowUptoRow, standIns := [], harness := (true, "e0e9224cb1118c1a508cafaa1d114f684fa591e7a68087abda953902a3860fba"), looks := true }, kinds := [], alts := [], laidByText := true, laidKinds := [.data, .data, .data, .data, .sentinel, .sentinel, .pinned], laidTests := true, laidLooks := .later }
def FnWindowUptoCardSaid : Prop := Claim7.holds Tryz.pinned (.plain (OpenSpec.upto fnWindowSpec)) fnWindowUptoCard

/-- THE SECOND FORM's CARD OF 'laws.FnRecord'. -/
def fnRecordUptoCard : Claim7 := { stood := { row := fnRecordUptoRow, standIns := [], harness := (true, "e0e9224cb1118c1a508cafaa1d114f684fa591e7a68087abda953902a3860fba"), looks := true }, kinds := [], alts := [], laidByText := true, laidKinds := [.data, .data, .data, .data, .sentinel, .sentinel, .pinned], laidTests := true, laidLooks := .later }
def FnRecordUptoCardSaid : Prop := Claim7.holds Tryz.pinned (.plain (OpenSpec.upto fnRecordSpec)) fnRecordUptoCard
end Rows
end Go.Proofs.YtopkjoalbinljaaGreatDoor
