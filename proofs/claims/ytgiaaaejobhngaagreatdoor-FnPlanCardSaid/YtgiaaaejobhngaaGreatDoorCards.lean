/-
  DERIVED. GIVEN WITH THE SEED: THE CARDS: each row of YtgiaaaejobhngaaGreatDoorRows.lean that lists a variable, with what it lists TIED to the program's text (the seventh form; the later family's looks); each row that meets fmt, with fmt's text TOLD by the authors' own Lean function (tested against real Go, not proved from fmt's source: count such statements apart). THE CARD IS WHAT COUNTS. Prove the row's statement (the work); the ties are given (YtgiaaaejobhngaaGreatDoorTie.lean); close each card by the builder's one call (the guide's Derived/Test/ToyasCard.lean, 'card_holds'). Laid BY PROGRAM, IN A SANDBOX (cutbox-door.mjs). By AI agents, Wed Nov 11 2026. No macro, syntax, notation, axiom, sorry.
-/
import Derived.Test.YtgiaaaejobhngaaGreatDoorRows
import GoSem.ClaimSeven
namespace Go.Proofs.YtgiaaaejobhngaaGreatDoor
namespace Rows

/-- THE TIED CARD OF 'laws.FnLease'. -/
def fnLeaseCard : Claim7 := { stood := { row := fnLeaseRow, standIns := [], harness := (true, "31a3ccd894be24ed342a439095584476d915f7fd3fdb1d8005a39aa6892a8d07"), looks := true }, kinds := [], alts := [], laidByText := true, laidKinds := [.data, .data, .data, .data, .sentinel, .sentinel, .pinned], laidTests := true, laidLooks := .later }
def FnLeaseCardSaid : Prop := Claim7.holds Tryz.pinned (.plain (OpenSpec.ofChange fnLeaseSpec)) fnLeaseCard

/-- THE TIED CARD OF 'laws.FnRenew'. -/
def fnRenewCard : Claim7 := { stood := { row := fnRenewRow, standIns := [], harness := (true, "31a3ccd894be24ed342a439095584476d915f7fd3fdb1d8005a39aa6892a8d07"), looks := true }, kinds := [], alts := [], laidByText := true, laidKinds := [.data, .data, .data, .data, .sentinel, .sentinel, .pinned], laidTests := true, laidLooks := .later }
def FnRenewCardSaid : Prop := Claim7.holds Tryz.pinned (.plain (OpenSpec.ofChange fnRenewSpec)) fnRenewCard

/-- THE TIED CARD OF 'laws.FnExactTokensRise'. -/
def fnExactTokensRiseCard : Claim7 := { stood := { row := fnExactTokensRiseRow, standIns := [], harness := (true, "31a3ccd894be24ed342a439095584476d915f7fd3fdb1d8005a39aa6892a8d07"), looks := true }, kinds := [], alts := [], laidByText := true, laidKinds := [.data, .data, .data, .data, .sentinel, .sentinel, .pinned], laidTests := true, laidLooks := .later }
def FnExactTokensRiseCardSaid : Prop := Claim7.holds Tryz.pinned (.plain (OpenSpec.ofChange fnExactTokensRiseSpec)) fnExactTokensRiseCard

/-- THE TIED CARD OF 'laws.FnExactReplayLog'. -/
def fnExactReplayLogCard : Claim7 := { stood := { row := fnExactReplayLogRow, standIns := [], harness := (true, "31a3ccd894be24ed342a439095584476d915f7fd3fdb1d8005a39aa6892a8d07"), looks := true }, kinds := [], alts := [], laidByText := true, laidKinds := [.data, .data, .data, .data, .sentinel, .sentinel, .pinned], laidTests := true, laidLooks := .later }
def FnExactReplayLogCardSaid : Prop := Claim7.holds Tryz.pinned (.plain (OpenSpec.ofChange fnExactReplayLogSpec)) fnExactReplayLogCard

/-- THE TIED CARD OF 'laws.FnExactSweepTombs'. -/
def fnExactSweepTombsCard : Claim7 := { stood := { row := fnExactSweepTombsRow, standIns := [], harness := (true, "31a3ccd894be24ed342a439095584476d915f7fd3fdb1d8005a39aa6892a8d07"), looks := true }, kinds := [], alts := [], laidByText := true, laidKinds := [.data, .data, .data, .data, .sentinel, .sentinel, .pinned], laidTests := true, laidLooks := .later }
def FnExactSweepTombsCardSaid : Prop := Claim7.holds Tryz.pinned (.plain (OpenSpec.ofChange fnExactSweepTombsSpec)) fnExactSweepTombsCard

/-- THE TIED CARD OF 'laws.FnExactSweepOrphans'. -/
def fnExactSweepOrphansCard : Claim7 := { stood := { row := fnExactSweepOrphansRow, standIns := [], harness := (true, "31a3ccd894be24ed342a439095584476d915f7fd3fdb1d8005a39aa6892a8d07"), looks := true }, kinds := [], alts := [], laidByText := true, laidKinds := [.data, .data, .data, .data, .sentinel, .sentinel, .pinned], laidTests := true, laidLooks := .later }
def FnExactSweepOrphansCardSaid : Prop := Claim7.holds Tryz.pinned (.plain (OpenSpec.ofChange fnExactSweepOrphansSpec)) fnExactSweepOrphansCard

/-- THE TIED CARD OF 'laws.FnRecord'. -/
def fnRecordCard : Claim7 := { stood := { row := fnRecordRow, standIns := [], harness := (true, "31a3ccd894be24ed342a439095584476d915f7fd3fdb1d8005a39aa6892a8d07"), looks := true }, kinds := [], alts := [], laidByText := true, laidKinds := [.data, .data, .data, .data, .sentinel, .sentinel, .pinned], laidTests := true, laidLooks := .later }
def FnRecordCardSaid : Prop := Claim7.holds Tryz.pinned (.plain (OpenSpec.ofChange fnRecordSpec)) fnRecordCard

/-- THE TIED CARD OF 'laws.FnApply'. -/
def fnApplyCard : Claim7 := { stood := { row := fnApplyRow, standIns := [], harness := (true, "31a3ccd894be24ed342a439095584476d915f7fd3fdb1d8005a39aa6892a8d07"), looks := true }, kinds := [], alts := [], laidByText := true, laidKinds := [.data, .data, .data, .sentinel, .sentinel], laidTests := true, laidLooks := .later }
def FnApplyCardSaid : Prop := Claim7.holds Tryz.pinned (.plain (OpenSpec.ofChange fnApplySpec)) fnApplyCard

/-- THE TIED CARD OF 'laws.FnPlan'. -/
def fnPlanCard : Claim7 := { stood := { row := fnPlanRow, standIns := [], harness := (true, "31a3ccd894be24ed342a439095584476d915f7fd3fdb1d8005a39aa6892a8d07"), looks := true }, kinds := [], alts := [], laidByText := true, laidKinds := [.data, .data, .data, .sentinel, .sentinel], laidTests := true, laidLooks := .later }
def FnPlanCardSaid : Prop := Claim7.holds Tryz.pinned (.plain (OpenSpec.ofChange fnPlanSpec)) fnPlanCard

/-- THE SECOND FORM's CARD OF 'laws.FnLease'. -/
def fnLeaseUptoCard : Claim7 := { stood := { row := fnLeaseUptoRow, standIns := [], harness := (true, "31a3ccd894be24ed342a439095584476d915f7fd3fdb1d8005a39aa6892a8d07"), looks := true }, kinds := [], alts := [], laidByText := true, laidKinds := [.data, .data, .data, .data, .sentinel, .sentinel, .pinned], laidTests := true, laidLooks := .later }
def FnLeaseUptoCardSaid : Prop := Claim7.holds Tryz.pinned (.plain (OpenSpec.upto fnLeaseSpec)) fnLeaseUptoCard

/-- THE SECOND FORM's CARD OF 'laws.FnRenew'. -/
def fnRenewUptoCard : Claim7 := { stood := { row := fnRenewUptoRow, standIns := [], harness := (true, "31a3ccd894be24ed342a439095584476d915f7fd3fdb1d8005a39aa6892a8d07"), looks := true }, kinds := [], alts := [], laidByText := true, laidKinds := [.data, .data, .data, .data, .sentinel, .sentinel, .pinned], laidTests := true, laidLooks := .later }
def FnRenewUptoCardSaid : Prop := Claim7.holds Tryz.pinned (.plain (OpenSpec.upto fnRenewSpec)) fnRenewUptoCard

/-- THE SECOND FORM's CARD OF 'laws.FnExactTokensRise'. -/
def fnExactTokensRiseUptoCard : Claim7 := { stood := { row := fnExactTokensRiseUptoRow, standIns := [], harness := (true, "31a3ccd894be24ed342a439095584476d915f7fd3fdb1d8005a39aa6892a8d07"), looks := true }, kinds := [], alts := [], laidByText := true, laidKinds := [.data, .data, .data, .data, .sentinel, .sentinel, .pinned], laidTests := true, laidLooks := .later }
def FnExactTokensRiseUptoCardSaid : Prop := Claim7.holds Tryz.pinned (.plain (OpenSpec.upto fnExactTokensRiseSpec)) fnExactTokensRiseUptoCard

/-- THE SECOND FORM's CARD OF 'laws.FnExactReplayLog'. -/
def fnExactReplayLogUptoCard : Claim7 := { stood := { row := fnExactReplayLogUptoRow, standIns := [], harness := (true, "31a3ccd894be24ed342a439095584476d915f7fd3fdb1d8005a39aa6892a8d07"), looks := true }, kinds := [], alts := [], laidByText := true, laidKinds := [.data, .data, .data, .data, .sentinel, .sentinel, .pinned], laidTests := true, laidLooks := .later }
def FnExactReplayLogUptoCardSaid : Prop := Claim7.holds Tryz.pinned (.plain (OpenSpec.upto fnExactReplayLogSpec)) fnExactReplayLogUptoCard

/-- THE SECOND FORM's CARD OF 'laws.FnExactSweepTombs'. -/
def fnExactSweepTombsUptoCard : Claim7 := { stood := { row := fnExactSweepTombsUptoRow, standIns := [], harness := (true, "31a3ccd894be24ed342a439095584476d915f7fd3fdb1d8005a39aa6892a8d07"), looks := true }, kinds := [], alts := [], laidByText := true, laidKinds := [.data, .data, .data, .data, .sentinel, .sentinel, .pinned], laidTests := true, laidLooks := .later }
def FnExactSweepTombsUptoCardSaid : Prop := Claim7.holds Tryz.pinned (.plain (OpenSpec.upto fnExactSweepTombsSpec)) fnExactSweepTombsUptoCard

/-- THE SECOND FORM's CARD OF 'laws.FnExactSweepOrphans'. -/
def fnExactSweepOrphansUptoCard : Claim7 := { stood := { row := fnExactSweepOrphansUptoRow, standIns := [], harness := (true, "31a3ccd894be24ed342a439095584476d915f7fd3fdb1d8005a39aa6892a8d07"), looks := true }, kinds := [], alts := [], laidByText := true, laidKinds := [.data, .data, .data, .data, .sentinel, .sentinel, .pinned], laidTests := true, laidLooks := .later }
def FnExactSweepOrphansUptoCardSaid : Prop := Claim7.holds Tryz.pinned (.plain (OpenSpec.upto fnExactSweepOrphansSpec)) fnExactSweepOrphansUptoCard

/-- THE SECOND FORM's CARD OF 'laws.FnRecord'. -/
def fnRecordUptoCard : Claim7 := { stood := { row := fnRecordUptoRow, standIns := [], harness := (true, "31a3ccd894be24ed342a439095584476d915f7fd3fdb1d8005a39aa6892a8d07"), looks := true }, kinds := [], alts := [], laidByText := true, laidKinds := [.data, .data, .data, .data, .sentinel, .sentinel, .pinned], laidTests := true, laidLooks := .later }
def FnRecordUptoCardSaid : Prop := Claim7.holds Tryz.pinned (.plain (OpenSpec.upto fnRecordSpec)) fnRecordUptoCard

/-- THE SECOND FORM's CARD OF 'laws.FnApply'. -/
def fnApplyUptoCard : Claim7 := { stood := { row := fnApplyUptoRow, standIns := [], harness := (true, "31a3ccd894be24ed342a439095584476d915f7fd3fdb1d8005a39aa6892a8d07"), looks := true }, kinds := [], alts := [], laidByText := true, laidKinds := [.data, .data, .data, .sentinel, .sentinel], laidTests := true, laidLooks := .later }
def FnApplyUptoCardSaid : Prop := Claim7.holds Tryz.pinned (.plain (OpenSpec.upto fnApplySpec)) fnApplyUptoCard

/-- THE SECOND FORM's CARD OF 'laws.FnPlan'. -/
def fnPlanUptoCard : Claim7 := { stood := { row := fnPlanUptoRow, standIns := [], harness := (true, "31a3ccd894be24ed342a439095584476d915f7fd3fdb1d8005a39aa6892a8d07"), looks := true }, kinds := [], alts := [], laidByText := true, laidKinds := [.data, .data, .data, .sentinel, .sentinel], laidTests := true, laidLooks := .later }
def FnPlanUptoCardSaid : Prop := Claim7.holds Tryz.pinned (.plain (OpenSpec.upto fnPlanSpec)) fnPlanUptoCard
end Rows
end Go.Proofs.YtgiaaaejobhngaaGreatDoor
