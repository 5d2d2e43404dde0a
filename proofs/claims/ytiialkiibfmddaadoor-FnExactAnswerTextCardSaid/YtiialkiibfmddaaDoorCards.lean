/-
  DERIVED. GIVEN WITH THE SEED: THE CARDS: each row of YtiialkiibfmddaaDoorRows.lean that lists a variable, with what it lists TIED to the program's text (the seventh form; the later family's looks); each row that meets fmt, with fmt's text TOLD by the authors' own Lean function (tested against real Go, not proved from fmt's source: count such statements apart). THE CARD IS WHAT COUNTS. Prove the row's statement (the work); the ties are given (YtiialkiibfmddaaDoorTie.lean); close each card by the builder's one call (the guide's Derived/Test/ToyasCard.lean, 'card_holds'). Laid BY PROGRAM, IN A SANDBOX (cutbox-door.mjs). By AI agents, Wed Nov 11 2026. No macro, syntax, notation, axiom, sorry.
-/
import Derived.Test.YtiialkiibfmddaaDoorRows
import GoSem.ClaimSeven
namespace Go.Proofs.YtiialkiibfmddaaDoor
namespace Rows

/-- THE TIED CARD OF 'laws.FnExactLeaseText'. -/
def fnExactLeaseTextCard : Claim7 := { stood := { row := fnExactLeaseTextRow, standIns := [], harness := (true, "39a55f4434ca65a1f5654763e049b26818cfac901f4a4e3193613a91a17405f8"), looks := true }, kinds := [], alts := [], laidByText := true, laidKinds := [.data, .data, .data], laidTests := true, laidLooks := .later }
def FnExactLeaseTextCardSaid : Prop := Claim7.holds Tryd.pinned (.plain (OpenSpec.ofChange fnExactLeaseTextSpec)) fnExactLeaseTextCard

/-- THE TIED CARD OF 'laws.FnExactAggText'. -/
def fnExactAggTextCard : Claim7 := { stood := { row := fnExactAggTextRow, standIns := [], harness := (true, "39a55f4434ca65a1f5654763e049b26818cfac901f4a4e3193613a91a17405f8"), looks := true }, kinds := [], alts := [], laidByText := true, laidKinds := [.data, .data, .data], laidTests := true, laidLooks := .later }
def FnExactAggTextCardSaid : Prop := Claim7.holds Tryd.pinned (.plain (OpenSpec.ofChange fnExactAggTextSpec)) fnExactAggTextCard

/-- THE TIED CARD OF 'laws.FnExactAnswerText'. -/
def fnExactAnswerTextCard : Claim7 := { stood := { row := fnExactAnswerTextRow, standIns := [], harness := (true, "39a55f4434ca65a1f5654763e049b26818cfac901f4a4e3193613a91a17405f8"), looks := true }, kinds := [], alts := [], laidByText := true, laidKinds := [.data, .data, .data], laidTests := true, laidLooks := .later }
def FnExactAnswerTextCardSaid : Prop := Claim7.holds Tryd.pinned (.plain (OpenSpec.ofChange fnExactAnswerTextSpec)) fnExactAnswerTextCard

/-- THE SECOND FORM's CARD OF 'laws.FnExactLeaseText'. -/
def fnExactLeaseTextUptoCard : Claim7 := { stood := { row := fnExactLeaseTextUptoRow, standIns := [], harness := (true, "39a55f4434ca65a1f5654763e049b26818cfac901f4a4e3193613a91a17405f8"), looks := true }, kinds := [], alts := [], laidByText := true, laidKinds := [.data, .data, .data], laidTests := true, laidLooks := .later }
def FnExactLeaseTextUptoCardSaid : Prop := Claim7.holds Tryd.pinned (.plain (OpenSpec.upto fnExactLeaseTextSpec)) fnExactLeaseTextUptoCard

/-- THE SECOND FORM's CARD OF 'laws.FnExactAggText'. -/
def fnExactAggTextUptoCard : Claim7 := { stood := { row := fnExactAggTextUptoRow, standIns := [], harness := (true, "39a55f4434ca65a1f5654763e049b26818cfac901f4a4e3193613a91a17405f8"), looks := true }, kinds := [], alts := [], laidByText := true, laidKinds := [.data, .data, .data], laidTests := true, laidLooks := .later }
def FnExactAggTextUptoCardSaid : Prop := Claim7.holds Tryd.pinned (.plain (OpenSpec.upto fnExactAggTextSpec)) fnExactAggTextUptoCard

/-- THE SECOND FORM's CARD OF 'laws.FnExactAnswerText'. -/
def fnExactAnswerTextUptoCard : Claim7 := { stood := { row := fnExactAnswerTextUptoRow, standIns := [], harness := (true, "39a55f4434ca65a1f5654763e049b26818cfac901f4a4e3193613a91a17405f8"), looks := true }, kinds := [], alts := [], laidByText := true, laidKinds := [.data, .data, .data], laidTests := true, laidLooks := .later }
def FnExactAnswerTextUptoCardSaid : Prop := Claim7.holds Tryd.pinned (.plain (OpenSpec.upto fnExactAnswerTextSpec)) fnExactAnswerTextUptoCard
end Rows
end Go.Proofs.YtiialkiibfmddaaDoor
