/-
  DERIVED. GIVEN WITH THE SEED: THE CARDS: each row of YtbhgcfhbhjcjhaaGreatDoorRows.lean that lists a variable, with what it lists TIED to the program's text (the seventh form; the later family's looks); each row that meets fmt, with fmt's text TOLD by the authors' own Lean function (tested against real Go, not proved from fmt's source: count such statements apart). THE CARD IS WHAT COUNTS. Prove the row's statement (the work); the ties are given (YtbhgcfhbhjcjhaaGreatDoorTie.lean); close each card by the builder's one call (the guide's Derived/Test/ToyasCard.lean, 'card_holds'). Laid BY PROGRAM, IN A SANDBOX (cutbox-door.mjs). By AI agents, Wed Nov 11 2026. No macro, syntax, notation, axiom, sorry.
-/
import Derived.Test.YtbhgcfhbhjcjhaaGreatDoorRows
import GoSem.ClaimSeven
namespace Go.Proofs.YtbhgcfhbhjcjhaaGreatDoor
namespace Rows

/-- THE TIED CARD OF 'laws.FnGone'. -/
def fnGoneCard : Claim7 := { stood := { row := fnGoneRow, standIns := [], harness := (true, "4c5f96e1738353efa4c85bb87882556f4118195560bdd319dc272fd52cac6e0b"), looks := true }, kinds := [], alts := [], laidByText := true, laidKinds := [.data, .data, .data, .data, .sentinel, .sentinel, .pinned], laidTests := true, laidLooks := .later }
def FnGoneCardSaid : Prop := Claim7.holds Tryz.pinned (.plain (OpenSpec.ofChange fnGoneSpec)) fnGoneCard

/-- THE TIED CARD OF 'laws.FnAnswers'. -/
def fnAnswersCard : Claim7 := { stood := { row := fnAnswersRow, standIns := [], harness := (true, "4c5f96e1738353efa4c85bb87882556f4118195560bdd319dc272fd52cac6e0b"), looks := true }, kinds := [], alts := [], laidByText := true, laidKinds := [.data, .data, .data, .data, .sentinel, .sentinel, .pinned], laidTests := true, laidLooks := .later }
def FnAnswersCardSaid : Prop := Claim7.holds Tryz.pinned (.plain (OpenSpec.ofChange fnAnswersSpec)) fnAnswersCard

/-- THE TIED CARD OF 'laws.FnExact'. -/
def fnExactCard : Claim7 := { stood := { row := fnExactRow, standIns := [], harness := (true, "4c5f96e1738353efa4c85bb87882556f4118195560bdd319dc272fd52cac6e0b"), looks := true }, kinds := [], alts := [], laidByText := true, laidKinds := [.data, .data, .data, .data, .sentinel, .sentinel, .pinned], laidTests := true, laidLooks := .later }
def FnExactCardSaid : Prop := Claim7.holds Tryz.pinned (.plain (OpenSpec.ofChange fnExactSpec)) fnExactCard

/-- THE TIED CARD OF 'laws.FnAtomic'. -/
def fnAtomicCard : Claim7 := { stood := { row := fnAtomicRow, standIns := [], harness := (true, "4c5f96e1738353efa4c85bb87882556f4118195560bdd319dc272fd52cac6e0b"), looks := true }, kinds := [], alts := [], laidByText := true, laidKinds := [.data, .data, .data, .data, .sentinel, .sentinel, .pinned], laidTests := true, laidLooks := .later }
def FnAtomicCardSaid : Prop := Claim7.holds Tryz.pinned (.plain (OpenSpec.ofChange fnAtomicSpec)) fnAtomicCard

/-- THE SECOND FORM's CARD OF 'laws.FnGone'. -/
def fnGoneUptoCard : Claim7 := { stood := { row := fnGoneUptoRow, standIns := [], harness := (true, "4c5f96e1738353efa4c85bb87882556f4118195560bdd319dc272fd52cac6e0b"), looks := true }, kinds := [], alts := [], laidByText := true, laidKinds := [.data, .data, .data, .data, .sentinel, .sentinel, .pinned], laidTests := true, laidLooks := .later }
def FnGoneUptoCardSaid : Prop := Claim7.holds Tryz.pinned (.plain (OpenSpec.upto fnGoneSpec)) fnGoneUptoCard

/-- THE SECOND FORM's CARD OF 'laws.FnAnswers'. -/
def fnAnswersUptoCard : Claim7 := { stood := { row := fnAnswersUptoRow, standIns := [], harness := (true, "4c5f96e1738353efa4c85bb87882556f4118195560bdd319dc272fd52cac6e0b"), looks := true }, kinds := [], alts := [], laidByText := true, laidKinds := [.data, .data, .data, .data, .sentinel, .sentinel, .pinned], laidTests := true, laidLooks := .later }
def FnAnswersUptoCardSaid : Prop := Claim7.holds Tryz.pinned (.plain (OpenSpec.upto fnAnswersSpec)) fnAnswersUptoCard

/-- THE SECOND FORM's CARD OF 'laws.FnExact'. -/
def fnExactUptoCard : Claim7 := { stood := { row := fnExactUptoRow, standIns := [], harness := (true, "4c5f96e1738353efa4c85bb87882556f4118195560bdd319dc272fd52cac6e0b"), looks := true }, kinds := [], alts := [], laidByText := true, laidKinds := [.data, .data, .data, .data, .sentinel, .sentinel, .pinned], laidTests := true, laidLooks := .later }
def FnExactUptoCardSaid : Prop := Claim7.holds Tryz.pinned (.plain (OpenSpec.upto fnExactSpec)) fnExactUptoCard

/-- THE SECOND FORM's CARD OF 'laws.FnAtomic'. -/
def fnAtomicUptoCard : Claim7 := { stood := { row := fnAtomicUptoRow, standIns := [], harness := (true, "4c5f96e1738353efa4c85bb87882556f4118195560bdd319dc272fd52cac6e0b"), looks := true }, kinds := [], alts := [], laidByText := true, laidKinds := [.data, .data, .data, .data, .sentinel, .sentinel, .pinned], laidTests := true, laidLooks := .later }
def FnAtomicUptoCardSaid : Prop := Claim7.holds Tryz.pinned (.plain (OpenSpec.upto fnAtomicSpec)) fnAtomicUptoCard
end Rows
end Go.Proofs.YtbhgcfhbhjcjhaaGreatDoor
