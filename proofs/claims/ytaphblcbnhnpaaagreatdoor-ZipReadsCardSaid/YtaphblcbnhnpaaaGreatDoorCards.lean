/-
  DERIVED. GIVEN WITH THE SEED: THE CARDS: each row of YtaphblcbnhnpaaaGreatDoorRows.lean that lists a variable, with what it lists TIED to the program's text (the seventh form; the later family's looks); each row that meets fmt, with fmt's text TOLD by the authors' own Lean function (tested against real Go, not proved from fmt's source: count such statements apart). THE CARD IS WHAT COUNTS. Prove the row's statement (the work); the ties are given (YtaphblcbnhnpaaaGreatDoorTie.lean); close each card by the builder's one call (the guide's Derived/Test/ToyasCard.lean, 'card_holds'). Laid BY PROGRAM, IN A SANDBOX (cutbox-door.mjs). By AI agents, Wed Nov 11 2026. No macro, syntax, notation, axiom, sorry.
-/
import Derived.Test.YtaphblcbnhnpaaaGreatDoorRows
import GoSem.ClaimSeven
namespace Go.Proofs.YtaphblcbnhnpaaaGreatDoor
namespace Rows

/-- THE TIED CARD OF 'quirelaw05.ZipWrites'. -/
def zipWritesCard : Claim7 := { stood := { row := zipWritesRow, standIns := [], harness := (true, "1b044c1b5bf8a95e1ce021de18bb8b75c83c42cc2804de981a13241547adcc32"), looks := true }, kinds := [], alts := [], laidByText := true, laidKinds := [.data, .data, .data, .pinned, .pinned], laidTests := true, laidLooks := .later }
def ZipWritesCardSaid : Prop := Claim7.holds Tryz.pinned (.plain (OpenSpec.ofChange zipWritesSpec)) zipWritesCard

/-- THE TIED CARD OF 'quirelaw05.ZipBack'. -/
def zipBackCard : Claim7 := { stood := { row := zipBackRow, standIns := [], harness := (true, "1b044c1b5bf8a95e1ce021de18bb8b75c83c42cc2804de981a13241547adcc32"), looks := true }, kinds := [], alts := [], laidByText := true, laidKinds := [.data, .data, .data, .pinned, .pinned], laidTests := true, laidLooks := .later }
def ZipBackCardSaid : Prop := Claim7.holds Tryz.pinned (.plain (OpenSpec.ofChange zipBackSpec)) zipBackCard

/-- THE TIED CARD OF 'quirelaw05.ZipTurned'. -/
def zipTurnedCard : Claim7 := { stood := { row := zipTurnedRow, standIns := [], harness := (true, "1b044c1b5bf8a95e1ce021de18bb8b75c83c42cc2804de981a13241547adcc32"), looks := true }, kinds := [], alts := [], laidByText := true, laidKinds := [.data, .data, .data, .pinned, .pinned], laidTests := true, laidLooks := .later }
def ZipTurnedCardSaid : Prop := Claim7.holds Tryz.pinned (.plain (OpenSpec.ofChange zipTurnedSpec)) zipTurnedCard

/-- THE TIED CARD OF 'quirelaw05.ZipNames'. -/
def zipNamesCard : Claim7 := { stood := { row := zipNamesRow, standIns := [], harness := (true, "1b044c1b5bf8a95e1ce021de18bb8b75c83c42cc2804de981a13241547adcc32"), looks := true }, kinds := [], alts := [], laidByText := true, laidKinds := [.data, .data, .data, .pinned, .pinned], laidTests := true, laidLooks := .later }
def ZipNamesCardSaid : Prop := Claim7.holds Tryz.pinned (.plain (OpenSpec.ofChange zipNamesSpec)) zipNamesCard

/-- THE TIED CARD OF 'quirelaw05.ZipReads'. -/
def zipReadsCard : Claim7 := { stood := { row := zipReadsRow, standIns := [], harness := (true, "1b044c1b5bf8a95e1ce021de18bb8b75c83c42cc2804de981a13241547adcc32"), looks := true }, kinds := [], alts := [], laidByText := true, laidKinds := [.data, .data, .data, .pinned, .pinned], laidTests := true, laidLooks := .later }
def ZipReadsCardSaid : Prop := Claim7.holds Tryz.pinned (.plain (OpenSpec.ofChange zipReadsSpec)) zipReadsCard

/-- THE SECOND FORM's CARD OF 'quirelaw05.ZipWrites'. -/
def zipWritesUptoCard : Claim7 := { stood := { row := zipWritesUptoRow, standIns := [], harness := (true, "1b044c1b5bf8a95e1ce021de18bb8b75c83c42cc2804de981a13241547adcc32"), looks := true }, kinds := [], alts := [], laidByText := true, laidKinds := [.data, .data, .data, .pinned, .pinned], laidTests := true, laidLooks := .later }
def ZipWritesUptoCardSaid : Prop := Claim7.holds Tryz.pinned (.plain (OpenSpec.upto zipWritesSpec)) zipWritesUptoCard

/-- THE SECOND FORM's CARD OF 'quirelaw05.ZipBack'. -/
def zipBackUptoCard : Claim7 := { stood := { row := zipBackUptoRow, standIns := [], harness := (true, "1b044c1b5bf8a95e1ce021de18bb8b75c83c42cc2804de981a13241547adcc32"), looks := true }, kinds := [], alts := [], laidByText := true, laidKinds := [.data, .data, .data, .pinned, .pinned], laidTests := true, laidLooks := .later }
def ZipBackUptoCardSaid : Prop := Claim7.holds Tryz.pinned (.plain (OpenSpec.upto zipBackSpec)) zipBackUptoCard

/-- THE SECOND FORM's CARD OF 'quirelaw05.ZipTurned'. -/
def zipTurnedUptoCard : Claim7 := { stood := { row := zipTurnedUptoRow, standIns := [], harness := (true, "1b044c1b5bf8a95e1ce021de18bb8b75c83c42cc2804de981a13241547adcc32"), looks := true }, kinds := [], alts := [], laidByText := true, laidKinds := [.data, .data, .data, .pinned, .pinned], laidTests := true, laidLooks := .later }
def ZipTurnedUptoCardSaid : Prop := Claim7.holds Tryz.pinned (.plain (OpenSpec.upto zipTurnedSpec)) zipTurnedUptoCard

/-- THE SECOND FORM's CARD OF 'quirelaw05.ZipNames'. -/
def zipNamesUptoCard : Claim7 := { stood := { row := zipNamesUptoRow, standIns := [], harness := (true, "1b044c1b5bf8a95e1ce021de18bb8b75c83c42cc2804de981a13241547adcc32"), looks := true }, kinds := [], alts := [], laidByText := true, laidKinds := [.data, .data, .data, .pinned, .pinned], laidTests := true, laidLooks := .later }
def ZipNamesUptoCardSaid : Prop := Claim7.holds Tryz.pinned (.plain (OpenSpec.upto zipNamesSpec)) zipNamesUptoCard

/-- THE SECOND FORM's CARD OF 'quirelaw05.ZipReads'. -/
def zipReadsUptoCard : Claim7 := { stood := { row := zipReadsUptoRow, standIns := [], harness := (true, "1b044c1b5bf8a95e1ce021de18bb8b75c83c42cc2804de981a13241547adcc32"), looks := true }, kinds := [], alts := [], laidByText := true, laidKinds := [.data, .data, .data, .pinned, .pinned], laidTests := true, laidLooks := .later }
def ZipReadsUptoCardSaid : Prop := Claim7.holds Tryz.pinned (.plain (OpenSpec.upto zipReadsSpec)) zipReadsUptoCard
end Rows
end Go.Proofs.YtaphblcbnhnpaaaGreatDoor
