/-
  DERIVED. GIVEN WITH THE SEED: THE CARDS: each row of YtcmmdlgjinankaaGreatDoorRows.lean that lists a variable, with what it lists TIED to the program's text (the seventh form; the later family's looks); each row that meets fmt, with fmt's text TOLD by the authors' own Lean function (tested against real Go, not proved from fmt's source: count such statements apart). THE CARD IS WHAT COUNTS. Prove the row's statement (the work); the ties are given (YtcmmdlgjinankaaGreatDoorTie.lean); close each card by the builder's one call (the guide's Derived/Test/ToyasCard.lean, 'card_holds'). Laid BY PROGRAM, IN A SANDBOX (cutbox-door.mjs). By AI agents, Wed Nov 11 2026. No macro, syntax, notation, axiom, sorry.
-/
import Derived.Test.YtcmmdlgjinankaaGreatDoorRows
import GoSem.ClaimSeven
namespace Go.Proofs.YtcmmdlgjinankaaGreatDoor
namespace Rows

/-- THE TIED CARD OF 'quirelaw14.NumfmtSigns'. -/
def numfmtSignsCard : Claim7 := { stood := { row := numfmtSignsRow, standIns := [], harness := (true, "07efa96fef3a4417b1f09178b4ee01dda3be7f756a0ffd4efbcbc5712c79862d"), looks := true }, kinds := [], alts := [], laidByText := true, laidKinds := [.data, .pinned], laidTests := true, laidLooks := .later }
def NumfmtSignsCardSaid : Prop := Claim7.holds Tryz.pinned (.plain (OpenSpec.ofChange numfmtSignsSpec)) numfmtSignsCard

/-- THE TIED CARD OF 'quirelaw14.NumfmtParses'. -/
def numfmtParsesCard : Claim7 := { stood := { row := numfmtParsesRow, standIns := [], harness := (true, "07efa96fef3a4417b1f09178b4ee01dda3be7f756a0ffd4efbcbc5712c79862d"), looks := true }, kinds := [], alts := [], laidByText := true, laidKinds := [.data, .pinned], laidTests := true, laidLooks := .later }
def NumfmtParsesCardSaid : Prop := Claim7.holds Tryz.pinned (.plain (OpenSpec.ofChange numfmtParsesSpec)) numfmtParsesCard

/-- THE SECOND FORM's CARD OF 'quirelaw14.NumfmtSigns'. -/
def numfmtSignsUptoCard : Claim7 := { stood := { row := numfmtSignsUptoRow, standIns := [], harness := (true, "07efa96fef3a4417b1f09178b4ee01dda3be7f756a0ffd4efbcbc5712c79862d"), looks := true }, kinds := [], alts := [], laidByText := true, laidKinds := [.data, .pinned], laidTests := true, laidLooks := .later }
def NumfmtSignsUptoCardSaid : Prop := Claim7.holds Tryz.pinned (.plain (OpenSpec.upto numfmtSignsSpec)) numfmtSignsUptoCard

/-- THE SECOND FORM's CARD OF 'quirelaw14.NumfmtParses'. -/
def numfmtParsesUptoCard : Claim7 := { stood := { row := numfmtParsesUptoRow, standIns := [], harness := (true, "07efa96fef3a4417b1f09178b4ee01dda3be7f756a0ffd4efbcbc5712c79862d"), looks := true }, kinds := [], alts := [], laidByText := true, laidKinds := [.data, .pinned], laidTests := true, laidLooks := .later }
def NumfmtParsesUptoCardSaid : Prop := Claim7.holds Tryz.pinned (.plain (OpenSpec.upto numfmtParsesSpec)) numfmtParsesUptoCard
end Rows
end Go.Proofs.YtcmmdlgjinankaaGreatDoor
