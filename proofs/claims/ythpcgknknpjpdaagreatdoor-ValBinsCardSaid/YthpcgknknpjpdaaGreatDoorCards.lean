/-
  DERIVED. GIVEN WITH THE SEED: THE CARDS: each row of YthpcgknknpjpdaaGreatDoorRows.lean that lists a variable, with what it lists TIED to the program's text (the seventh form; the later family's looks); each row that meets fmt, with fmt's text TOLD by the authors' own Lean function (tested against real Go, not proved from fmt's source: count such statements apart). THE CARD IS WHAT COUNTS. Prove the row's statement (the work); the ties are given (YthpcgknknpjpdaaGreatDoorTie.lean); close each card by the builder's one call (the guide's Derived/Test/ToyasCard.lean, 'card_holds'). Laid BY PROGRAM, IN A SANDBOX (cutbox-door.mjs). By AI agents, Wed Nov 11 2026. No macro, syntax, notation, axiom, sorry.
-/
import Derived.Test.YthpcgknknpjpdaaGreatDoorRows
import GoSem.ClaimSeven
namespace Go.Proofs.YthpcgknknpjpdaaGreatDoor
namespace Rows

/-- THE TIED CARD OF 'quirelaw13.ValMakes'. -/
def valMakesCard : Claim7 := { stood := { row := valMakesRow, standIns := [], harness := (true, "cbe374e789a5330b0b1d11168c2fdd9b4358b9a82c118f1efc8c271b06ec4455"), looks := false }, kinds := [], alts := [], laidByText := true, laidKinds := [.data, .pinned], laidTests := true, laidLooks := .later }
def ValMakesCardSaid : Prop := Claim7.holds Tryz.pinned (.plain (OpenSpec.ofChange valMakesSpec)) valMakesCard

/-- THE TIED CARD OF 'quirelaw13.ValOrder'. -/
def valOrderCard : Claim7 := { stood := { row := valOrderRow, standIns := [], harness := (true, "cbe374e789a5330b0b1d11168c2fdd9b4358b9a82c118f1efc8c271b06ec4455"), looks := false }, kinds := [], alts := [], laidByText := true, laidKinds := [.data, .pinned], laidTests := true, laidLooks := .later }
def ValOrderCardSaid : Prop := Claim7.holds Tryz.pinned (.plain (OpenSpec.ofChange valOrderSpec)) valOrderCard

/-- THE TIED CARD OF 'quirelaw13.ValBack'. -/
def valBackCard : Claim7 := { stood := { row := valBackRow, standIns := [], harness := (true, "cbe374e789a5330b0b1d11168c2fdd9b4358b9a82c118f1efc8c271b06ec4455"), looks := false }, kinds := [], alts := [], laidByText := true, laidKinds := [.data, .pinned], laidTests := true, laidLooks := .later }
def ValBackCardSaid : Prop := Claim7.holds Tryz.pinned (.plain (OpenSpec.ofChange valBackSpec)) valBackCard

/-- THE TIED CARD OF 'quirelaw13.ValBins'. -/
def valBinsCard : Claim7 := { stood := { row := valBinsRow, standIns := [], harness := (true, "cbe374e789a5330b0b1d11168c2fdd9b4358b9a82c118f1efc8c271b06ec4455"), looks := false }, kinds := [], alts := [], laidByText := true, laidKinds := [.data, .pinned], laidTests := true, laidLooks := .later }
def ValBinsCardSaid : Prop := Claim7.holds Tryz.pinned (.plain (OpenSpec.ofChange valBinsSpec)) valBinsCard

/-- THE TIED CARD OF 'quirelaw13.ValTurns'. -/
def valTurnsCard : Claim7 := { stood := { row := valTurnsRow, standIns := [], harness := (true, "cbe374e789a5330b0b1d11168c2fdd9b4358b9a82c118f1efc8c271b06ec4455"), looks := false }, kinds := [], alts := [], laidByText := true, laidKinds := [.data, .pinned], laidTests := true, laidLooks := .later }
def ValTurnsCardSaid : Prop := Claim7.holds Tryz.pinned (.plain (OpenSpec.ofChange valTurnsSpec)) valTurnsCard

/-- THE TIED CARD OF 'quirelaw13.ValRight'. -/
def valRightCard : Claim7 := { stood := { row := valRightRow, standIns := [], harness := (true, "cbe374e789a5330b0b1d11168c2fdd9b4358b9a82c118f1efc8c271b06ec4455"), looks := false }, kinds := [], alts := [], laidByText := true, laidKinds := [.data, .pinned], laidTests := true, laidLooks := .later }
def ValRightCardSaid : Prop := Claim7.holds Tryz.pinned (.plain (OpenSpec.ofChange valRightSpec)) valRightCard

/-- THE SECOND FORM's CARD OF 'quirelaw13.ValMakes'. -/
def valMakesUptoCard : Claim7 := { stood := { row := valMakesUptoRow, standIns := [], harness := (true, "cbe374e789a5330b0b1d11168c2fdd9b4358b9a82c118f1efc8c271b06ec4455"), looks := false }, kinds := [], alts := [], laidByText := true, laidKinds := [.data, .pinned], laidTests := true, laidLooks := .later }
def ValMakesUptoCardSaid : Prop := Claim7.holds Tryz.pinned (.plain (OpenSpec.upto valMakesSpec)) valMakesUptoCard

/-- THE SECOND FORM's CARD OF 'quirelaw13.ValOrder'. -/
def valOrderUptoCard : Claim7 := { stood := { row := valOrderUptoRow, standIns := [], harness := (true, "cbe374e789a5330b0b1d11168c2fdd9b4358b9a82c118f1efc8c271b06ec4455"), looks := false }, kinds := [], alts := [], laidByText := true, laidKinds := [.data, .pinned], laidTests := true, laidLooks := .later }
def ValOrderUptoCardSaid : Prop := Claim7.holds Tryz.pinned (.plain (OpenSpec.upto valOrderSpec)) valOrderUptoCard

/-- THE SECOND FORM's CARD OF 'quirelaw13.ValBack'. -/
def valBackUptoCard : Claim7 := { stood := { row := valBackUptoRow, standIns := [], harness := (true, "cbe374e789a5330b0b1d11168c2fdd9b4358b9a82c118f1efc8c271b06ec4455"), looks := false }, kinds := [], alts := [], laidByText := true, laidKinds := [.data, .pinned], laidTests := true, laidLooks := .later }
def ValBackUptoCardSaid : Prop := Claim7.holds Tryz.pinned (.plain (OpenSpec.upto valBackSpec)) valBackUptoCard

/-- THE SECOND FORM's CARD OF 'quirelaw13.ValBins'. -/
def valBinsUptoCard : Claim7 := { stood := { row := valBinsUptoRow, standIns := [], harness := (true, "cbe374e789a5330b0b1d11168c2fdd9b4358b9a82c118f1efc8c271b06ec4455"), looks := false }, kinds := [], alts := [], laidByText := true, laidKinds := [.data, .pinned], laidTests := true, laidLooks := .later }
def ValBinsUptoCardSaid : Prop := Claim7.holds Tryz.pinned (.plain (OpenSpec.upto valBinsSpec)) valBinsUptoCard

/-- THE SECOND FORM's CARD OF 'quirelaw13.ValTurns'. -/
def valTurnsUptoCard : Claim7 := { stood := { row := valTurnsUptoRow, standIns := [], harness := (true, "cbe374e789a5330b0b1d11168c2fdd9b4358b9a82c118f1efc8c271b06ec4455"), looks := false }, kinds := [], alts := [], laidByText := true, laidKinds := [.data, .pinned], laidTests := true, laidLooks := .later }
def ValTurnsUptoCardSaid : Prop := Claim7.holds Tryz.pinned (.plain (OpenSpec.upto valTurnsSpec)) valTurnsUptoCard

/-- THE SECOND FORM's CARD OF 'quirelaw13.ValRight'. -/
def valRightUptoCard : Claim7 := { stood := { row := valRightUptoRow, standIns := [], harness := (true, "cbe374e789a5330b0b1d11168c2fdd9b4358b9a82c118f1efc8c271b06ec4455"), looks := false }, kinds := [], alts := [], laidByText := true, laidKinds := [.data, .pinned], laidTests := true, laidLooks := .later }
def ValRightUptoCardSaid : Prop := Claim7.holds Tryz.pinned (.plain (OpenSpec.upto valRightSpec)) valRightUptoCard
end Rows
end Go.Proofs.YthpcgknknpjpdaaGreatDoor
