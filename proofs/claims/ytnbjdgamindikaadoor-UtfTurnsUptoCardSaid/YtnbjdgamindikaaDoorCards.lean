/-
  DERIVED. GIVEN WITH THE SEED: THE CARDS: each row of YtnbjdgamindikaaDoorRows.lean that lists a variable, with what it lists TIED to the program's text (the seventh form; the later family's looks); each row that meets fmt, with fmt's text TOLD by the authors' own Lean function (tested against real Go, not proved from fmt's source: count such statements apart). THE CARD IS WHAT COUNTS. Prove the row's statement (the work); the ties are given (YtnbjdgamindikaaDoorTie.lean); close each card by the builder's one call (the guide's Derived/Test/ToyasCard.lean, 'card_holds'). Laid BY PROGRAM, IN A SANDBOX (cutbox-door.mjs). By AI agents, Wed Nov 11 2026. No macro, syntax, notation, axiom, sorry.
-/
import Derived.Test.YtnbjdgamindikaaDoorRows
import GoSem.ClaimSeven
namespace Go.Proofs.YtnbjdgamindikaaDoor
namespace Rows

/-- THE TIED CARD OF 'quirelaw06.UtfTexts'. -/
def utfTextsCard : Claim7 := { stood := { row := utfTextsRow, standIns := [], harness := (true, "f37d2b5f7e65875f5cedca55255520f79b674a9d9ee1c1f6d8732cdd1452eb1e"), looks := false }, kinds := [], alts := [], laidByText := true, laidKinds := [.data, .pinned], laidTests := true, laidLooks := .later }
def UtfTextsCardSaid : Prop := Claim7.holds Tryd.pinned (.plain (OpenSpec.ofChange utfTextsSpec)) utfTextsCard

/-- THE TIED CARD OF 'quirelaw06.UtfTwice'. -/
def utfTwiceCard : Claim7 := { stood := { row := utfTwiceRow, standIns := [], harness := (true, "f37d2b5f7e65875f5cedca55255520f79b674a9d9ee1c1f6d8732cdd1452eb1e"), looks := false }, kinds := [], alts := [], laidByText := true, laidKinds := [.data, .pinned], laidTests := true, laidLooks := .later }
def UtfTwiceCardSaid : Prop := Claim7.holds Tryd.pinned (.plain (OpenSpec.ofChange utfTwiceSpec)) utfTwiceCard

/-- THE TIED CARD OF 'quirelaw06.UtfTurns'. -/
def utfTurnsCard : Claim7 := { stood := { row := utfTurnsRow, standIns := [], harness := (true, "f37d2b5f7e65875f5cedca55255520f79b674a9d9ee1c1f6d8732cdd1452eb1e"), looks := false }, kinds := [], alts := [], laidByText := true, laidKinds := [.data, .pinned], laidTests := true, laidLooks := .later }
def UtfTurnsCardSaid : Prop := Claim7.holds Tryd.pinned (.plain (OpenSpec.ofChange utfTurnsSpec)) utfTurnsCard

/-- THE TIED CARD OF 'quirelaw06.UtfCuts'. -/
def utfCutsCard : Claim7 := { stood := { row := utfCutsRow, standIns := [], harness := (true, "f37d2b5f7e65875f5cedca55255520f79b674a9d9ee1c1f6d8732cdd1452eb1e"), looks := false }, kinds := [], alts := [], laidByText := true, laidKinds := [.data, .pinned], laidTests := true, laidLooks := .later }
def UtfCutsCardSaid : Prop := Claim7.holds Tryd.pinned (.plain (OpenSpec.ofChange utfCutsSpec)) utfCutsCard

/-- THE TIED CARD OF 'quirelaw06.UtfBack'. -/
def utfBackCard : Claim7 := { stood := { row := utfBackRow, standIns := [], harness := (true, "f37d2b5f7e65875f5cedca55255520f79b674a9d9ee1c1f6d8732cdd1452eb1e"), looks := false }, kinds := [], alts := [], laidByText := true, laidKinds := [.data, .pinned], laidTests := true, laidLooks := .later }
def UtfBackCardSaid : Prop := Claim7.holds Tryd.pinned (.plain (OpenSpec.ofChange utfBackSpec)) utfBackCard

/-- THE SECOND FORM's CARD OF 'quirelaw06.UtfTexts'. -/
def utfTextsUptoCard : Claim7 := { stood := { row := utfTextsUptoRow, standIns := [], harness := (true, "f37d2b5f7e65875f5cedca55255520f79b674a9d9ee1c1f6d8732cdd1452eb1e"), looks := false }, kinds := [], alts := [], laidByText := true, laidKinds := [.data, .pinned], laidTests := true, laidLooks := .later }
def UtfTextsUptoCardSaid : Prop := Claim7.holds Tryd.pinned (.plain (OpenSpec.upto utfTextsSpec)) utfTextsUptoCard

/-- THE SECOND FORM's CARD OF 'quirelaw06.UtfTwice'. -/
def utfTwiceUptoCard : Claim7 := { stood := { row := utfTwiceUptoRow, standIns := [], harness := (true, "f37d2b5f7e65875f5cedca55255520f79b674a9d9ee1c1f6d8732cdd1452eb1e"), looks := false }, kinds := [], alts := [], laidByText := true, laidKinds := [.data, .pinned], laidTests := true, laidLooks := .later }
def UtfTwiceUptoCardSaid : Prop := Claim7.holds Tryd.pinned (.plain (OpenSpec.upto utfTwiceSpec)) utfTwiceUptoCard

/-- THE SECOND FORM's CARD OF 'quirelaw06.UtfTurns'. -/
def utfTurnsUptoCard : Claim7 := { stood := { row := utfTurnsUptoRow, standIns := [], harness := (true, "f37d2b5f7e65875f5cedca55255520f79b674a9d9ee1c1f6d8732cdd1452eb1e"), looks := false }, kinds := [], alts := [], laidByText := true, laidKinds := [.data, .pinned], laidTests := true, laidLooks := .later }
def UtfTurnsUptoCardSaid : Prop := Claim7.holds Tryd.pinned (.plain (OpenSpec.upto utfTurnsSpec)) utfTurnsUptoCard

/-- THE SECOND FORM's CARD OF 'quirelaw06.UtfCuts'. -/
def utfCutsUptoCard : Claim7 := { stood := { row := utfCutsUptoRow, standIns := [], harness := (true, "f37d2b5f7e65875f5cedca55255520f79b674a9d9ee1c1f6d8732cdd1452eb1e"), looks := false }, kinds := [], alts := [], laidByText := true, laidKinds := [.data, .pinned], laidTests := true, laidLooks := .later }
def UtfCutsUptoCardSaid : Prop := Claim7.holds Tryd.pinned (.plain (OpenSpec.upto utfCutsSpec)) utfCutsUptoCard

/-- THE SECOND FORM's CARD OF 'quirelaw06.UtfBack'. -/
def utfBackUptoCard : Claim7 := { stood := { row := utfBackUptoRow, standIns := [], harness := (true, "f37d2b5f7e65875f5cedca55255520f79b674a9d9ee1c1f6d8732cdd1452eb1e"), looks := false }, kinds := [], alts := [], laidByText := true, laidKinds := [.data, .pinned], laidTests := true, laidLooks := .later }
def UtfBackUptoCardSaid : Prop := Claim7.holds Tryd.pinned (.plain (OpenSpec.upto utfBackSpec)) utfBackUptoCard
end Rows
end Go.Proofs.YtnbjdgamindikaaDoor
