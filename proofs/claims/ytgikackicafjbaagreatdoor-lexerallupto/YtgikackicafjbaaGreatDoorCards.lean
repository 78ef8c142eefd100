/-
  DERIVED. GIVEN WITH THE SEED: THE CARDS: each row of YtgikackicafjbaaGreatDoorRows.lean that lists a variable, with what it lists TIED to the program's text (the seventh form; the later family's looks); each row that meets fmt, with fmt's text TOLD by the authors' own Lean function (tested against real Go, not proved from fmt's source: count such statements apart). THE CARD IS WHAT COUNTS. Prove the row's statement (the work); the ties are given (YtgikackicafjbaaGreatDoorTie.lean); close each card by the builder's one call (the guide's Derived/Test/ToyasCard.lean, 'card_holds'). Laid BY PROGRAM, IN A SANDBOX (cutbox-door.mjs). By AI agents, Wed Nov 11 2026. No macro, syntax, notation, axiom, sorry.
-/
import Derived.Test.YtgikackicafjbaaGreatDoorRows
import GoSem.ClaimSeven
namespace Go.Proofs.YtgikackicafjbaaGreatDoor
namespace Rows

/-- THE TIED CARD OF 'longstoplaw05.LexerSplits'. -/
def lexerSplitsCard : Claim7 := { stood := { row := lexerSplitsRow, standIns := [], harness := (true, "4cec138d1fcbc302400a18b1c04e1cc9307a081580b2c8076c6e2b90bd9c1e36"), looks := true }, kinds := [], alts := [], laidByText := true, laidKinds := [.data, .data, .data, .data, .sentinel, .sentinel, .pinned], laidTests := true, laidLooks := .later }
def LexerSplitsCardSaid : Prop := Claim7.holds Tryz.pinned (.plain (OpenSpec.ofChange lexerSplitsSpec)) lexerSplitsCard

/-- THE TIED CARD OF 'longstoplaw05.LexerJoins'. -/
def lexerJoinsCard : Claim7 := { stood := { row := lexerJoinsRow, standIns := [], harness := (true, "4cec138d1fcbc302400a18b1c04e1cc9307a081580b2c8076c6e2b90bd9c1e36"), looks := true }, kinds := [], alts := [], laidByText := true, laidKinds := [.data, .data, .data, .data, .sentinel, .sentinel, .pinned], laidTests := true, laidLooks := .later }
def LexerJoinsCardSaid : Prop := Claim7.holds Tryz.pinned (.plain (OpenSpec.ofChange lexerJoinsSpec)) lexerJoinsCard

/-- THE TIED CARD OF 'longstoplaw05.LexerBack'. -/
def lexerBackCard : Claim7 := { stood := { row := lexerBackRow, standIns := [], harness := (true, "4cec138d1fcbc302400a18b1c04e1cc9307a081580b2c8076c6e2b90bd9c1e36"), looks := true }, kinds := [], alts := [], laidByText := true, laidKinds := [.data, .data, .data, .data, .sentinel, .sentinel, .pinned], laidTests := true, laidLooks := .later }
def LexerBackCardSaid : Prop := Claim7.holds Tryz.pinned (.plain (OpenSpec.ofChange lexerBackSpec)) lexerBackCard

/-- THE TIED CARD OF 'longstoplaw05.LexerAll'. -/
def lexerAllCard : Claim7 := { stood := { row := lexerAllRow, standIns := [], harness := (true, "4cec138d1fcbc302400a18b1c04e1cc9307a081580b2c8076c6e2b90bd9c1e36"), looks := true }, kinds := [], alts := [], laidByText := true, laidKinds := [.data, .data, .data, .data, .sentinel, .sentinel, .pinned], laidTests := true, laidLooks := .later }
def LexerAllCardSaid : Prop := Claim7.holds Tryz.pinned (.plain (OpenSpec.ofChange lexerAllSpec)) lexerAllCard

/-- THE TIED CARD OF 'longstoplaw05.LexerBlanks'. -/
def lexerBlanksCard : Claim7 := { stood := { row := lexerBlanksRow, standIns := [], harness := (true, "4cec138d1fcbc302400a18b1c04e1cc9307a081580b2c8076c6e2b90bd9c1e36"), looks := true }, kinds := [], alts := [], laidByText := true, laidKinds := [.data, .data, .data, .data, .sentinel, .sentinel, .pinned], laidTests := true, laidLooks := .later }
def LexerBlanksCardSaid : Prop := Claim7.holds Tryz.pinned (.plain (OpenSpec.ofChange lexerBlanksSpec)) lexerBlanksCard

/-- THE TIED CARD OF 'longstoplaw05.LexerTwo'. -/
def lexerTwoCard : Claim7 := { stood := { row := lexerTwoRow, standIns := [], harness := (true, "4cec138d1fcbc302400a18b1c04e1cc9307a081580b2c8076c6e2b90bd9c1e36"), looks := true }, kinds := [], alts := [], laidByText := true, laidKinds := [.data, .data, .data, .data, .sentinel, .sentinel, .pinned], laidTests := true, laidLooks := .later }
def LexerTwoCardSaid : Prop := Claim7.holds Tryz.pinned (.plain (OpenSpec.ofChange lexerTwoSpec)) lexerTwoCard

/-- THE SECOND FORM's CARD OF 'longstoplaw05.LexerSplits'. -/
def lexerSplitsUptoCard : Claim7 := { stood := { row := lexerSplitsUptoRow, standIns := [], harness := (true, "4cec138d1fcbc302400a18b1c04e1cc9307a081580b2c8076c6e2b90bd9c1e36"), looks := true }, kinds := [], alts := [], laidByText := true, laidKinds := [.data, .data, .data, .data, .sentinel, .sentinel, .pinned], laidTests := true, laidLooks := .later }
def LexerSplitsUptoCardSaid : Prop := Claim7.holds Tryz.pinned (.plain (OpenSpec.upto lexerSplitsSpec)) lexerSplitsUptoCard

/-- THE SECOND FORM's CARD OF 'longstoplaw05.LexerJoins'. -/
def lexerJoinsUptoCard : Claim7 := { stood := { row := lexerJoinsUptoRow, standIns := [], harness := (true, "4cec138d1fcbc302400a18b1c04e1cc9307a081580b2c8076c6e2b90bd9c1e36"), looks := true }, kinds := [], alts := [], laidByText := true, laidKinds := [.data, .data, .data, .data, .sentinel, .sentinel, .pinned], laidTests := true, laidLooks := .later }
def LexerJoinsUptoCardSaid : Prop := Claim7.holds Tryz.pinned (.plain (OpenSpec.upto lexerJoinsSpec)) lexerJoinsUptoCard

/-- THE SECOND FORM's CARD OF 'longstoplaw05.LexerBack'. -/
def lexerBackUptoCard : Claim7 := { stood := { row := lexerBackUptoRow, standIns := [], harness := (true, "4cec138d1fcbc302400a18b1c04e1cc9307a081580b2c8076c6e2b90bd9c1e36"), looks := true }, kinds := [], alts := [], laidByText := true, laidKinds := [.data, .data, .data, .data, .sentinel, .sentinel, .pinned], laidTests := true, laidLooks := .later }
def LexerBackUptoCardSaid : Prop := Claim7.holds Tryz.pinned (.plain (OpenSpec.upto lexerBackSpec)) lexerBackUptoCard

/-- THE SECOND FORM's CARD OF 'longstoplaw05.LexerAll'. -/
def lexerAllUptoCard : Claim7 := { stood := { row := lexerAllUptoRow, standIns := [], harness := (true, "4cec138d1fcbc302400a18b1c04e1cc9307a081580b2c8076c6e2b90bd9c1e36"), looks := true }, kinds := [], alts := [], laidByText := true, laidKinds := [.data, .data, .data, .data, .sentinel, .sentinel, .pinned], laidTests := true, laidLooks := .later }
def LexerAllUptoCardSaid : Prop := Claim7.holds Tryz.pinned (.plain (OpenSpec.upto lexerAllSpec)) lexerAllUptoCard

/-- THE SECOND FORM's CARD OF 'longstoplaw05.LexerBlanks'. -/
def lexerBlanksUptoCard : Claim7 := { stood := { row := lexerBlanksUptoRow, standIns := [], harness := (true, "4cec138d1fcbc302400a18b1c04e1cc9307a081580b2c8076c6e2b90bd9c1e36"), looks := true }, kinds := [], alts := [], laidByText := true, laidKinds := [.data, .data, .data, .data, .sentinel, .sentinel, .pinned], laidTests := true, laidLooks := .later }
def LexerBlanksUptoCardSaid : Prop := Claim7.holds Tryz.pinned (.plain (OpenSpec.upto lexerBlanksSpec)) lexerBlanksUptoCard

/-- THE SECOND FORM's CARD OF 'longstoplaw05.LexerTwo'. -/
def lexerTwoUptoCard : Claim7 := { stood := { row := lexerTwoUptoRow, standIns := [], harness := (true, "4cec138d1fcbc302400a18b1c04e1cc9307a081580b2c8076c6e2b90bd9c1e36"), looks := true }, kinds := [], alts := [], laidByText := true, laidKinds := [.data, .data, .data, .data, .sentinel, .sentinel, .pinned], laidTests := true, laidLooks := .later }
def LexerTwoUptoCardSaid : Prop := Claim7.holds Tryz.pinned (.plain (OpenSpec.upto lexerTwoSpec)) lexerTwoUptoCard
end Rows
end Go.Proofs.YtgikackicafjbaaGreatDoor
