/-
  DERIVED. GIVEN WITH THE SEED: THE CARDS: each row of YtafmldooephmaaaDoorRows.lean that lists a variable, with what it lists TIED to the program's text (the seventh form; the later family's looks); each row that meets fmt, with fmt's text TOLD by the authors' own Lean function (tested against real Go, not proved from fmt's source: count such statements apart). THE CARD IS WHAT COUNTS. Prove the row's statement (the work); the ties are given (YtafmldooephmaaaDoorTie.lean); close each card by the builder's one call (the guide's Derived/Test/ToyasCard.lean, 'card_holds'). Laid BY PROGRAM, IN A SANDBOX (cutbox-door.mjs). By AI agents, Wed Nov 11 2026. No macro, syntax, notation, axiom, sorry.
-/
import Derived.Test.YtafmldooephmaaaDoorRows
import GoSem.ClaimSeven
namespace Go.Proofs.YtafmldooephmaaaDoor
namespace Rows

/-- THE TIED CARD OF 'pouchlaw13.WordsTells'. -/
def wordsTellsCard : Claim7 := { stood := { row := wordsTellsRow, standIns := [], harness := (true, "3187c34d23e66f4258afd89991e69c0aed5d98651206664026dc8c90aae9037e"), looks := false }, kinds := [], alts := [], laidByText := true, laidKinds := [.data, .pinned], laidTests := true, laidLooks := .later }
def WordsTellsCardSaid : Prop := Claim7.holds Tryd.pinned (.plain (OpenSpec.ofChange wordsTellsSpec)) wordsTellsCard

/-- THE TIED CARD OF 'pouchlaw13.WordsPlain'. -/
def wordsPlainCard : Claim7 := { stood := { row := wordsPlainRow, standIns := [], harness := (true, "3187c34d23e66f4258afd89991e69c0aed5d98651206664026dc8c90aae9037e"), looks := false }, kinds := [], alts := [], laidByText := true, laidKinds := [.data, .pinned], laidTests := true, laidLooks := .later }
def WordsPlainCardSaid : Prop := Claim7.holds Tryd.pinned (.plain (OpenSpec.ofChange wordsPlainSpec)) wordsPlainCard

/-- THE TIED CARD OF 'pouchlaw13.WordsAside'. -/
def wordsAsideCard : Claim7 := { stood := { row := wordsAsideRow, standIns := [], harness := (true, "3187c34d23e66f4258afd89991e69c0aed5d98651206664026dc8c90aae9037e"), looks := false }, kinds := [], alts := [], laidByText := true, laidKinds := [.data, .pinned], laidTests := true, laidLooks := .later }
def WordsAsideCardSaid : Prop := Claim7.holds Tryd.pinned (.plain (OpenSpec.ofChange wordsAsideSpec)) wordsAsideCard

/-- THE TIED CARD OF 'pouchlaw13.WordsBack'. -/
def wordsBackCard : Claim7 := { stood := { row := wordsBackRow, standIns := [], harness := (true, "3187c34d23e66f4258afd89991e69c0aed5d98651206664026dc8c90aae9037e"), looks := false }, kinds := [], alts := [], laidByText := true, laidKinds := [.data, .pinned], laidTests := true, laidLooks := .later }
def WordsBackCardSaid : Prop := Claim7.holds Tryd.pinned (.plain (OpenSpec.ofChange wordsBackSpec)) wordsBackCard

/-- THE SECOND FORM's CARD OF 'pouchlaw13.WordsTells'. -/
def wordsTellsUptoCard : Claim7 := { stood := { row := wordsTellsUptoRow, standIns := [], harness := (true, "3187c34d23e66f4258afd89991e69c0aed5d98651206664026dc8c90aae9037e"), looks := false }, kinds := [], alts := [], laidByText := true, laidKinds := [.data, .pinned], laidTests := true, laidLooks := .later }
def WordsTellsUptoCardSaid : Prop := Claim7.holds Tryd.pinned (.plain (OpenSpec.upto wordsTellsSpec)) wordsTellsUptoCard

/-- THE SECOND FORM's CARD OF 'pouchlaw13.WordsPlain'. -/
def wordsPlainUptoCard : Claim7 := { stood := { row := wordsPlainUptoRow, standIns := [], harness := (true, "3187c34d23e66f4258afd89991e69c0aed5d98651206664026dc8c90aae9037e"), looks := false }, kinds := [], alts := [], laidByText := true, laidKinds := [.data, .pinned], laidTests := true, laidLooks := .later }
def WordsPlainUptoCardSaid : Prop := Claim7.holds Tryd.pinned (.plain (OpenSpec.upto wordsPlainSpec)) wordsPlainUptoCard

/-- THE SECOND FORM's CARD OF 'pouchlaw13.WordsAside'. -/
def wordsAsideUptoCard : Claim7 := { stood := { row := wordsAsideUptoRow, standIns := [], harness := (true, "3187c34d23e66f4258afd89991e69c0aed5d98651206664026dc8c90aae9037e"), looks := false }, kinds := [], alts := [], laidByText := true, laidKinds := [.data, .pinned], laidTests := true, laidLooks := .later }
def WordsAsideUptoCardSaid : Prop := Claim7.holds Tryd.pinned (.plain (OpenSpec.upto wordsAsideSpec)) wordsAsideUptoCard

/-- THE SECOND FORM's CARD OF 'pouchlaw13.WordsBack'. -/
def wordsBackUptoCard : Claim7 := { stood := { row := wordsBackUptoRow, standIns := [], harness := (true, "3187c34d23e66f4258afd89991e69c0aed5d98651206664026dc8c90aae9037e"), looks := false }, kinds := [], alts := [], laidByText := true, laidKinds := [.data, .pinned], laidTests := true, laidLooks := .later }
def WordsBackUptoCardSaid : Prop := Claim7.holds Tryd.pinned (.plain (OpenSpec.upto wordsBackSpec)) wordsBackUptoCard
end Rows
end Go.Proofs.YtafmldooephmaaaDoor
