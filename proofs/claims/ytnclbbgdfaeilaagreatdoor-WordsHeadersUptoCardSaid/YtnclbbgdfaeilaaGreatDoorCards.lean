/-
  DERIVED. GIVEN WITH THE SEED: THE CARDS: each row of YtnclbbgdfaeilaaGreatDoorRows.lean that lists a variable, with what it lists TIED to the program's text (the seventh form; the later family's looks); each row that meets fmt, with fmt's text TOLD by the authors' own Lean function (tested against real Go, not proved from fmt's source: count such statements apart). THE CARD IS WHAT COUNTS. Prove the row's statement (the work); the ties are given (YtnclbbgdfaeilaaGreatDoorTie.lean); close each card by the builder's one call (the guide's Derived/Test/ToyasCard.lean, 'card_holds'). Laid BY PROGRAM, IN A SANDBOX (cutbox-door.mjs). By AI agents, Wed Nov 11 2026. No macro, syntax, notation, axiom, sorry.
-/
import Derived.Test.YtnclbbgdfaeilaaGreatDoorRows
import GoSem.ClaimSeven
namespace Go.Proofs.YtnclbbgdfaeilaaGreatDoor
namespace Rows

/-- THE TIED CARD OF 'pouchlaw13.WordsHeaders'. -/
def wordsHeadersCard : Claim7 := { stood := { row := wordsHeadersRow, standIns := [], harness := (true, "c513cd05cafc65dc713120014e0de363c0662af7c815fd207eacd67374f9547c"), looks := true }, kinds := [], alts := [], laidByText := true, laidKinds := [.data, .pinned], laidTests := true, laidLooks := .later }
def WordsHeadersCardSaid : Prop := Claim7.holds Tryz.pinned (.plain (OpenSpec.ofChange wordsHeadersSpec)) wordsHeadersCard

/-- THE TIED CARD OF 'pouchlaw30.SubjectFields'. -/
def subjectFieldsCard : Claim7 := { stood := { row := subjectFieldsRow, standIns := [], harness := (true, "c513cd05cafc65dc713120014e0de363c0662af7c815fd207eacd67374f9547c"), looks := true }, kinds := [], alts := [], laidByText := true, laidKinds := [.data, .widerDeep, .pinned], laidTests := true, laidLooks := .later }
def SubjectFieldsCardSaid : Prop := Claim7.holds Tryz.pinned (.plain (OpenSpec.ofChange subjectFieldsSpec)) subjectFieldsCard

/-- THE SECOND FORM's CARD OF 'pouchlaw13.WordsHeaders'. -/
def wordsHeadersUptoCard : Claim7 := { stood := { row := wordsHeadersUptoRow, standIns := [], harness := (true, "c513cd05cafc65dc713120014e0de363c0662af7c815fd207eacd67374f9547c"), looks := true }, kinds := [], alts := [], laidByText := true, laidKinds := [.data, .pinned], laidTests := true, laidLooks := .later }
def WordsHeadersUptoCardSaid : Prop := Claim7.holds Tryz.pinned (.plain (OpenSpec.upto wordsHeadersSpec)) wordsHeadersUptoCard

/-- THE SECOND FORM's CARD OF 'pouchlaw30.SubjectFields'. -/
def subjectFieldsUptoCard : Claim7 := { stood := { row := subjectFieldsUptoRow, standIns := [], harness := (true, "c513cd05cafc65dc713120014e0de363c0662af7c815fd207eacd67374f9547c"), looks := true }, kinds := [], alts := [], laidByText := true, laidKinds := [.data, .widerDeep, .pinned], laidTests := true, laidLooks := .later }
def SubjectFieldsUptoCardSaid : Prop := Claim7.holds Tryz.pinned (.plain (OpenSpec.upto subjectFieldsSpec)) subjectFieldsUptoCard
end Rows
end Go.Proofs.YtnclbbgdfaeilaaGreatDoor
