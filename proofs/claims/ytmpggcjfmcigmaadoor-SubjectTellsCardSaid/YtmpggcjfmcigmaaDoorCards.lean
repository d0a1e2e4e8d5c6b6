/-
  DERIVED. GIVEN WITH THE SEED: THE CARDS: each row of YtmpggcjfmcigmaaDoorRows.lean that lists a variable, with what it lists TIED to the program's text (the seventh form; the later family's looks); each row that meets fmt, with fmt's text TOLD by the authors' own Lean function (tested against real Go, not proved from fmt's source: count such statements apart). THE CARD IS WHAT COUNTS. Prove the row's statement (the work); the ties are given (YtmpggcjfmcigmaaDoorTie.lean); close each card by the builder's one call (the guide's Derived/Test/ToyasCard.lean, 'card_holds'). Laid BY PROGRAM, IN A SANDBOX (cutbox-door.mjs). By AI agents, Wed Nov 11 2026. No macro, syntax, notation, axiom, sorry.
-/
import Derived.Test.YtmpggcjfmcigmaaDoorRows
import GoSem.ClaimSeven
namespace Go.Proofs.YtmpggcjfmcigmaaDoor
namespace Rows

/-- THE TIED CARD OF 'pouchlaw30.SubjectTells'. -/
def subjectTellsCard : Claim7 := { stood := { row := subjectTellsRow, standIns := [], harness := (true, "fd607a33c62c8d80e6b5ef461f7987f2f96c513e3c4a1bdf82f9becac69bb0ea"), looks := false }, kinds := [], alts := [], laidByText := true, laidKinds := [.data, .widerDeep, .pinned], laidTests := true, laidLooks := .later }
def SubjectTellsCardSaid : Prop := Claim7.holds Tryd.pinned (.plain (OpenSpec.ofChange subjectTellsSpec)) subjectTellsCard

/-- THE TIED CARD OF 'pouchlaw30.SubjectLists'. -/
def subjectListsCard : Claim7 := { stood := { row := subjectListsRow, standIns := [], harness := (true, "fd607a33c62c8d80e6b5ef461f7987f2f96c513e3c4a1bdf82f9becac69bb0ea"), looks := false }, kinds := [], alts := [], laidByText := true, laidKinds := [.data, .widerDeep, .pinned], laidTests := true, laidLooks := .later }
def SubjectListsCardSaid : Prop := Claim7.holds Tryd.pinned (.plain (OpenSpec.ofChange subjectListsSpec)) subjectListsCard

/-- THE TIED CARD OF 'pouchlaw30.SubjectPlain'. -/
def subjectPlainCard : Claim7 := { stood := { row := subjectPlainRow, standIns := [], harness := (true, "fd607a33c62c8d80e6b5ef461f7987f2f96c513e3c4a1bdf82f9becac69bb0ea"), looks := false }, kinds := [], alts := [], laidByText := true, laidKinds := [.data, .widerDeep, .pinned], laidTests := true, laidLooks := .later }
def SubjectPlainCardSaid : Prop := Claim7.holds Tryd.pinned (.plain (OpenSpec.ofChange subjectPlainSpec)) subjectPlainCard

/-- THE TIED CARD OF 'pouchlaw30.SubjectStays'. -/
def subjectStaysCard : Claim7 := { stood := { row := subjectStaysRow, standIns := [], harness := (true, "fd607a33c62c8d80e6b5ef461f7987f2f96c513e3c4a1bdf82f9becac69bb0ea"), looks := false }, kinds := [], alts := [], laidByText := true, laidKinds := [.data, .widerDeep, .pinned], laidTests := true, laidLooks := .later }
def SubjectStaysCardSaid : Prop := Claim7.holds Tryd.pinned (.plain (OpenSpec.ofChange subjectStaysSpec)) subjectStaysCard

/-- THE SECOND FORM's CARD OF 'pouchlaw30.SubjectTells'. -/
def subjectTellsUptoCard : Claim7 := { stood := { row := subjectTellsUptoRow, standIns := [], harness := (true, "fd607a33c62c8d80e6b5ef461f7987f2f96c513e3c4a1bdf82f9becac69bb0ea"), looks := false }, kinds := [], alts := [], laidByText := true, laidKinds := [.data, .widerDeep, .pinned], laidTests := true, laidLooks := .later }
def SubjectTellsUptoCardSaid : Prop := Claim7.holds Tryd.pinned (.plain (OpenSpec.upto subjectTellsSpec)) subjectTellsUptoCard

/-- THE SECOND FORM's CARD OF 'pouchlaw30.SubjectLists'. -/
def subjectListsUptoCard : Claim7 := { stood := { row := subjectListsUptoRow, standIns := [], harness := (true, "fd607a33c62c8d80e6b5ef461f7987f2f96c513e3c4a1bdf82f9becac69bb0ea"), looks := false }, kinds := [], alts := [], laidByText := true, laidKinds := [.data, .widerDeep, .pinned], laidTests := true, laidLooks := .later }
def SubjectListsUptoCardSaid : Prop := Claim7.holds Tryd.pinned (.plain (OpenSpec.upto subjectListsSpec)) subjectListsUptoCard

/-- THE SECOND FORM's CARD OF 'pouchlaw30.SubjectPlain'. -/
def subjectPlainUptoCard : Claim7 := { stood := { row := subjectPlainUptoRow, standIns := [], harness := (true, "fd607a33c62c8d80e6b5ef461f7987f2f96c513e3c4a1bdf82f9becac69bb0ea"), looks := false }, kinds := [], alts := [], laidByText := true, laidKinds := [.data, .widerDeep, .pinned], laidTests := true, laidLooks := .later }
def SubjectPlainUptoCardSaid : Prop := Claim7.holds Tryd.pinned (.plain (OpenSpec.upto subjectPlainSpec)) subjectPlainUptoCard

/-- THE SECOND FORM's CARD OF 'pouchlaw30.SubjectStays'. -/
def subjectStaysUptoCard : Claim7 := { stood := { row := subjectStaysUptoRow, standIns := [], harness := (true, "fd607a33c62c8d80e6b5ef461f7987f2f96c513e3c4a1bdf82f9becac69bb0ea"), looks := false }, kinds := [], alts := [], laidByText := true, laidKinds := [.data, .widerDeep, .pinned], laidTests := true, laidLooks := .later }
def SubjectStaysUptoCardSaid : Prop := Claim7.holds Tryd.pinned (.plain (OpenSpec.upto subjectStaysSpec)) subjectStaysUptoCard
end Rows
end Go.Proofs.YtmpggcjfmcigmaaDoor
