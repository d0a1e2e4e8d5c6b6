/-
  DERIVED. GIVEN WITH THE SEED: THE CARDS: each row of YtlbnhkojfefccaaDoorRows.lean that lists a variable, with what it lists TIED to the program's text (the seventh form; the later family's looks); each row that meets fmt, with fmt's text TOLD by the authors' own Lean function (tested against real Go, not proved from fmt's source: count such statements apart). THE CARD IS WHAT COUNTS. Prove the row's statement (the work); the ties are given (YtlbnhkojfefccaaDoorTie.lean); close each card by the builder's one call (the guide's Derived/Test/ToyasCard.lean, 'card_holds'). Laid BY PROGRAM, IN A SANDBOX (cutbox-door.mjs). By AI agents, Wed Nov 11 2026. No macro, syntax, notation, axiom, sorry.
-/
import Derived.Test.YtlbnhkojfefccaaDoorRows
import GoSem.ClaimSeven
namespace Go.Proofs.YtlbnhkojfefccaaDoor
namespace Rows

/-- THE TIED CARD OF 'pouchlaw05.FoldTells'. -/
def foldTellsCard : Claim7 := { stood := { row := foldTellsRow, standIns := [], harness := (true, "efcd5068a97c3dd0cd5615527b8243fbfe845e9bc513fdcc42e9e7dea483f9b6"), looks := false }, kinds := [], alts := [], laidByText := true, laidKinds := [.data, .widerDeep, .pinned], laidTests := true, laidLooks := .later }
def FoldTellsCardSaid : Prop := Claim7.holds Tryd.pinned (.plain (OpenSpec.ofChange foldTellsSpec)) foldTellsCard

/-- THE TIED CARD OF 'pouchlaw05.FoldGlob'. -/
def foldGlobCard : Claim7 := { stood := { row := foldGlobRow, standIns := [], harness := (true, "efcd5068a97c3dd0cd5615527b8243fbfe845e9bc513fdcc42e9e7dea483f9b6"), looks := false }, kinds := [], alts := [], laidByText := true, laidKinds := [.data, .widerDeep, .pinned], laidTests := true, laidLooks := .later }
def FoldGlobCardSaid : Prop := Claim7.holds Tryd.pinned (.plain (OpenSpec.ofChange foldGlobSpec)) foldGlobCard

/-- THE TIED CARD OF 'pouchlaw05.FoldStays'. -/
def foldStaysCard : Claim7 := { stood := { row := foldStaysRow, standIns := [], harness := (true, "efcd5068a97c3dd0cd5615527b8243fbfe845e9bc513fdcc42e9e7dea483f9b6"), looks := false }, kinds := [], alts := [], laidByText := true, laidKinds := [.data, .widerDeep, .pinned], laidTests := true, laidLooks := .later }
def FoldStaysCardSaid : Prop := Claim7.holds Tryd.pinned (.plain (OpenSpec.ofChange foldStaysSpec)) foldStaysCard

/-- THE TIED CARD OF 'pouchlaw05.FoldOrder'. -/
def foldOrderCard : Claim7 := { stood := { row := foldOrderRow, standIns := [], harness := (true, "efcd5068a97c3dd0cd5615527b8243fbfe845e9bc513fdcc42e9e7dea483f9b6"), looks := false }, kinds := [], alts := [], laidByText := true, laidKinds := [.data, .widerDeep, .pinned], laidTests := true, laidLooks := .later }
def FoldOrderCardSaid : Prop := Claim7.holds Tryd.pinned (.plain (OpenSpec.ofChange foldOrderSpec)) foldOrderCard

/-- THE TIED CARD OF 'pouchlaw05.FoldPieces'. -/
def foldPiecesCard : Claim7 := { stood := { row := foldPiecesRow, standIns := [], harness := (true, "efcd5068a97c3dd0cd5615527b8243fbfe845e9bc513fdcc42e9e7dea483f9b6"), looks := false }, kinds := [], alts := [], laidByText := true, laidKinds := [.data, .widerDeep, .pinned], laidTests := true, laidLooks := .later }
def FoldPiecesCardSaid : Prop := Claim7.holds Tryd.pinned (.plain (OpenSpec.ofChange foldPiecesSpec)) foldPiecesCard

/-- THE SECOND FORM's CARD OF 'pouchlaw05.FoldTells'. -/
def foldTellsUptoCard : Claim7 := { stood := { row := foldTellsUptoRow, standIns := [], harness := (true, "efcd5068a97c3dd0cd5615527b8243fbfe845e9bc513fdcc42e9e7dea483f9b6"), looks := false }, kinds := [], alts := [], laidByText := true, laidKinds := [.data, .widerDeep, .pinned], laidTests := true, laidLooks := .later }
def FoldTellsUptoCardSaid : Prop := Claim7.holds Tryd.pinned (.plain (OpenSpec.upto foldTellsSpec)) foldTellsUptoCard

/-- THE SECOND FORM's CARD OF 'pouchlaw05.FoldGlob'. -/
def foldGlobUptoCard : Claim7 := { stood := { row := foldGlobUptoRow, standIns := [], harness := (true, "efcd5068a97c3dd0cd5615527b8243fbfe845e9bc513fdcc42e9e7dea483f9b6"), looks := false }, kinds := [], alts := [], laidByText := true, laidKinds := [.data, .widerDeep, .pinned], laidTests := true, laidLooks := .later }
def FoldGlobUptoCardSaid : Prop := Claim7.holds Tryd.pinned (.plain (OpenSpec.upto foldGlobSpec)) foldGlobUptoCard

/-- THE SECOND FORM's CARD OF 'pouchlaw05.FoldStays'. -/
def foldStaysUptoCard : Claim7 := { stood := { row := foldStaysUptoRow, standIns := [], harness := (true, "efcd5068a97c3dd0cd5615527b8243fbfe845e9bc513fdcc42e9e7dea483f9b6"), looks := false }, kinds := [], alts := [], laidByText := true, laidKinds := [.data, .widerDeep, .pinned], laidTests := true, laidLooks := .later }
def FoldStaysUptoCardSaid : Prop := Claim7.holds Tryd.pinned (.plain (OpenSpec.upto foldStaysSpec)) foldStaysUptoCard

/-- THE SECOND FORM's CARD OF 'pouchlaw05.FoldOrder'. -/
def foldOrderUptoCard : Claim7 := { stood := { row := foldOrderUptoRow, standIns := [], harness := (true, "efcd5068a97c3dd0cd5615527b8243fbfe845e9bc513fdcc42e9e7dea483f9b6"), looks := false }, kinds := [], alts := [], laidByText := true, laidKinds := [.data, .widerDeep, .pinned], laidTests := true, laidLooks := .later }
def FoldOrderUptoCardSaid : Prop := Claim7.holds Tryd.pinned (.plain (OpenSpec.upto foldOrderSpec)) foldOrderUptoCard

/-- THE SECOND FORM's CARD OF 'pouchlaw05.FoldPieces'. -/
def foldPiecesUptoCard : Claim7 := { stood := { row := foldPiecesUptoRow, standIns := [], harness := (true, "efcd5068a97c3dd0cd5615527b8243fbfe845e9bc513fdcc42e9e7dea483f9b6"), looks := false }, kinds := [], alts := [], laidByText := true, laidKinds := [.data, .widerDeep, .pinned], laidTests := true, laidLooks := .later }
def FoldPiecesUptoCardSaid : Prop := Claim7.holds Tryd.pinned (.plain (OpenSpec.upto foldPiecesSpec)) foldPiecesUptoCard
end Rows
end Go.Proofs.YtlbnhkojfefccaaDoor
