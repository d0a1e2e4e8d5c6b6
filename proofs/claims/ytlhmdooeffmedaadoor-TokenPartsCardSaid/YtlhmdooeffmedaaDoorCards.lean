/-
  DERIVED. GIVEN WITH THE SEED: THE CARDS: each row of YtlhmdooeffmedaaDoorRows.lean that lists a variable, with what it lists TIED to the program's text (the seventh form; the later family's looks); each row that meets fmt, with fmt's text TOLD by the authors' own Lean function (tested against real Go, not proved from fmt's source: count such statements apart). THE CARD IS WHAT COUNTS. Prove the row's statement (the work); the ties are given (YtlhmdooeffmedaaDoorTie.lean); close each card by the builder's one call (the guide's Derived/Test/ToyasCard.lean, 'card_holds'). Laid BY PROGRAM, IN A SANDBOX (cutbox-door.mjs). By AI agents, Wed Nov 11 2026. No macro, syntax, notation, axiom, sorry.
-/
import Derived.Test.YtlhmdooeffmedaaDoorRows
import GoSem.ClaimSeven
namespace Go.Proofs.YtlhmdooeffmedaaDoor
namespace Rows

/-- THE TIED CARD OF 'pouchlaw10.TokenKeeps'. -/
def tokenKeepsCard : Claim7 := { stood := { row := tokenKeepsRow, standIns := [], harness := (true, "d0aa6b0055e6a2eb5ab3fe20aa94694a62abe69fa72ea596e9320d42f7c05586"), looks := true }, kinds := [], alts := [], laidByText := true, laidKinds := [.data, .pinned], laidTests := true, laidLooks := .later }
def TokenKeepsCardSaid : Prop := Claim7.holds Tryd.pinned (.plain (OpenSpec.ofChange tokenKeepsSpec)) tokenKeepsCard

/-- THE TIED CARD OF 'pouchlaw10.TokenQuotes'. -/
def tokenQuotesCard : Claim7 := { stood := { row := tokenQuotesRow, standIns := [], harness := (true, "d0aa6b0055e6a2eb5ab3fe20aa94694a62abe69fa72ea596e9320d42f7c05586"), looks := true }, kinds := [], alts := [], laidByText := true, laidKinds := [.data, .pinned], laidTests := true, laidLooks := .later }
def TokenQuotesCardSaid : Prop := Claim7.holds Tryd.pinned (.plain (OpenSpec.ofChange tokenQuotesSpec)) tokenQuotesCard

/-- THE TIED CARD OF 'pouchlaw10.TokenParts'. -/
def tokenPartsCard : Claim7 := { stood := { row := tokenPartsRow, standIns := [], harness := (true, "d0aa6b0055e6a2eb5ab3fe20aa94694a62abe69fa72ea596e9320d42f7c05586"), looks := true }, kinds := [], alts := [], laidByText := true, laidKinds := [.data, .pinned], laidTests := true, laidLooks := .later }
def TokenPartsCardSaid : Prop := Claim7.holds Tryd.pinned (.plain (OpenSpec.ofChange tokenPartsSpec)) tokenPartsCard

/-- THE SECOND FORM's CARD OF 'pouchlaw10.TokenKeeps'. -/
def tokenKeepsUptoCard : Claim7 := { stood := { row := tokenKeepsUptoRow, standIns := [], harness := (true, "d0aa6b0055e6a2eb5ab3fe20aa94694a62abe69fa72ea596e9320d42f7c05586"), looks := true }, kinds := [], alts := [], laidByText := true, laidKinds := [.data, .pinned], laidTests := true, laidLooks := .later }
def TokenKeepsUptoCardSaid : Prop := Claim7.holds Tryd.pinned (.plain (OpenSpec.upto tokenKeepsSpec)) tokenKeepsUptoCard

/-- THE SECOND FORM's CARD OF 'pouchlaw10.TokenQuotes'. -/
def tokenQuotesUptoCard : Claim7 := { stood := { row := tokenQuotesUptoRow, standIns := [], harness := (true, "d0aa6b0055e6a2eb5ab3fe20aa94694a62abe69fa72ea596e9320d42f7c05586"), looks := true }, kinds := [], alts := [], laidByText := true, laidKinds := [.data, .pinned], laidTests := true, laidLooks := .later }
def TokenQuotesUptoCardSaid : Prop := Claim7.holds Tryd.pinned (.plain (OpenSpec.upto tokenQuotesSpec)) tokenQuotesUptoCard

/-- THE SECOND FORM's CARD OF 'pouchlaw10.TokenParts'. -/
def tokenPartsUptoCard : Claim7 := { stood := { row := tokenPartsUptoRow, standIns := [], harness := (true, "d0aa6b0055e6a2eb5ab3fe20aa94694a62abe69fa72ea596e9320d42f7c05586"), looks := true }, kinds := [], alts := [], laidByText := true, laidKinds := [.data, .pinned], laidTests := true, laidLooks := .later }
def TokenPartsUptoCardSaid : Prop := Claim7.holds Tryd.pinned (.plain (OpenSpec.upto tokenPartsSpec)) tokenPartsUptoCard
end Rows
end Go.Proofs.YtlhmdooeffmedaaDoor
