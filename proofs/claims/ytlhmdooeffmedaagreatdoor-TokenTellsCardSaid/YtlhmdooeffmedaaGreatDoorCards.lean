/-
  DERIVED. GIVEN WITH THE SEED: THE CARDS: each row of YtlhmdooeffmedaaGreatDoorRows.lean that lists a variable, with what it lists TIED to the program's text (the seventh form; the later family's looks); each row that meets fmt, with fmt's text TOLD by the authors' own Lean function (tested against real Go, not proved from fmt's source: count such statements apart). THE CARD IS WHAT COUNTS. Prove the row's statement (the work); the ties are given (YtlhmdooeffmedaaGreatDoorTie.lean); close each card by the builder's one call (the guide's Derived/Test/ToyasCard.lean, 'card_holds'). Laid BY PROGRAM, IN A SANDBOX (cutbox-door.mjs). By AI agents, Wed Nov 11 2026. No macro, syntax, notation, axiom, sorry.
-/
import Derived.Test.YtlhmdooeffmedaaGreatDoorRows
import GoSem.ClaimSeven
namespace Go.Proofs.YtlhmdooeffmedaaGreatDoor
namespace Rows

/-- THE TIED CARD OF 'pouchlaw10.TokenTells'. -/
def tokenTellsCard : Claim7 := { stood := { row := tokenTellsRow, standIns := [], harness := (true, "d48583a2183fcb783cddc1f528ef7aa79ab15e19636b52906faf39401e1805ad"), looks := true }, kinds := [], alts := [], laidByText := true, laidKinds := [.data, .pinned], laidTests := true, laidLooks := .later }
def TokenTellsCardSaid : Prop := Claim7.holds Tryz.pinned (.plain (OpenSpec.ofChange tokenTellsSpec)) tokenTellsCard

/-- THE SECOND FORM's CARD OF 'pouchlaw10.TokenTells'. -/
def tokenTellsUptoCard : Claim7 := { stood := { row := tokenTellsUptoRow, standIns := [], harness := (true, "d48583a2183fcb783cddc1f528ef7aa79ab15e19636b52906faf39401e1805ad"), looks := true }, kinds := [], alts := [], laidByText := true, laidKinds := [.data, .pinned], laidTests := true, laidLooks := .later }
def TokenTellsUptoCardSaid : Prop := Claim7.holds Tryz.pinned (.plain (OpenSpec.upto tokenTellsSpec)) tokenTellsUptoCard
end Rows
end Go.Proofs.YtlhmdooeffmedaaGreatDoor
