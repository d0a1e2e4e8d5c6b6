/-
  DERIVED. GIVEN WITH THE SEED: THE CARDS: each row of YtjlbnboggcnamaaDoorRows.lean that lists a variable, with what it lists TIED to the program's text (the seventh form; the later family's looks); each row that meets fmt, with fmt's text TOLD by the authors' own Lean function (tested against real Go, not proved from fmt's source: count such statements apart). THE CARD IS WHAT COUNTS. Prove the row's statement (the work); the ties are given (YtjlbnboggcnamaaDoorTie.lean); close each card by the builder's one call (the guide's Derived/Test/ToyasCard.lean, 'card_holds'). Laid BY PROGRAM, IN A SANDBOX (cutbox-door.mjs). By AI agents, Wed Nov 11 2026. No macro, syntax, notation, axiom, sorry.
-/
import Derived.Test.YtjlbnboggcnamaaDoorRows
import GoSem.ClaimSeven
namespace Go.Proofs.YtjlbnboggcnamaaDoor
namespace Rows

/-- THE TIED CARD OF 'pouchlaw01.NumTells'. -/
def numTellsCard : Claim7 := { stood := { row := numTellsRow, standIns := [], harness := (true, "3f3e9bec9487fd3f24055a99c57a912ced297522e32a81c2d8df0812b6626b15"), looks := true }, kinds := [], alts := [], laidByText := true, laidKinds := [.data, .data, .data, .sentinel, .sentinel], laidTests := true, laidLooks := .later }
def NumTellsCardSaid : Prop := Claim7.holds Tryd.pinned (.plain (OpenSpec.ofChange numTellsSpec)) numTellsCard

/-- THE TIED CARD OF 'pouchlaw01.NumBack'. -/
def numBackCard : Claim7 := { stood := { row := numBackRow, standIns := [], harness := (true, "3f3e9bec9487fd3f24055a99c57a912ced297522e32a81c2d8df0812b6626b15"), looks := true }, kinds := [], alts := [], laidByText := true, laidKinds := [.data, .data, .data, .sentinel, .sentinel], laidTests := true, laidLooks := .later }
def NumBackCardSaid : Prop := Claim7.holds Tryd.pinned (.plain (OpenSpec.ofChange numBackSpec)) numBackCard

/-- THE TIED CARD OF 'pouchlaw01.NumPads'. -/
def numPadsCard : Claim7 := { stood := { row := numPadsRow, standIns := [], harness := (true, "3f3e9bec9487fd3f24055a99c57a912ced297522e32a81c2d8df0812b6626b15"), looks := true }, kinds := [], alts := [], laidByText := true, laidKinds := [.data, .data, .data, .sentinel, .sentinel], laidTests := true, laidLooks := .later }
def NumPadsCardSaid : Prop := Claim7.holds Tryd.pinned (.plain (OpenSpec.ofChange numPadsSpec)) numPadsCard

/-- THE SECOND FORM's CARD OF 'pouchlaw01.NumTells'. -/
def numTellsUptoCard : Claim7 := { stood := { row := numTellsUptoRow, standIns := [], harness := (true, "3f3e9bec9487fd3f24055a99c57a912ced297522e32a81c2d8df0812b6626b15"), looks := true }, kinds := [], alts := [], laidByText := true, laidKinds := [.data, .data, .data, .sentinel, .sentinel], laidTests := true, laidLooks := .later }
def NumTellsUptoCardSaid : Prop := Claim7.holds Tryd.pinned (.plain (OpenSpec.upto numTellsSpec)) numTellsUptoCard

/-- THE SECOND FORM's CARD OF 'pouchlaw01.NumBack'. -/
def numBackUptoCard : Claim7 := { stood := { row := numBackUptoRow, standIns := [], harness := (true, "3f3e9bec9487fd3f24055a99c57a912ced297522e32a81c2d8df0812b6626b15"), looks := true }, kinds := [], alts := [], laidByText := true, laidKinds := [.data, .data, .data, .sentinel, .sentinel], laidTests := true, laidLooks := .later }
def NumBackUptoCardSaid : Prop := Claim7.holds Tryd.pinned (.plain (OpenSpec.upto numBackSpec)) numBackUptoCard

/-- THE SECOND FORM's CARD OF 'pouchlaw01.NumPads'. -/
def numPadsUptoCard : Claim7 := { stood := { row := numPadsUptoRow, standIns := [], harness := (true, "3f3e9bec9487fd3f24055a99c57a912ced297522e32a81c2d8df0812b6626b15"), looks := true }, kinds := [], alts := [], laidByText := true, laidKinds := [.data, .data, .data, .sentinel, .sentinel], laidTests := true, laidLooks := .later }
def NumPadsUptoCardSaid : Prop := Claim7.holds Tryd.pinned (.plain (OpenSpec.upto numPadsSpec)) numPadsUptoCard
end Rows
end Go.Proofs.YtjlbnboggcnamaaDoor
