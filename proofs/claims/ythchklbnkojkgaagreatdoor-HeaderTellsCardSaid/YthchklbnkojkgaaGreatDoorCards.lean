/-
  DERIVED. GIVEN WITH THE SEED: THE CARDS: each row of YthchklbnkojkgaaGreatDoorRows.lean that lists a variable, with what it lists TIED to the program's text (the seventh form; the later family's looks); each row that meets fmt, with fmt's text TOLD by the authors' own Lean function (tested against real Go, not proved from fmt's source: count such statements apart). THE CARD IS WHAT COUNTS. Prove the row's statement (the work); the ties are given (YthchklbnkojkgaaGreatDoorTie.lean); close each card by the builder's one call (the guide's Derived/Test/ToyasCard.lean, 'card_holds'). Laid BY PROGRAM, IN A SANDBOX (cutbox-door.mjs). By AI agents, Wed Nov 11 2026. No macro, syntax, notation, axiom, sorry.
-/
import Derived.Test.YthchklbnkojkgaaGreatDoorRows
import GoSem.ClaimSeven
namespace Go.Proofs.YthchklbnkojkgaaGreatDoor
namespace Rows

/-- THE TIED CARD OF 'pouchlaw09.HeaderPut'. -/
def headerPutCard : Claim7 := { stood := { row := headerPutRow, standIns := [], harness := (true, "ffb07312439e5e05d68abda19f5004daa69c394473d2fc9e7997c0f602d19b28"), looks := true }, kinds := [], alts := [], laidByText := true, laidKinds := [.data, .pinned], laidTests := true, laidLooks := .later }
def HeaderPutCardSaid : Prop := Claim7.holds Tryz.pinned (.plain (OpenSpec.ofChange headerPutSpec)) headerPutCard

/-- THE TIED CARD OF 'pouchlaw09.HeaderGoes'. -/
def headerGoesCard : Claim7 := { stood := { row := headerGoesRow, standIns := [], harness := (true, "ffb07312439e5e05d68abda19f5004daa69c394473d2fc9e7997c0f602d19b28"), looks := true }, kinds := [], alts := [], laidByText := true, laidKinds := [.data, .pinned], laidTests := true, laidLooks := .later }
def HeaderGoesCardSaid : Prop := Claim7.holds Tryz.pinned (.plain (OpenSpec.ofChange headerGoesSpec)) headerGoesCard

/-- THE TIED CARD OF 'pouchlaw09.HeaderWhole'. -/
def headerWholeCard : Claim7 := { stood := { row := headerWholeRow, standIns := [], harness := (true, "ffb07312439e5e05d68abda19f5004daa69c394473d2fc9e7997c0f602d19b28"), looks := true }, kinds := [], alts := [], laidByText := true, laidKinds := [.data, .pinned], laidTests := true, laidLooks := .later }
def HeaderWholeCardSaid : Prop := Claim7.holds Tryz.pinned (.plain (OpenSpec.ofChange headerWholeSpec)) headerWholeCard

/-- THE TIED CARD OF 'pouchlaw09.HeaderApart'. -/
def headerApartCard : Claim7 := { stood := { row := headerApartRow, standIns := [], harness := (true, "ffb07312439e5e05d68abda19f5004daa69c394473d2fc9e7997c0f602d19b28"), looks := true }, kinds := [], alts := [], laidByText := true, laidKinds := [.data, .pinned], laidTests := true, laidLooks := .later }
def HeaderApartCardSaid : Prop := Claim7.holds Tryz.pinned (.plain (OpenSpec.ofChange headerApartSpec)) headerApartCard

/-- THE TIED CARD OF 'pouchlaw09.HeaderTells'. -/
def headerTellsCard : Claim7 := { stood := { row := headerTellsRow, standIns := [], harness := (true, "ffb07312439e5e05d68abda19f5004daa69c394473d2fc9e7997c0f602d19b28"), looks := true }, kinds := [], alts := [], laidByText := true, laidKinds := [.data, .pinned], laidTests := true, laidLooks := .later }
def HeaderTellsCardSaid : Prop := Claim7.holds Tryz.pinned (.plain (OpenSpec.ofChange headerTellsSpec)) headerTellsCard

/-- THE SECOND FORM's CARD OF 'pouchlaw09.HeaderPut'. -/
def headerPutUptoCard : Claim7 := { stood := { row := headerPutUptoRow, standIns := [], harness := (true, "ffb07312439e5e05d68abda19f5004daa69c394473d2fc9e7997c0f602d19b28"), looks := true }, kinds := [], alts := [], laidByText := true, laidKinds := [.data, .pinned], laidTests := true, laidLooks := .later }
def HeaderPutUptoCardSaid : Prop := Claim7.holds Tryz.pinned (.plain (OpenSpec.upto headerPutSpec)) headerPutUptoCard

/-- THE SECOND FORM's CARD OF 'pouchlaw09.HeaderGoes'. -/
def headerGoesUptoCard : Claim7 := { stood := { row := headerGoesUptoRow, standIns := [], harness := (true, "ffb07312439e5e05d68abda19f5004daa69c394473d2fc9e7997c0f602d19b28"), looks := true }, kinds := [], alts := [], laidByText := true, laidKinds := [.data, .pinned], laidTests := true, laidLooks := .later }
def HeaderGoesUptoCardSaid : Prop := Claim7.holds Tryz.pinned (.plain (OpenSpec.upto headerGoesSpec)) headerGoesUptoCard

/-- THE SECOND FORM's CARD OF 'pouchlaw09.HeaderWhole'. -/
def headerWholeUptoCard : Claim7 := { stood := { row := headerWholeUptoRow, standIns := [], harness := (true, "ffb07312439e5e05d68abda19f5004daa69c394473d2fc9e7997c0f602d19b28"), looks := true }, kinds := [], alts := [], laidByText := true, laidKinds := [.data, .pinned], laidTests := true, laidLooks := .later }
def HeaderWholeUptoCardSaid : Prop := Claim7.holds Tryz.pinned (.plain (OpenSpec.upto headerWholeSpec)) headerWholeUptoCard

/-- THE SECOND FORM's CARD OF 'pouchlaw09.HeaderApart'. -/
def headerApartUptoCard : Claim7 := { stood := { row := headerApartUptoRow, standIns := [], harness := (true, "ffb07312439e5e05d68abda19f5004daa69c394473d2fc9e7997c0f602d19b28"), looks := true }, kinds := [], alts := [], laidByText := true, laidKinds := [.data, .pinned], laidTests := true, laidLooks := .later }
def HeaderApartUptoCardSaid : Prop := Claim7.holds Tryz.pinned (.plain (OpenSpec.upto headerApartSpec)) headerApartUptoCard

/-- THE SECOND FORM's CARD OF 'pouchlaw09.HeaderTells'. -/
def headerTellsUptoCard : Claim7 := { stood := { row := headerTellsUptoRow, standIns := [], harness := (true, "ffb07312439e5e05d68abda19f5004daa69c394473d2fc9e7997c0f602d19b28"), looks := true }, kinds := [], alts := [], laidByText := true, laidKinds := [.data, .pinned], laidTests := true, laidLooks := .later }
def HeaderTellsUptoCardSaid : Prop := Claim7.holds Tryz.pinned (.plain (OpenSpec.upto headerTellsSpec)) headerTellsUptoCard
end Rows
end Go.Proofs.YthchklbnkojkgaaGreatDoor
