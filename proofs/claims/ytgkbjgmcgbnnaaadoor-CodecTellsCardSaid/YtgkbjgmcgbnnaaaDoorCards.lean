/-
  DERIVED. GIVEN WITH THE SEED: THE CARDS: each row of YtgkbjgmcgbnnaaaDoorRows.lean that lists a variable, with what it lists TIED to the program's text (the seventh form; the later family's looks); each row that meets fmt, with fmt's text TOLD by the authors' own Lean function (tested against real Go, not proved from fmt's source: count such statements apart). THE CARD IS WHAT COUNTS. Prove the row's statement (the work); the ties are given (YtgkbjgmcgbnnaaaDoorTie.lean); close each card by the builder's one call (the guide's Derived/Test/ToyasCard.lean, 'card_holds'). Laid BY PROGRAM, IN A SANDBOX (cutbox-door.mjs). By AI agents, Wed Nov 11 2026. No macro, syntax, notation, axiom, sorry.
-/
import Derived.Test.YtgkbjgmcgbnnaaaDoorRows
import GoSem.ClaimSeven
namespace Go.Proofs.YtgkbjgmcgbnnaaaDoor
namespace Rows

/-- THE TIED CARD OF 'pouchlaw06.CodecTells'. -/
def codecTellsCard : Claim7 := { stood := { row := codecTellsRow, standIns := [], harness := (true, "e8cdc14c6d6f9918f08922c8c0dff7cad2407fd662fbc2fbbce8d1f9da90772b"), looks := false }, kinds := [], alts := [], laidByText := true, laidKinds := [.data, .pinned], laidTests := true, laidLooks := .later }
def CodecTellsCardSaid : Prop := Claim7.holds Tryd.pinned (.plain (OpenSpec.ofChange codecTellsSpec)) codecTellsCard

/-- THE TIED CARD OF 'pouchlaw06.CodecBack'. -/
def codecBackCard : Claim7 := { stood := { row := codecBackRow, standIns := [], harness := (true, "e8cdc14c6d6f9918f08922c8c0dff7cad2407fd662fbc2fbbce8d1f9da90772b"), looks := false }, kinds := [], alts := [], laidByText := true, laidKinds := [.data, .pinned], laidTests := true, laidLooks := .later }
def CodecBackCardSaid : Prop := Claim7.holds Tryd.pinned (.plain (OpenSpec.ofChange codecBackSpec)) codecBackCard

/-- THE TIED CARD OF 'pouchlaw06.CodecLines'. -/
def codecLinesCard : Claim7 := { stood := { row := codecLinesRow, standIns := [], harness := (true, "e8cdc14c6d6f9918f08922c8c0dff7cad2407fd662fbc2fbbce8d1f9da90772b"), looks := false }, kinds := [], alts := [], laidByText := true, laidKinds := [.data, .pinned], laidTests := true, laidLooks := .later }
def CodecLinesCardSaid : Prop := Claim7.holds Tryd.pinned (.plain (OpenSpec.ofChange codecLinesSpec)) codecLinesCard

/-- THE TIED CARD OF 'pouchlaw06.CodecLoose'. -/
def codecLooseCard : Claim7 := { stood := { row := codecLooseRow, standIns := [], harness := (true, "e8cdc14c6d6f9918f08922c8c0dff7cad2407fd662fbc2fbbce8d1f9da90772b"), looks := false }, kinds := [], alts := [], laidByText := true, laidKinds := [.data, .pinned], laidTests := true, laidLooks := .later }
def CodecLooseCardSaid : Prop := Claim7.holds Tryd.pinned (.plain (OpenSpec.ofChange codecLooseSpec)) codecLooseCard

/-- THE TIED CARD OF 'pouchlaw06.CodecPlain'. -/
def codecPlainCard : Claim7 := { stood := { row := codecPlainRow, standIns := [], harness := (true, "e8cdc14c6d6f9918f08922c8c0dff7cad2407fd662fbc2fbbce8d1f9da90772b"), looks := false }, kinds := [], alts := [], laidByText := true, laidKinds := [.data, .pinned], laidTests := true, laidLooks := .later }
def CodecPlainCardSaid : Prop := Claim7.holds Tryd.pinned (.plain (OpenSpec.ofChange codecPlainSpec)) codecPlainCard

/-- THE SECOND FORM's CARD OF 'pouchlaw06.CodecTells'. -/
def codecTellsUptoCard : Claim7 := { stood := { row := codecTellsUptoRow, standIns := [], harness := (true, "e8cdc14c6d6f9918f08922c8c0dff7cad2407fd662fbc2fbbce8d1f9da90772b"), looks := false }, kinds := [], alts := [], laidByText := true, laidKinds := [.data, .pinned], laidTests := true, laidLooks := .later }
def CodecTellsUptoCardSaid : Prop := Claim7.holds Tryd.pinned (.plain (OpenSpec.upto codecTellsSpec)) codecTellsUptoCard

/-- THE SECOND FORM's CARD OF 'pouchlaw06.CodecBack'. -/
def codecBackUptoCard : Claim7 := { stood := { row := codecBackUptoRow, standIns := [], harness := (true, "e8cdc14c6d6f9918f08922c8c0dff7cad2407fd662fbc2fbbce8d1f9da90772b"), looks := false }, kinds := [], alts := [], laidByText := true, laidKinds := [.data, .pinned], laidTests := true, laidLooks := .later }
def CodecBackUptoCardSaid : Prop := Claim7.holds Tryd.pinned (.plain (OpenSpec.upto codecBackSpec)) codecBackUptoCard

/-- THE SECOND FORM's CARD OF 'pouchlaw06.CodecLines'. -/
def codecLinesUptoCard : Claim7 := { stood := { row := codecLinesUptoRow, standIns := [], harness := (true, "e8cdc14c6d6f9918f08922c8c0dff7cad2407fd662fbc2fbbce8d1f9da90772b"), looks := false }, kinds := [], alts := [], laidByText := true, laidKinds := [.data, .pinned], laidTests := true, laidLooks := .later }
def CodecLinesUptoCardSaid : Prop := Claim7.holds Tryd.pinned (.plain (OpenSpec.upto codecLinesSpec)) codecLinesUptoCard

/-- THE SECOND FORM's CARD OF 'pouchlaw06.CodecLoose'. -/
def codecLooseUptoCard : Claim7 := { stood := { row := codecLooseUptoRow, standIns := [], harness := (true, "e8cdc14c6d6f9918f08922c8c0dff7cad2407fd662fbc2fbbce8d1f9da90772b"), looks := false }, kinds := [], alts := [], laidByText := true, laidKinds := [.data, .pinned], laidTests := true, laidLooks := .later }
def CodecLooseUptoCardSaid : Prop := Claim7.holds Tryd.pinned (.plain (OpenSpec.upto codecLooseSpec)) codecLooseUptoCard

/-- THE SECOND FORM's CARD OF 'pouchlaw06.CodecPlain'. -/
def codecPlainUptoCard : Claim7 := { stood := { row := codecPlainUptoRow, standIns := [], harness := (true, "e8cdc14c6d6f9918f08922c8c0dff7cad2407fd662fbc2fbbce8d1f9da90772b"), looks := false }, kinds := [], alts := [], laidByText := true, laidKinds := [.data, .pinned], laidTests := true, laidLooks := .later }
def CodecPlainUptoCardSaid : Prop := Claim7.holds Tryd.pinned (.plain (OpenSpec.upto codecPlainSpec)) codecPlainUptoCard
end Rows
end Go.Proofs.YtgkbjgmcgbnnaaaDoor
