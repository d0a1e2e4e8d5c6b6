/-
  DERIVED. GIVEN WITH THE SEED: THE CARDS: each row of YtilccofdphohiaaGreatDoorRows.lean that lists a variable, with what it lists TIED to the program's text (the seventh form; the later family's looks); each row that meets fmt, with fmt's text TOLD by the authors' own Lean function (tested against real Go, not proved from fmt's source: count such statements apart). THE CARD IS WHAT COUNTS. Prove the row's statement (the work); the ties are given (YtilccofdphohiaaGreatDoorTie.lean); close each card by the builder's one call (the guide's Derived/Test/ToyasCard.lean, 'card_holds'). Laid BY PROGRAM, IN A SANDBOX (cutbox-door.mjs). By AI agents, Wed Nov 11 2026. No macro, syntax, notation, axiom, sorry.
-/
import Derived.Test.YtilccofdphohiaaGreatDoorRows
import GoSem.ClaimSeven
namespace Go.Proofs.YtilccofdphohiaaGreatDoor
namespace Rows

/-- THE TIED CARD OF 'pouchlaw11.AddrTells'. -/
def addrTellsCard : Claim7 := { stood := { row := addrTellsRow, standIns := [], harness := (true, "66b33b175b5033b4bf0774de6588de598d79429375d79da8c03cc991e3dae0b1"), looks := true }, kinds := [], alts := [], laidByText := true, laidKinds := [.data, .pinned], laidTests := true, laidLooks := .later }
def AddrTellsCardSaid : Prop := Claim7.holds Tryz.pinned (.plain (OpenSpec.ofChange addrTellsSpec)) addrTellsCard

/-- THE TIED CARD OF 'pouchlaw11.AddrWrites'. -/
def addrWritesCard : Claim7 := { stood := { row := addrWritesRow, standIns := [], harness := (true, "66b33b175b5033b4bf0774de6588de598d79429375d79da8c03cc991e3dae0b1"), looks := true }, kinds := [], alts := [], laidByText := true, laidKinds := [.data, .pinned], laidTests := true, laidLooks := .later }
def AddrWritesCardSaid : Prop := Claim7.holds Tryz.pinned (.plain (OpenSpec.ofChange addrWritesSpec)) addrWritesCard

/-- THE TIED CARD OF 'pouchlaw11.AddrBack'. -/
def addrBackCard : Claim7 := { stood := { row := addrBackRow, standIns := [], harness := (true, "66b33b175b5033b4bf0774de6588de598d79429375d79da8c03cc991e3dae0b1"), looks := true }, kinds := [], alts := [], laidByText := true, laidKinds := [.data, .pinned], laidTests := true, laidLooks := .later }
def AddrBackCardSaid : Prop := Claim7.holds Tryz.pinned (.plain (OpenSpec.ofChange addrBackSpec)) addrBackCard

/-- THE TIED CARD OF 'pouchlaw11.AddrBoth'. -/
def addrBothCard : Claim7 := { stood := { row := addrBothRow, standIns := [], harness := (true, "66b33b175b5033b4bf0774de6588de598d79429375d79da8c03cc991e3dae0b1"), looks := true }, kinds := [], alts := [], laidByText := true, laidKinds := [.data, .pinned], laidTests := true, laidLooks := .later }
def AddrBothCardSaid : Prop := Claim7.holds Tryz.pinned (.plain (OpenSpec.ofChange addrBothSpec)) addrBothCard

/-- THE TIED CARD OF 'pouchlaw11.AddrBlanks'. -/
def addrBlanksCard : Claim7 := { stood := { row := addrBlanksRow, standIns := [], harness := (true, "66b33b175b5033b4bf0774de6588de598d79429375d79da8c03cc991e3dae0b1"), looks := true }, kinds := [], alts := [], laidByText := true, laidKinds := [.data, .pinned], laidTests := true, laidLooks := .later }
def AddrBlanksCardSaid : Prop := Claim7.holds Tryz.pinned (.plain (OpenSpec.ofChange addrBlanksSpec)) addrBlanksCard

/-- THE TIED CARD OF 'pouchlaw11.AddrIds'. -/
def addrIdsCard : Claim7 := { stood := { row := addrIdsRow, standIns := [], harness := (true, "66b33b175b5033b4bf0774de6588de598d79429375d79da8c03cc991e3dae0b1"), looks := true }, kinds := [], alts := [], laidByText := true, laidKinds := [.data, .pinned], laidTests := true, laidLooks := .later }
def AddrIdsCardSaid : Prop := Claim7.holds Tryz.pinned (.plain (OpenSpec.ofChange addrIdsSpec)) addrIdsCard

/-- THE TIED CARD OF 'pouchlaw11.AddrCanon'. -/
def addrCanonCard : Claim7 := { stood := { row := addrCanonRow, standIns := [], harness := (true, "66b33b175b5033b4bf0774de6588de598d79429375d79da8c03cc991e3dae0b1"), looks := true }, kinds := [], alts := [], laidByText := true, laidKinds := [.data, .pinned], laidTests := true, laidLooks := .later }
def AddrCanonCardSaid : Prop := Claim7.holds Tryz.pinned (.plain (OpenSpec.ofChange addrCanonSpec)) addrCanonCard

/-- THE SECOND FORM's CARD OF 'pouchlaw11.AddrTells'. -/
def addrTellsUptoCard : Claim7 := { stood := { row := addrTellsUptoRow, standIns := [], harness := (true, "66b33b175b5033b4bf0774de6588de598d79429375d79da8c03cc991e3dae0b1"), looks := true }, kinds := [], alts := [], laidByText := true, laidKinds := [.data, .pinned], laidTests := true, laidLooks := .later }
def AddrTellsUptoCardSaid : Prop := Claim7.holds Tryz.pinned (.plain (OpenSpec.upto addrTellsSpec)) addrTellsUptoCard

/-- THE SECOND FORM's CARD OF 'pouchlaw11.AddrWrites'. -/
def addrWritesUptoCard : Claim7 := { stood := { row := addrWritesUptoRow, standIns := [], harness := (true, "66b33b175b5033b4bf0774de6588de598d79429375d79da8c03cc991e3dae0b1"), looks := true }, kinds := [], alts := [], laidByText := true, laidKinds := [.data, .pinned], laidTests := true, laidLooks := .later }
def AddrWritesUptoCardSaid : Prop := Claim7.holds Tryz.pinned (.plain (OpenSpec.upto addrWritesSpec)) addrWritesUptoCard

/-- THE SECOND FORM's CARD OF 'pouchlaw11.AddrBack'. -/
def addrBackUptoCard : Claim7 := { stood := { row := addrBackUptoRow, standIns := [], harness := (true, "66b33b175b5033b4bf0774de6588de598d79429375d79da8c03cc991e3dae0b1"), looks := true }, kinds := [], alts := [], laidByText := true, laidKinds := [.data, .pinned], laidTests := true, laidLooks := .later }
def AddrBackUptoCardSaid : Prop := Claim7.holds Tryz.pinned (.plain (OpenSpec.upto addrBackSpec)) addrBackUptoCard

/-- THE SECOND FORM's CARD OF 'pouchlaw11.AddrBoth'. -/
def addrBothUptoCard : Claim7 := { stood := { row := addrBothUptoRow, standIns := [], harness := (true, "66b33b175b5033b4bf0774de6588de598d79429375d79da8c03cc991e3dae0b1"), looks := true }, kinds := [], alts := [], laidByText := true, laidKinds := [.data, .pinned], laidTests := true, laidLooks := .later }
def AddrBothUptoCardSaid : Prop := Claim7.holds Tryz.pinned (.plain (OpenSpec.upto addrBothSpec)) addrBothUptoCard

/-- THE SECOND FORM's CARD OF 'pouchlaw11.AddrBlanks'. -/
def addrBlanksUptoCard : Claim7 := { stood := { row := addrBlanksUptoRow, standIns := [], harness := (true, "66b33b175b5033b4bf0774de6588de598d79429375d79da8c03cc991e3dae0b1"), looks := true }, kinds := [], alts := [], laidByText := true, laidKinds := [.data, .pinned], laidTests := true, laidLooks := .later }
def AddrBlanksUptoCardSaid : Prop := Claim7.holds Tryz.pinned (.plain (OpenSpec.upto addrBlanksSpec)) addrBlanksUptoCard

/-- THE SECOND FORM's CARD OF 'pouchlaw11.AddrIds'. -/
def addrIdsUptoCard : Claim7 := { stood := { row := addrIdsUptoRow, standIns := [], harness := (true, "66b33b175b5033b4bf0774de6588de598d79429375d79da8c03cc991e3dae0b1"), looks := true }, kinds := [], alts := [], laidByText := true, laidKinds := [.data, .pinned], laidTests := true, laidLooks := .later }
def AddrIdsUptoCardSaid : Prop := Claim7.holds Tryz.pinned (.plain (OpenSpec.upto addrIdsSpec)) addrIdsUptoCard

/-- THE SECOND FORM's CARD OF 'pouchlaw11.AddrCanon'. -/
def addrCanonUptoCard : Claim7 := { stood := { row := addrCanonUptoRow, standIns := [], harness := (true, "66b33b175b5033b4bf0774de6588de598d79429375d79da8c03cc991e3dae0b1"), looks := true }, kinds := [], alts := [], laidByText := true, laidKinds := [.data, .pinned], laidTests := true, laidLooks := .later }
def AddrCanonUptoCardSaid : Prop := Claim7.holds Tryz.pinned (.plain (OpenSpec.upto addrCanonSpec)) addrCanonUptoCard
end Rows
end Go.Proofs.YtilccofdphohiaaGreatDoor
