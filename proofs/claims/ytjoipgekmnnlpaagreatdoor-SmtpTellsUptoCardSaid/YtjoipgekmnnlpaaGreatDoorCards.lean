/-
  DERIVED. GIVEN WITH THE SEED: THE CARDS: each row of YtjoipgekmnnlpaaGreatDoorRows.lean that lists a variable, with what it lists TIED to the program's text (the seventh form; the later family's looks); each row that meets fmt, with fmt's text TOLD by the authors' own Lean function (tested against real Go, not proved from fmt's source: count such statements apart). THE CARD IS WHAT COUNTS. Prove the row's statement (the work); the ties are given (YtjoipgekmnnlpaaGreatDoorTie.lean); close each card by the builder's one call (the guide's Derived/Test/ToyasCard.lean, 'card_holds'). Laid BY PROGRAM, IN A SANDBOX (cutbox-door.mjs). By AI agents, Wed Nov 11 2026. No macro, syntax, notation, axiom, sorry.
-/
import Derived.Test.YtjoipgekmnnlpaaGreatDoorRows
import GoSem.ClaimSeven
namespace Go.Proofs.YtjoipgekmnnlpaaGreatDoor
namespace Rows

/-- THE TIED CARD OF 'pouchlaw22.SmtpTells'. -/
def smtpTellsCard : Claim7 := { stood := { row := smtpTellsRow, standIns := [], harness := (true, "40fe7d99c746dde4f3ab5ab71456f3325219e31193761f3e0ac3f35933537ba3"), looks := true }, kinds := [], alts := [], laidByText := true, laidKinds := [.data, .data, .data, .data, .sentinel, .sentinel, .mapped, .pinned], laidTests := true, laidLooks := .later }
def SmtpTellsCardSaid : Prop := Claim7.holds Tryz.pinned (.plain (OpenSpec.ofChange smtpTellsSpec)) smtpTellsCard

/-- THE TIED CARD OF 'pouchlaw22.SmtpPieces'. -/
def smtpPiecesCard : Claim7 := { stood := { row := smtpPiecesRow, standIns := [], harness := (true, "40fe7d99c746dde4f3ab5ab71456f3325219e31193761f3e0ac3f35933537ba3"), looks := true }, kinds := [], alts := [], laidByText := true, laidKinds := [.data, .data, .data, .data, .sentinel, .sentinel, .mapped, .pinned], laidTests := true, laidLooks := .later }
def SmtpPiecesCardSaid : Prop := Claim7.holds Tryz.pinned (.plain (OpenSpec.ofChange smtpPiecesSpec)) smtpPiecesCard

/-- THE TIED CARD OF 'pouchlaw22.SmtpHello'. -/
def smtpHelloCard : Claim7 := { stood := { row := smtpHelloRow, standIns := [], harness := (true, "40fe7d99c746dde4f3ab5ab71456f3325219e31193761f3e0ac3f35933537ba3"), looks := true }, kinds := [], alts := [], laidByText := true, laidKinds := [.data, .data, .data, .data, .sentinel, .sentinel, .mapped, .pinned], laidTests := true, laidLooks := .later }
def SmtpHelloCardSaid : Prop := Claim7.holds Tryz.pinned (.plain (OpenSpec.ofChange smtpHelloSpec)) smtpHelloCard

/-- THE TIED CARD OF 'pouchlaw22.SmtpKeeps'. -/
def smtpKeepsCard : Claim7 := { stood := { row := smtpKeepsRow, standIns := [], harness := (true, "40fe7d99c746dde4f3ab5ab71456f3325219e31193761f3e0ac3f35933537ba3"), looks := true }, kinds := [], alts := [], laidByText := true, laidKinds := [.data, .data, .data, .data, .sentinel, .sentinel, .mapped, .pinned], laidTests := true, laidLooks := .later }
def SmtpKeepsCardSaid : Prop := Claim7.holds Tryz.pinned (.plain (OpenSpec.ofChange smtpKeepsSpec)) smtpKeepsCard

/-- THE TIED CARD OF 'pouchlaw22.SmtpHands'. -/
def smtpHandsCard : Claim7 := { stood := { row := smtpHandsRow, standIns := [], harness := (true, "40fe7d99c746dde4f3ab5ab71456f3325219e31193761f3e0ac3f35933537ba3"), looks := true }, kinds := [], alts := [], laidByText := true, laidKinds := [.data, .data, .data, .data, .sentinel, .sentinel, .mapped, .pinned], laidTests := true, laidLooks := .later }
def SmtpHandsCardSaid : Prop := Claim7.holds Tryz.pinned (.plain (OpenSpec.ofChange smtpHandsSpec)) smtpHandsCard

/-- THE SECOND FORM's CARD OF 'pouchlaw22.SmtpTells'. -/
def smtpTellsUptoCard : Claim7 := { stood := { row := smtpTellsUptoRow, standIns := [], harness := (true, "40fe7d99c746dde4f3ab5ab71456f3325219e31193761f3e0ac3f35933537ba3"), looks := true }, kinds := [], alts := [], laidByText := true, laidKinds := [.data, .data, .data, .data, .sentinel, .sentinel, .mapped, .pinned], laidTests := true, laidLooks := .later }
def SmtpTellsUptoCardSaid : Prop := Claim7.holds Tryz.pinned (.plain (OpenSpec.upto smtpTellsSpec)) smtpTellsUptoCard

/-- THE SECOND FORM's CARD OF 'pouchlaw22.SmtpPieces'. -/
def smtpPiecesUptoCard : Claim7 := { stood := { row := smtpPiecesUptoRow, standIns := [], harness := (true, "40fe7d99c746dde4f3ab5ab71456f3325219e31193761f3e0ac3f35933537ba3"), looks := true }, kinds := [], alts := [], laidByText := true, laidKinds := [.data, .data, .data, .data, .sentinel, .sentinel, .mapped, .pinned], laidTests := true, laidLooks := .later }
def SmtpPiecesUptoCardSaid : Prop := Claim7.holds Tryz.pinned (.plain (OpenSpec.upto smtpPiecesSpec)) smtpPiecesUptoCard

/-- THE SECOND FORM's CARD OF 'pouchlaw22.SmtpHello'. -/
def smtpHelloUptoCard : Claim7 := { stood := { row := smtpHelloUptoRow, standIns := [], harness := (true, "40fe7d99c746dde4f3ab5ab71456f3325219e31193761f3e0ac3f35933537ba3"), looks := true }, kinds := [], alts := [], laidByText := true, laidKinds := [.data, .data, .data, .data, .sentinel, .sentinel, .mapped, .pinned], laidTests := true, laidLooks := .later }
def SmtpHelloUptoCardSaid : Prop := Claim7.holds Tryz.pinned (.plain (OpenSpec.upto smtpHelloSpec)) smtpHelloUptoCard

/-- THE SECOND FORM's CARD OF 'pouchlaw22.SmtpKeeps'. -/
def smtpKeepsUptoCard : Claim7 := { stood := { row := smtpKeepsUptoRow, standIns := [], harness := (true, "40fe7d99c746dde4f3ab5ab71456f3325219e31193761f3e0ac3f35933537ba3"), looks := true }, kinds := [], alts := [], laidByText := true, laidKinds := [.data, .data, .data, .data, .sentinel, .sentinel, .mapped, .pinned], laidTests := true, laidLooks := .later }
def SmtpKeepsUptoCardSaid : Prop := Claim7.holds Tryz.pinned (.plain (OpenSpec.upto smtpKeepsSpec)) smtpKeepsUptoCard

/-- THE SECOND FORM's CARD OF 'pouchlaw22.SmtpHands'. -/
def smtpHandsUptoCard : Claim7 := { stood := { row := smtpHandsUptoRow, standIns := [], harness := (true, "40fe7d99c746dde4f3ab5ab71456f3325219e31193761f3e0ac3f35933537ba3"), looks := true }, kinds := [], alts := [], laidByText := true, laidKinds := [.data, .data, .data, .data, .sentinel, .sentinel, .mapped, .pinned], laidTests := true, laidLooks := .later }
def SmtpHandsUptoCardSaid : Prop := Claim7.holds Tryz.pinned (.plain (OpenSpec.upto smtpHandsSpec)) smtpHandsUptoCard
end Rows
end Go.Proofs.YtjoipgekmnnlpaaGreatDoor
