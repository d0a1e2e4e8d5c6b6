/-
  DERIVED. GIVEN WITH THE SEED: THE CARDS: each row of YtgimgkjggaijoaaGreatDoorRows.lean that lists a variable, with what it lists TIED to the program's text (the seventh form; the later family's looks); each row that meets fmt, with fmt's text TOLD by the authors' own Lean function (tested against real Go, not proved from fmt's source: count such statements apart). THE CARD IS WHAT COUNTS. Prove the row's statement (the work); the ties are given (YtgimgkjggaijoaaGreatDoorTie.lean); close each card by the builder's one call (the guide's Derived/Test/ToyasCard.lean, 'card_holds'). Laid BY PROGRAM, IN A SANDBOX (cutbox-door.mjs). By AI agents, Wed Nov 11 2026. No macro, syntax, notation, axiom, sorry.
-/
import Derived.Test.YtgimgkjggaijoaaGreatDoorRows
import GoSem.ClaimSeven
namespace Go.Proofs.YtgimgkjggaijoaaGreatDoor
namespace Rows

/-- THE TIED CARD OF 'pouchlaw24.SieveRows'. -/
def sieveRowsCard : Claim7 := { stood := { row := sieveRowsRow, standIns := [], harness := (true, "dfb8680e5255681704adb799735784a5bfa5d321877e2587d6a2c0618f74db4e"), looks := true }, kinds := [], alts := [], laidByText := true, laidKinds := [.data, .data, .data, .data, .sentinel, .sentinel, .pinned], laidTests := true, laidLooks := .later }
def SieveRowsCardSaid : Prop := Claim7.holds Tryz.pinned (.plain (OpenSpec.ofChange sieveRowsSpec)) sieveRowsCard

/-- THE TIED CARD OF 'pouchlaw24.SieveDeep'. -/
def sieveDeepCard : Claim7 := { stood := { row := sieveDeepRow, standIns := [], harness := (true, "dfb8680e5255681704adb799735784a5bfa5d321877e2587d6a2c0618f74db4e"), looks := true }, kinds := [], alts := [], laidByText := true, laidKinds := [.data, .data, .data, .data, .sentinel, .sentinel, .pinned], laidTests := true, laidLooks := .later }
def SieveDeepCardSaid : Prop := Claim7.holds Tryz.pinned (.plain (OpenSpec.ofChange sieveDeepSpec)) sieveDeepCard

/-- THE TIED CARD OF 'pouchlaw24.SieveTells'. -/
def sieveTellsCard : Claim7 := { stood := { row := sieveTellsRow, standIns := [], harness := (true, "dfb8680e5255681704adb799735784a5bfa5d321877e2587d6a2c0618f74db4e"), looks := true }, kinds := [], alts := [], laidByText := true, laidKinds := [.data, .data, .data, .data, .sentinel, .sentinel, .pinned], laidTests := true, laidLooks := .later }
def SieveTellsCardSaid : Prop := Claim7.holds Tryz.pinned (.plain (OpenSpec.ofChange sieveTellsSpec)) sieveTellsCard

/-- THE TIED CARD OF 'pouchlaw24.SieveBack'. -/
def sieveBackCard : Claim7 := { stood := { row := sieveBackRow, standIns := [], harness := (true, "dfb8680e5255681704adb799735784a5bfa5d321877e2587d6a2c0618f74db4e"), looks := true }, kinds := [], alts := [], laidByText := true, laidKinds := [.data, .data, .data, .data, .sentinel, .sentinel, .pinned], laidTests := true, laidLooks := .later }
def SieveBackCardSaid : Prop := Claim7.holds Tryz.pinned (.plain (OpenSpec.ofChange sieveBackSpec)) sieveBackCard

/-- THE TIED CARD OF 'pouchlaw24.SieveBlanks'. -/
def sieveBlanksCard : Claim7 := { stood := { row := sieveBlanksRow, standIns := [], harness := (true, "dfb8680e5255681704adb799735784a5bfa5d321877e2587d6a2c0618f74db4e"), looks := true }, kinds := [], alts := [], laidByText := true, laidKinds := [.data, .data, .data, .data, .sentinel, .sentinel, .pinned], laidTests := true, laidLooks := .later }
def SieveBlanksCardSaid : Prop := Claim7.holds Tryz.pinned (.plain (OpenSpec.ofChange sieveBlanksSpec)) sieveBlanksCard

/-- THE SECOND FORM's CARD OF 'pouchlaw24.SieveRows'. -/
def sieveRowsUptoCard : Claim7 := { stood := { row := sieveRowsUptoRow, standIns := [], harness := (true, "dfb8680e5255681704adb799735784a5bfa5d321877e2587d6a2c0618f74db4e"), looks := true }, kinds := [], alts := [], laidByText := true, laidKinds := [.data, .data, .data, .data, .sentinel, .sentinel, .pinned], laidTests := true, laidLooks := .later }
def SieveRowsUptoCardSaid : Prop := Claim7.holds Tryz.pinned (.plain (OpenSpec.upto sieveRowsSpec)) sieveRowsUptoCard

/-- THE SECOND FORM's CARD OF 'pouchlaw24.SieveDeep'. -/
def sieveDeepUptoCard : Claim7 := { stood := { row := sieveDeepUptoRow, standIns := [], harness := (true, "dfb8680e5255681704adb799735784a5bfa5d321877e2587d6a2c0618f74db4e"), looks := true }, kinds := [], alts := [], laidByText := true, laidKinds := [.data, .data, .data, .data, .sentinel, .sentinel, .pinned], laidTests := true, laidLooks := .later }
def SieveDeepUptoCardSaid : Prop := Claim7.holds Tryz.pinned (.plain (OpenSpec.upto sieveDeepSpec)) sieveDeepUptoCard

/-- THE SECOND FORM's CARD OF 'pouchlaw24.SieveTells'. -/
def sieveTellsUptoCard : Claim7 := { stood := { row := sieveTellsUptoRow, standIns := [], harness := (true, "dfb8680e5255681704adb799735784a5bfa5d321877e2587d6a2c0618f74db4e"), looks := true }, kinds := [], alts := [], laidByText := true, laidKinds := [.data, .data, .data, .data, .sentinel, .sentinel, .pinned], laidTests := true, laidLooks := .later }
def SieveTellsUptoCardSaid : Prop := Claim7.holds Tryz.pinned (.plain (OpenSpec.upto sieveTellsSpec)) sieveTellsUptoCard

/-- THE SECOND FORM's CARD OF 'pouchlaw24.SieveBack'. -/
def sieveBackUptoCard : Claim7 := { stood := { row := sieveBackUptoRow, standIns := [], harness := (true, "dfb8680e5255681704adb799735784a5bfa5d321877e2587d6a2c0618f74db4e"), looks := true }, kinds := [], alts := [], laidByText := true, laidKinds := [.data, .data, .data, .data, .sentinel, .sentinel, .pinned], laidTests := true, laidLooks := .later }
def SieveBackUptoCardSaid : Prop := Claim7.holds Tryz.pinned (.plain (OpenSpec.upto sieveBackSpec)) sieveBackUptoCard

/-- THE SECOND FORM's CARD OF 'pouchlaw24.SieveBlanks'. -/
def sieveBlanksUptoCard : Claim7 := { stood := { row := sieveBlanksUptoRow, standIns := [], harness := (true, "dfb8680e5255681704adb799735784a5bfa5d321877e2587d6a2c0618f74db4e"), looks := true }, kinds := [], alts := [], laidByText := true, laidKinds := [.data, .data, .data, .data, .sentinel, .sentinel, .pinned], laidTests := true, laidLooks := .later }
def SieveBlanksUptoCardSaid : Prop := Claim7.holds Tryz.pinned (.plain (OpenSpec.upto sieveBlanksSpec)) sieveBlanksUptoCard
end Rows
end Go.Proofs.YtgimgkjggaijoaaGreatDoor
