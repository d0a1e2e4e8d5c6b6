/-
  DERIVED. GIVEN WITH THE SEED: THE CARDS: each row of YtlgnhngbmciaoaaDoorRows.lean that lists a variable, with what it lists TIED to the program's text (the seventh form; the later family's looks); each row that meets fmt, with fmt's text TOLD by the authors' own Lean function (tested against real Go, not proved from fmt's source: count such statements apart). THE CARD IS WHAT COUNTS. Prove the row's statement (the work); the ties are given (YtlgnhngbmciaoaaDoorTie.lean); close each card by the builder's one call (the guide's Derived/Test/ToyasCard.lean, 'card_holds'). Laid BY PROGRAM, IN A SANDBOX (cutbox-door.mjs). By AI agents, Wed Nov 11 2026. No macro, syntax, notation, axiom, sorry.
-/
import Derived.Test.YtlgnhngbmciaoaaDoorRows
import GoSem.ClaimSeven
namespace Go.Proofs.YtlgnhngbmciaoaaDoor
namespace Rows

/-- THE TIED CARD OF 'pouchlaw07.DateBack'. -/
def dateBackCard : Claim7 := { stood := { row := dateBackRow, standIns := [], harness := (true, "9208dd85c5d62d49b970edbc3dc2ba25c80fb8a12d15fea76da28e059f6044d7"), looks := false }, kinds := [], alts := [], laidByText := true, laidKinds := [.data, .data, .data, .data, .widerDeep, .widerDeep, .pinned, .pinned], laidTests := true, laidLooks := .later }
def DateBackCardSaid : Prop := Claim7.holds Tryd.pinned (.plain (OpenSpec.ofChange dateBackSpec)) dateBackCard

/-- THE TIED CARD OF 'pouchlaw07.DateDays'. -/
def dateDaysCard : Claim7 := { stood := { row := dateDaysRow, standIns := [], harness := (true, "9208dd85c5d62d49b970edbc3dc2ba25c80fb8a12d15fea76da28e059f6044d7"), looks := false }, kinds := [], alts := [], laidByText := true, laidKinds := [.data, .data, .data, .data, .widerDeep, .widerDeep, .pinned, .pinned], laidTests := true, laidLooks := .later }
def DateDaysCardSaid : Prop := Claim7.holds Tryd.pinned (.plain (OpenSpec.ofChange dateDaysSpec)) dateDaysCard

/-- THE TIED CARD OF 'pouchlaw07.DateZones'. -/
def dateZonesCard : Claim7 := { stood := { row := dateZonesRow, standIns := [], harness := (true, "9208dd85c5d62d49b970edbc3dc2ba25c80fb8a12d15fea76da28e059f6044d7"), looks := false }, kinds := [], alts := [], laidByText := true, laidKinds := [.data, .data, .data, .data, .widerDeep, .widerDeep, .pinned, .pinned], laidTests := true, laidLooks := .later }
def DateZonesCardSaid : Prop := Claim7.holds Tryd.pinned (.plain (OpenSpec.ofChange dateZonesSpec)) dateZonesCard

/-- THE TIED CARD OF 'pouchlaw07.DateYears'. -/
def dateYearsCard : Claim7 := { stood := { row := dateYearsRow, standIns := [], harness := (true, "9208dd85c5d62d49b970edbc3dc2ba25c80fb8a12d15fea76da28e059f6044d7"), looks := false }, kinds := [], alts := [], laidByText := true, laidKinds := [.data, .data, .data, .data, .widerDeep, .widerDeep, .pinned, .pinned], laidTests := true, laidLooks := .later }
def DateYearsCardSaid : Prop := Claim7.holds Tryd.pinned (.plain (OpenSpec.ofChange dateYearsSpec)) dateYearsCard

/-- THE SECOND FORM's CARD OF 'pouchlaw07.DateBack'. -/
def dateBackUptoCard : Claim7 := { stood := { row := dateBackUptoRow, standIns := [], harness := (true, "9208dd85c5d62d49b970edbc3dc2ba25c80fb8a12d15fea76da28e059f6044d7"), looks := false }, kinds := [], alts := [], laidByText := true, laidKinds := [.data, .data, .data, .data, .widerDeep, .widerDeep, .pinned, .pinned], laidTests := true, laidLooks := .later }
def DateBackUptoCardSaid : Prop := Claim7.holds Tryd.pinned (.plain (OpenSpec.upto dateBackSpec)) dateBackUptoCard

/-- THE SECOND FORM's CARD OF 'pouchlaw07.DateDays'. -/
def dateDaysUptoCard : Claim7 := { stood := { row := dateDaysUptoRow, standIns := [], harness := (true, "9208dd85c5d62d49b970edbc3dc2ba25c80fb8a12d15fea76da28e059f6044d7"), looks := false }, kinds := [], alts := [], laidByText := true, laidKinds := [.data, .data, .data, .data, .widerDeep, .widerDeep, .pinned, .pinned], laidTests := true, laidLooks := .later }
def DateDaysUptoCardSaid : Prop := Claim7.holds Tryd.pinned (.plain (OpenSpec.upto dateDaysSpec)) dateDaysUptoCard

/-- THE SECOND FORM's CARD OF 'pouchlaw07.DateZones'. -/
def dateZonesUptoCard : Claim7 := { stood := { row := dateZonesUptoRow, standIns := [], harness := (true, "9208dd85c5d62d49b970edbc3dc2ba25c80fb8a12d15fea76da28e059f6044d7"), looks := false }, kinds := [], alts := [], laidByText := true, laidKinds := [.data, .data, .data, .data, .widerDeep, .widerDeep, .pinned, .pinned], laidTests := true, laidLooks := .later }
def DateZonesUptoCardSaid : Prop := Claim7.holds Tryd.pinned (.plain (OpenSpec.upto dateZonesSpec)) dateZonesUptoCard

/-- THE SECOND FORM's CARD OF 'pouchlaw07.DateYears'. -/
def dateYearsUptoCard : Claim7 := { stood := { row := dateYearsUptoRow, standIns := [], harness := (true, "9208dd85c5d62d49b970edbc3dc2ba25c80fb8a12d15fea76da28e059f6044d7"), looks := false }, kinds := [], alts := [], laidByText := true, laidKinds := [.data, .data, .data, .data, .widerDeep, .widerDeep, .pinned, .pinned], laidTests := true, laidLooks := .later }
def DateYearsUptoCardSaid : Prop := Claim7.holds Tryd.pinned (.plain (OpenSpec.upto dateYearsSpec)) dateYearsUptoCard
end Rows
end Go.Proofs.YtlgnhngbmciaoaaDoor
