/- What chapter 11's rows give their walks (the longest short string); a world for the witnesses of the cards. -/
import Derived.Test.YtilccofdphohiaaGreatDoorCards
import Derived.Test.YtilccofdphohiaaGreatDoorTie
import Derived.WalkKit
import Derived.ProofKit
import Derived.OpenShut
import Derived.ChangeMaps5
import Derived.Deep.DeepHandedRow
import Derived.Deep.DeepWitnessRowRef
import Derived.LaidMore
import Derived.Lib.LaidTab
import GoSem.PinnedTables
import Derived.Test.YtilccofdphohiaaGreatDoorAdXY
namespace Go.Proofs.YtilccofdphohiaaGreatDoor
open Go.ChangeShapes Go.WideShapes Go.ChangeAt Go.RowKit Lib

theorem own1 : ownKnob Tryz.prog.godebug = none := by kernel_rfl
def tab1 : Array Value := (Go.Pinned.utf8FirstZ.map fun n : Nat => Value.int .u8 (n : Int)).toArray
def putRow (c : Array Value) : Obj → Obj
  | .cells _ t frozen => .cells c t frozen
  | o => o
noncomputable def laidWorld (os : Os) : World := { World.doorLaid Tryz.prog 69 os with heap := (World.doorLaid Tryz.prog 69 os).heap.modify 1 (putRow tab1) }
theorem i64_of_wf {n : Int} (h : (Lit.int .i64 n).wf = true) : -9223372036854775808 ≤ n ∧ n ≤ 9223372036854775807 := by
  simp [Lit.wf, IntKind.min, IntKind.max, IntKind.signed, IntKind.bits] at h
  omega
theorem cell_m {W : World} (h : W.ShapedOpen Tryz.prog) : ∃ m : Int, W.cell? ⟨0, 0, none⟩ = some (.int .i64 m) :=
  Go.Proofs.cell_of_shapedOpen_int (zero := #[.int .i64 0]) (t := 3) h (of_decide_eq_true (by kernel_rfl)) (by kernel_rfl) rfl (by kernel_rfl) (by kernel_rfl) Tryz.underlying3
theorem ra_of {W : World} (hsh : W.ShapedOpen Tryz.prog) : Ra W := cell_m hsh
end Go.Proofs.YtilccofdphohiaaGreatDoor
