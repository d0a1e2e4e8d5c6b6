/- What chapter 24's rows give their walks; a world for the witnesses of the cards. -/
import Derived.Test.YtgimgkjggaijoaaGreatDoorCards
import Derived.Test.YtgimgkjggaijoaaGreatDoorTie
import Derived.WalkKit
import Derived.ProofKit
import Derived.OpenShut
import Derived.ChangeMaps5
import Derived.Deep.DeepHandedRow
import Derived.Deep.DeepWitnessRowRef
import Derived.LaidMore
import Derived.Lib.LaidTab
import Derived.Lib.LaidU8
import GoSem.PinnedTables
import Derived.Test.YtgimgkjggaijoaaGreatDoorSvGO
namespace Go.Proofs.YtgimgkjggaijoaaGreatDoor
open Go.ChangeShapes Go.WideShapes Go.ChangeAt Go.RowKit Lib

theorem own1 : ownKnob Tryz.prog.godebug = none := by kernel_rfl
def tab1 : Array Value := (Go.Pinned.utf8FirstZ.map fun n : Nat => Value.int .u8 (n : Int)).toArray
def putRow (c : Array Value) : Obj → Obj
  | .cells _ t frozen => .cells c t frozen
  | o => o
noncomputable def laidWorld (os : Os) : World := { World.doorLaid Tryz.prog 72 os with heap := (World.doorLaid Tryz.prog 72 os).heap.modify 4 (putRow tab1) }
theorem i64_of_wf {n : Int} (h : (Lit.int .i64 n).wf = true) : -9223372036854775808 ≤ n ∧ n ≤ 9223372036854775807 := by
  simp [Lit.wf, IntKind.min, IntKind.max, IntKind.signed, IntKind.bits] at h
  omega
theorem cell_m {W : World} (h : W.ShapedOpen Tryz.prog) : ∃ m : Int, W.cell? ⟨0, 0, none⟩ = some (.int .i64 m) :=
  Go.Proofs.cell_of_shapedOpen_int (zero := #[.int .i64 0]) (t := 3) h (of_decide_eq_true (by kernel_rfl)) (by kernel_rfl) rfl (by kernel_rfl) (by kernel_rfl) Tryz.underlying3
theorem iface_of_trod {H : Type} {enc : TypeId × Value → H} {P : Program} {w : World} {base : Nat} {sp : Nat → Bool} {held : Bool} {fuel : Nat} {t : TypeId} {cs : List Value} {ms : _} {n : String} {d : DataW H} {p : List MemPlace}
    (hu : P.underlying t = some (.interface ms)) (h : DataW.trod enc P w base sp held fuel t cs = some (.iface n d, p)) : ∃ u v, cs = [.iface u v] := by
  cases fuel with
  | zero => simp [DataW.trod] at h
  | succ fuel =>
    rcases cs with _ | ⟨x, _ | ⟨y, r⟩⟩
    · simp [DataW.trod, hu] at h
    · cases x <;> simp [DataW.trod, hu] at h
      exact ⟨_, _, rfl⟩
    · simp [DataW.trod, hu] at h
theorem pow_data : (Rows.laid_internal_strconv_uint64pow10 : DataW Unit) = Lib.tabData .u64 Lib.pow10Tab := rfl
theorem lw_of {W : World} (h : laidMet Tryz.prog Rows.sieveRowsRow.laid W) (hsh : W.ShapedOpen Tryz.prog) : LW W ∧ TabN W := by
  obtain ⟨g2, t2, cs2, f2, p2, hg2, ht2, hv2, hd2⟩ := Lib.laidMet.reads h (n := "internal/strconv.uint64pow10") (.tail _ (.tail _ (.head _)))
  obtain ⟨g3, t3, cs3, f3, p3, hg3, ht3, hv3, hd3⟩ := Lib.laidMet.reads h (n := "strconv.ErrRange") (.tail _ (.tail _ (.tail _ (.tail _ (.head _)))))
  have e2 := show Tryz.prog.globalNamed "internal/strconv.uint64pow10" = some 1 by kernel_rfl
  have e3 := show Tryz.prog.globalNamed "strconv.ErrRange" = some 3 by kernel_rfl
  obtain rfl := Option.some.inj (e2.symm.trans hg2)
  obtain rfl := Option.some.inj ((show (Tryz.prog.globals[1]?).map (·.type) = some 210 by kernel_rfl).symm.trans ht2)
  obtain rfl := Option.some.inj (e3.symm.trans hg3)
  obtain rfl := Option.some.inj ((show (Tryz.prog.globals[3]?).map (·.type) = some 72 by kernel_rfl).symm.trans ht3)
  refine ⟨⟨cell_m hsh, ?_⟩, ?_⟩
  · obtain ⟨u, v, hc⟩ := iface_of_trod Tryz.underlying72 hd3
    refine ⟨.iface u v, ?_, .inr ⟨_, _, rfl⟩⟩
    have hv : cs3 = #[.iface u v] := by rw [← Array.toList_inj, hc]
    rw [hv] at hv3
    exact World.var?_cell e3 hv3 0
  · unfold TabN Lib.TabIs
    rw [pow_data] at hd2
    have hcs : cs2.toList = Lib.pow10Tab.map fun z => Value.int .u64 z := Lib.cells_of_tab Tryz.underlying210 Tryz.underlying182 (by kernel_rfl) (by kernel_rfl) hd2
    rw [hv2, ← hcs]
end Go.Proofs.YtgimgkjggaijoaaGreatDoor
