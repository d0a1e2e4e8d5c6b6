/- What chapter 01's rows give their walks; a world for the witnesses of the cards. -/
import Derived.Test.YtjlbnboggcnamaaDoorCards
import Derived.Test.YtjlbnboggcnamaaDoorTie
import Derived.WalkKit
import Derived.ProofKit
import Derived.OpenShut
import Derived.ChangeMaps5
import Derived.Deep.DeepHandedRow
import Derived.Deep.DeepWitnessRowRef
import Derived.LaidMore
import Derived.Lib.LaidTab
import GoSem.PinnedTables
import Derived.Test.YtjlbnboggcnamaaDoorLaw1
namespace Go.Proofs.YtjlbnboggcnamaaDoor
open Go.ChangeShapes Go.WideShapes Go.ChangeAt Go.RowKit C1

theorem own1 : ownKnob Tryd.prog.godebug = none := by kernel_rfl
noncomputable def laidWorld (os : Os) : World := World.doorLaid Tryd.prog 62 os
theorem i64_of_wf {n : Int} (h : (Lit.int .i64 n).wf = true) : -9223372036854775808 ≤ n ∧ n ≤ 9223372036854775807 := by
  simp [Lit.wf, IntKind.min, IntKind.max, IntKind.signed, IntKind.bits] at h
  omega
theorem iface_of_trod {H : Type} {enc : TypeId × Value → H} {P : Program} {w : World} {base : Nat} {sp : Nat → Bool} {held : Bool} {fuel : Nat} {t : TypeId} {cs : List Value} {ms : _} {n : String} {d : DataW H} {p : List MemPlace}
    (hu : P.underlying t = some (.interface ms)) (h : DataW.trod enc P w base sp held fuel t cs = some (.iface n d, p)) : ∃ u v, cs = [.iface u v] := by
  cases fuel with
  | zero => simp [DataW.trod] at h
  | succ fuel =>
    rcases cs with _ | ⟨x, _ | ⟨y, r⟩⟩
    · simp [DataW.trod, hu] at h
    · cases x <;> simp [DataW.trod, hu] at h
      exact ⟨_, _, rfl⟩
    · simp [DataW.trod, hu] at h
theorem pow_data {H : Type} : (Rows.laid_internal_strconv_uint64pow10 : DataW H) = Lib.tabData .u64 Lib.pow10Tab := rfl
theorem ready {W : World} (hL : laidMetH Tryd.prog Rows.numTellsRow.laid W) : Ready W := by
  have h : laidMet Tryd.prog Rows.numTellsRow.laid W := hL
  obtain ⟨ps, ⟨g0, t0, cs0, f0, p0, q0, hg0, ht0, hv0, hd0, ⟨g1, t1, cs1, f1, p1, q1, hg1, ht1, hv1, hd1, ⟨g2, t2, cs2, f2, p2, q2, hg2, ht2, hv2, hd2, ⟨g3, t3, cs3, f3, p3, q3, hg3, ht3, hv3, hd3, _, _⟩, _⟩, _⟩, _⟩, _⟩ := h
  have e2 := show Tryd.prog.globalNamed "internal/strconv.uint64pow10" = some 3 by kernel_rfl
  have e3 := show Tryd.prog.globalNamed "strconv.ErrRange" = some 1 by kernel_rfl
  obtain rfl := Option.some.inj (e2.symm.trans hg2)
  obtain rfl := Option.some.inj ((show (Tryd.prog.globals[3]?).map (·.type) = some 89 by kernel_rfl).symm.trans ht2)
  obtain rfl := Option.some.inj (e3.symm.trans hg3)
  obtain rfl := Option.some.inj ((show (Tryd.prog.globals[1]?).map (·.type) = some 36 by kernel_rfl).symm.trans ht3)
  refine ⟨?_, ?_⟩
  · unfold Tab Lib.TabIs
    rw [pow_data] at hd2
    have hcs : cs2.toList = Lib.pow10Tab.map fun z => Value.int .u64 z := Lib.cells_of_tab Tryd.underlying89 Tryd.underlying66 (by kernel_rfl) (by kernel_rfl) hd2
    rw [hv2, ← hcs]
  · obtain ⟨u, v, hc⟩ := iface_of_trod Tryd.underlying36 hd3
    refine ⟨.iface u v, ?_, .inr ⟨_, _, rfl⟩⟩
    have hv : cs3 = #[.iface u v] := by rw [← Array.toList_inj, hc]
    rw [hv] at hv3
    exact World.var?_cell e3 hv3 0
end Go.Proofs.YtjlbnboggcnamaaDoor
