/- What the row of SubjectFields gives its walk (the tables of UTF-8, the spans, the longest short string); a world for the witness of the card. -/
import Derived.Test.YtnclbbgdfaeilaaGreatDoorCards
import Derived.Test.YtnclbbgdfaeilaaGreatDoorTie
import Derived.WalkKit
import Derived.ProofKit
import Derived.OpenShut
import Derived.ChangeMaps5
import Derived.Deep.DeepHandedRow
import Derived.Deep.DeepWitnessRowRef
import Derived.LaidMore
import Derived.Lib.LaidTab
import Derived.Lib.LaidU8
import GoSem.PinnedTables
import Derived.Test.YtnclbbgdfaeilaaGreatDoorSfL
namespace Go.Proofs.YtnclbbgdfaeilaaGreatDoor.Sf
open Go.ChangeShapes Go.WideShapes Go.ChangeAt Go.RowKit Fo Lib

theorem own1 : ownKnob Tryz.prog.godebug = none := by kernel_rfl
def tab1 : Array Value := (Go.Pinned.utf8FirstZ.map fun n : Nat => Value.int .u8 (n : Int)).toArray
def putRow (c : Array Value) : Obj → Obj
  | .cells _ t frozen => .cells c t frozen
  | o => o
noncomputable def laidWorld (os : Os) : World := { World.doorLaid Tryz.prog 69 os with heap := (World.doorLaid Tryz.prog 69 os).heap.modify 2 (putRow tab1) }
theorem i64_of_wf {n : Int} (h : (Lit.int .i64 n).wf = true) : -9223372036854775808 ≤ n ∧ n ≤ 9223372036854775807 := by
  simp [Lit.wf, IntKind.min, IntKind.max, IntKind.signed, IntKind.bits] at h
  omega
theorem u8x : U8Extra Tryz.prog Tryz.lays260_ren where
  n3 := by kernel_rfl
  n4 := by kernel_rfl
  y3 := by kernel_rfl
  y4 := by kernel_rfl
  c5 := by kernel_rfl
  c119 := by kernel_rfl
  c138 := by kernel_rfl
def spanRow (i : Nat) : List Int := [spLo i, spHi i, spSt i, spMo i]
theorem spans_data {H : Type} : (Rows.laid_pouch_fold_spans : DataW H) = .slice ((List.range 17).map fun i => .agg ((spanRow i).map fun z => .lit (.int .i32 z))) [] := rfl
theorem spanFields : ∃ fs, Tryz.prog.underlying 126 = some (.struct fs) ∧ fs.size = 4 ∧ ∀ (i : Nat) (f : Field), fs[i]? = some f → Tryz.prog.underlying f.type = some (.int .i32) ∧ f.offset = i ∧ Tryz.prog.cellsOf f.type = 1 := by
  refine ⟨_, Tryz.underlying126, rfl, fun i f hf => ?_⟩
  rcases i with _ | _ | _ | _ | i
  all_goals simp at hf
  all_goals subst hf
  all_goals exact ⟨by kernel_rfl, rfl, by kernel_rfl⟩
theorem spans_of {w : World} (h : VarReads Tryz.prog w "pouch/fold.spans" Rows.laid_pouch_fold_spans) : ∃ b off cap, SpansAt w b off cap := by
  obtain ⟨g, t, cs, fuel, p, hg, hty, hvar, hd⟩ := h
  obtain rfl := Option.some.inj ((show Tryz.prog.globalNamed "pouch/fold.spans" = some 0 by kernel_rfl).symm.trans hg)
  obtain rfl := Option.some.inj ((show (Tryz.prog.globals[0]?).map (·.type) = some 124 by kernel_rfl).symm.trans hty)
  rw [spans_data] at hd
  rcases DataW.trod_slice Tryz.underlying124 hd with ⟨_, hx'⟩ | ⟨a', len, cap, el, rs, m, rfl, hc0, hx', _, hlc, _, hel, helem, hsp, _⟩
  · cases hx'
  have e0 := congrArg Prod.fst hx'
  simp only [DataW.slice.injEq] at e0
  obtain ⟨eE, eR⟩ := e0
  have hlen : len = 17 := by
    have := congrArg List.length eE
    simp at this
    omega
  subst hlen
  obtain ⟨fs, hfs, hfz, hff⟩ := spanFields
  have hc4 : Tryz.prog.cellsOf 126 = 4 := by kernel_rfl
  have hrow : ∀ i, i < 17 → ∀ j, j < 4 → w.cell? ((a'.add (i * 4)).add j) = ((spanRow i).map fun z => Value.int .i32 z)[j]? := by
    intro i hi j hj
    have h1 := helem i hi
    rw [hc4] at h1
    obtain ⟨b, hb⟩ : ∃ b, el[i]? = some b := ⟨el[i]'(by omega), List.getElem?_eq_getElem (by omega)⟩
    rw [hb] at h1
    obtain ⟨ce, hce, hte⟩ := Option.bind_eq_some_iff.1 h1
    have hb1 : b.1 = .agg ((spanRow i).map fun z => .lit (.int .i32 z)) := by
      have := congrArg (·[i]?) eE
      simp only [List.getElem?_map, hb, Option.map_some] at this
      rw [List.getElem?_range hi] at this
      simp only [Option.map_some, Option.some.injEq] at this
      exact this.symm
    have hte' : DataW.trod (fun _ => ()) Tryz.prog w 0 (fun _ => true) false m 126 ce = some (.agg ((spanRow i).map fun z => .lit (.int .i32 z)), b.2) := by rw [← hb1]; exact hte
    have hcs := ints_of_struct hfs hff (by rw [hc4, hfz]) hte'
    obtain ⟨_, _, hcc⟩ := World.cells?_some hce
    rw [hcc j hj, hcs]
  obtain ⟨R, oR, sR⟩ := a'
  obtain rfl : sR = none := by
    have h00 := hrow 0 (by omega) 0 (by omega)
    have : (Addr.add (Addr.add ⟨R, oR, sR⟩ (0 * 4)) 0) = ⟨R, oR, sR⟩ := by simp [Addr.add]
    rw [this] at h00
    exact cell_spot h00
  refine ⟨R, oR, cap, ?_, hlc, fun i hi => ?_⟩
  · rw [World.var?_cell hg hvar 0, ← Array.getElem?_toList, hc0]
    rfl
  · have k0 := hrow i hi 0 (by omega)
    have k1 := hrow i hi 1 (by omega)
    have k2 := hrow i hi 2 (by omega)
    have k3 := hrow i hi 3 (by omega)
    rw [Addr.add_lit, Addr.add_lit] at k0 k1 k2 k3
    exact ⟨k0, k1, k2, k3⟩
theorem first_data : (Rows.laid_unicode_utf8_first : DataW Unit) = firstData := by kernel_rfl
theorem accept_data : (Rows.laid_unicode_utf8_acceptRanges : DataW Unit) = acceptData := by kernel_rfl
theorem cell_m {W : World} (h : W.ShapedOpen Tryz.prog) : ∃ m : Int, W.cell? ⟨1, 0, none⟩ = some (.int .i64 m) :=
  Go.Proofs.cell_of_shapedOpen_int (zero := #[.int .i64 0]) (t := 3) h (of_decide_eq_true (by kernel_rfl)) (by kernel_rfl) rfl (by kernel_rfl) (by kernel_rfl) Tryz.underlying3
theorem rds_of {W : World} (h : laidMet Tryz.prog [("unicode/utf8.acceptRanges", Rows.laid_unicode_utf8_acceptRanges), ("pouch/fold.spans", Rows.laid_pouch_fold_spans), ("unicode/utf8.first", Rows.laid_unicode_utf8_first)] W) (hsh : W.ShapedOpen Tryz.prog) : RdS W := by
  have h1 := Lib.laidMet.reads h (.head _)
  have h2 := Lib.laidMet.reads h (.tail _ (.head _))
  have h3 := Lib.laidMet.reads h (.tail _ (.tail _ (.head _)))
  rw [accept_data] at h1
  rw [first_data] at h3
  exact ⟨⟨utf8Tabs_of_reads Tryz.lays260 u8x h3 h1, cell_m hsh⟩, spans_of h2⟩
end Go.Proofs.YtnclbbgdfaeilaaGreatDoor.Sf
