/- What chapter 07's rows give their walks (the tables of the dates, the powers of ten, the longest short string); a world for the witnesses of the cards. -/
import Derived.Test.YtlgnhngbmciaoaaDoorCards
import Derived.Test.YtlgnhngbmciaoaaDoorTie
import Derived.WalkKit
import Derived.ProofKit
import Derived.OpenShut
import Derived.ChangeMaps5
import Derived.Deep.DeepHandedRow
import Derived.Deep.DeepWitnessRowRef
import Derived.LaidMore
import Derived.Lib.LaidTab
import Derived.Lib.LaidU8
import Derived.Lib.LaidCaseMet
import GoSem.PinnedTables
import Derived.Test.YtlgnhngbmciaoaaDoorDtS7
namespace Go.Proofs.YtlgnhngbmciaoaaDoor
open Go.ChangeShapes Go.WideShapes Go.ChangeAt Go.RowKit _root_.Go.Lib

theorem own1 : ownKnob Tryd.prog.godebug = none := by kernel_rfl
theorem i64_of_wf {n : Int} (h : (Lit.int .i64 n).wf = true) : -9223372036854775808 ≤ n ∧ n ≤ 9223372036854775807 := by
  simp [Lit.wf, IntKind.min, IntKind.max, IntKind.signed, IntKind.bits] at h
  omega
/-- an array of strings that reads as a list of strings holds them -/
theorem cells_of_strs {H : Type} {enc : TypeId × Value → H} {P : Program} {w : World} {base : Nat} {sp : Nat → Bool} {held : Bool} {fuel : Nat} {t e : TypeId} {n : Nat} {cs : List Value} {zs : List (List UInt8)} {p : List MemPlace}
    (ht : P.underlying t = some (.array n e)) (he : P.underlying e = some .string) (hce : P.cellsOf e = 1) (hct : P.cellsOf t = n)
    (h : DataW.trod enc P w base sp held fuel t cs = some (.agg (zs.map fun z => .lit (.string z)), p)) : cs = zs.map fun z => Value.string ⟨z.toArray⟩ := by
  cases fuel with
  | zero => simp [DataW.trod] at h
  | succ fuel =>
    simp only [DataW.trod, ht, hce, hct, Nat.mul_one] at h
    split at h
    · rename_i hl
      obtain ⟨xs, hm, hx⟩ := Option.map_eq_some_iff.1 h
      have hxs : xs.map (·.1) = zs.map fun z => (DataW.lit (.string z) : DataW H) := by
        have := congrArg Prod.fst hx
        simpa using this
      have hxl : xs.length = n := by simpa using mapM_length hm
      have hzl : zs.length = n := by
        have := congrArg List.length hxs
        simp at this
        omega
      apply List.ext_getElem?
      intro i
      by_cases hi : i < n
      · obtain ⟨b, hb, hf⟩ := mapM_at hm i i (by simp [hi])
        obtain ⟨z, hc, rfl, _⟩ := DataW.trod_string he hf
        have h1 : cs[i]? = some (.string z) := by
          have := congrArg (·[0]?) hc
          simpa [List.getElem?_take, List.getElem?_drop] using this
        have h2 : (xs.map (·.1))[i]? = some (DataW.lit (.string z.data.toList) : DataW H) := by simp [hb]
        rw [hxs] at h2
        simp only [List.getElem?_map, Option.map_eq_some_iff, DataW.lit.injEq, Lit.string.injEq] at h2
        obtain ⟨z', hz', e⟩ := h2
        simp [h1, hz', e]
      · rw [List.getElem?_eq_none (by omega), List.getElem?_eq_none (by simp; omega)]
    · cases h
theorem cell_m {W : World} (h : W.ShapedOpen Tryd.prog) : ∃ m : Int, W.cell? ⟨2, 0, none⟩ = some (.int .i64 m) :=
  Go.Proofs.cell_of_shapedOpen_int (zero := #[.int .i64 0]) (t := 3) h (of_decide_eq_true (by kernel_rfl)) (by kernel_rfl) rfl (by kernel_rfl) (by kernel_rfl) Tryd.underlying3
theorem pow_data {H : Type} : (Rows.laid_internal_strconv_uint64pow10 : DataW H) = Lib.tabData .u64 Lib.pow10Tab := rfl
theorem wd_data {H : Type} : (Rows.laid_pouch_date_weekdays : DataW H) = .agg (Dt.wdays.map fun z => .lit (.string z)) := rfl
theorem mo_data {H : Type} : (Rows.laid_pouch_date_months : DataW H) = .agg (Dt.mons.map fun z => .lit (.string z)) := rfl
theorem tab_of {W : World} (h : VarReads Tryd.prog W "internal/strconv.uint64pow10" Rows.laid_internal_strconv_uint64pow10) : Tab W := by
  obtain ⟨g, t, cs, fuel, p, hg, hty, hvar, hd⟩ := h
  obtain rfl := Option.some.inj ((show Tryd.prog.globalNamed "internal/strconv.uint64pow10" = some 6 by kernel_rfl).symm.trans hg)
  obtain rfl := Option.some.inj ((show (Tryd.prog.globals[6]?).map (·.type) = some 116 by kernel_rfl).symm.trans hty)
  unfold Tab Lib.TabIs
  rw [pow_data] at hd
  have hcs : cs.toList = Lib.pow10Tab.map fun z => Value.int .u64 z := Lib.cells_of_tab Tryd.underlying116 Tryd.underlying83 (by kernel_rfl) (by kernel_rfl) hd
  rw [hvar, ← hcs]
theorem wd_of {W : World} (h : VarReads Tryd.prog W "pouch/date.weekdays" Rows.laid_pouch_date_weekdays) (j : Nat) (hj : j < 7) : W.cell? ⟨0, j, none⟩ = some (.string (wdB j)) := by
  obtain ⟨g, t, cs, fuel, p, hg, hty, hvar, hd⟩ := h
  have hgg := hg
  obtain rfl := Option.some.inj ((show Tryd.prog.globalNamed "pouch/date.weekdays" = some 0 by kernel_rfl).symm.trans hg)
  obtain rfl := Option.some.inj ((show (Tryd.prog.globals[0]?).map (·.type) = some 41 by kernel_rfl).symm.trans hty)
  rw [wd_data] at hd
  have hcs := cells_of_strs Tryd.underlying41 Tryd.underlying9 (by kernel_rfl) (by kernel_rfl) hd
  rw [World.var?_cell hgg hvar j, ← Array.getElem?_toList, hcs, List.getElem?_map]
  have hl : j < Dt.wdays.length := hj
  unfold wdB
  rw [List.getElem?_eq_getElem hl]; rfl
theorem mo_of {W : World} (h : VarReads Tryd.prog W "pouch/date.months" Rows.laid_pouch_date_months) (j : Nat) (hj : j < 12) : W.cell? ⟨1, j, none⟩ = some (.string (moB j)) := by
  obtain ⟨g, t, cs, fuel, p, hg, hty, hvar, hd⟩ := h
  have hgg := hg
  obtain rfl := Option.some.inj ((show Tryd.prog.globalNamed "pouch/date.months" = some 1 by kernel_rfl).symm.trans hg)
  obtain rfl := Option.some.inj ((show (Tryd.prog.globals[1]?).map (·.type) = some 42 by kernel_rfl).symm.trans hty)
  rw [mo_data] at hd
  have hcs := cells_of_strs Tryd.underlying42 Tryd.underlying9 (by kernel_rfl) (by kernel_rfl) hd
  rw [World.var?_cell hgg hvar j, ← Array.getElem?_toList, hcs, List.getElem?_map]
  have hl : j < Dt.mons.length := hj
  unfold moB
  rw [List.getElem?_eq_getElem hl]; rfl
def laid7 : List (String × DataW Unit) := [("math/bits.deBruijn32tab", Rows.laid_math_bits_deBruijn32tab), ("math/bits.deBruijn64tab", Rows.laid_math_bits_deBruijn64tab), ("internal/strconv.uint64pow10", Rows.laid_internal_strconv_uint64pow10), ("unicode/utf8.acceptRanges", Rows.laid_unicode_utf8_acceptRanges), ("pouch/date.weekdays", Rows.laid_pouch_date_weekdays), ("pouch/date.months", Rows.laid_pouch_date_months)]
theorem rd_of {W : World} (hL : laidMetH Tryd.prog Rows.dateBackRow.laid W) (hsh : W.ShapedOpen Tryd.prog) : Rd7 W := by
  have h : laidMet Tryd.prog (laid7 ++ [("unicode.CaseRanges", Rows.laid_unicode_CaseRanges), ("unicode/utf8.first", Rows.laid_unicode_utf8_first)]) W := hL
  obtain ⟨ps, hv, -, -⟩ := h
  have hr := LaidVars_reads hv
  refine ⟨tab_of (hr _ _ (by simp [laid7])), cell_m hsh, fun j hj => wd_of (hr _ _ (by simp [laid7])) j hj, fun j hj => mo_of (hr _ _ (by simp [laid7])) j hj⟩
/-! the witness -/
def tab1 : Array Value := (Go.Pinned.utf8FirstZ.map fun n : Nat => Value.int .u8 (n : Int)).toArray
def putRow (c : Array Value) : Obj → Obj
  | .cells _ t frozen => .cells c t frozen
  | o => o
noncomputable def laidWorld (os : Os) : World :=
  { World.doorLaid Tryd.prog 100 os with heap := (((World.doorLaid Tryd.prog 100 os).heap.modify 4 (putRow tab1)).modify 3 (putRow #[.slice (some ⟨(World.doorLaid Tryd.prog 100 os).heap.size, 0, none⟩) 336 336])).push (.cells Lib.caseCells5 122 (0, 0)) }
theorem LaidVars_split {P : Program} {w : World} : ∀ {l l' : List (String × DataW Unit)} {ps : List MemPlace}, DataW.LaidVars P w (l ++ l') ps → ∃ p q, DataW.LaidVars P w l p ∧ DataW.LaidVars P w l' q ∧ ps = p ++ q
  | [], l', ps, h => ⟨[], ps, rfl, h, rfl⟩
  | (n, d) :: r, l', ps, h => by
    obtain ⟨g, t, cs, fuel, p, q, h1, h2, h3, h4, h5, rfl⟩ := h
    obtain ⟨p', q', h6, h7, rfl⟩ := LaidVars_split (l := r) h5
    exact ⟨_, q', ⟨g, t, cs, fuel, p, p', h1, h2, h3, h4, h6, rfl⟩, h7, by simp [List.append_assoc]⟩
theorem laid_swap {P : Program} {w : World} {l : List (String × DataW Unit)} {x y : String × DataW Unit} (h : laidMet P (l ++ [x] ++ [y]) w) : laidMet P (l ++ [y, x]) w := by
  obtain ⟨ps, hv, hn, hc⟩ := h
  obtain ⟨p1, p2, h1, h2, rfl⟩ := LaidVars_split hv
  obtain ⟨p0, p3, h3, h4, rfl⟩ := LaidVars_split h1
  refine ⟨p0 ++ (p2 ++ p3), LaidVars_append h3 (LaidVars_append (l := [y]) (l' := [x]) h2 h4), ?_, fun b off hb => hc b off ?_⟩
  · have hp : (p0 ++ p3 ++ p2).Perm (p0 ++ (p2 ++ p3)) := by
      rw [List.append_assoc]
      exact List.Perm.append_left p0 List.perm_append_comm
    exact hp.nodup_iff.1 hn
  · simp only [List.mem_append] at hb ⊢
    rcases hb with hb | hb | hb
    · exact .inl (.inl hb)
    · exact .inr hb
    · exact .inl (.inr hb)
def ren7 : Go.Shelf.Ren := ⟨Tryd.lays274_ren.f, Tryd.lays274_ren.t, fun | 13 => 3 | n => n⟩
theorem laid_met7 (os : Os) (args : Array Value) : laidMet Tryd.prog Rows.dateBackRow.laid ((laidWorld os).forCall (fun _ _ => 0) ⟨#[], args, []⟩).memory := by
  have h : laidMet Tryd.prog ((laid7 ++ [("unicode/utf8.first", Rows.laid_unicode_utf8_first)]) ++ [("unicode.CaseRanges", Lib.caseData)]) ((laidWorld os).forCall (fun _ _ => 0) ⟨#[], args, []⟩).memory :=
    laidMet_with_case (ρ := ren7) { Tryd.lays274 with } (by kernel_rfl) ⟨by kernel_rfl, by kernel_rfl, by kernel_rfl, by kernel_rfl, by kernel_rfl, by kernel_rfl⟩
      (l := laid7 ++ [("unicode/utf8.first", Rows.laid_unicode_utf8_first)])
      10 (by kernel_rfl) (by kernel_rfl) (by kernel_rfl) (World.doorLaid Tryd.prog 100 default).heap.size 122 (of_decide_eq_true (by kernel_rfl)) (by kernel_rfl) (by kernel_rfl) (by kernel_rfl)
  have hc : (Rows.laid_unicode_CaseRanges : DataW Unit) = Lib.caseData := by kernel_rfl
  have := laid_swap h
  rw [← hc] at this
  exact this
end Go.Proofs.YtlgnhngbmciaoaaDoor
