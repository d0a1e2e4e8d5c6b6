/- What chapter 22's rows give their walks; a world for the witnesses of the cards. -/
import Derived.Test.YtjoipgekmnnlpaaGreatDoorSmW
import Derived.Test.YtjoipgekmnnlpaaGreatDoorSmGq
import Derived.Test.YtjoipgekmnnlpaaGreatDoorSmLs
import GoSem.PinnedTables
import Derived.ChangeSlices
import Derived.SliceStrings
import Derived.OpenShut
import Derived.WideShapes
namespace Go.Proofs.YtjoipgekmnnlpaaGreatDoor
open Go.ChangeShapes Go.WideShapes Go.ChangeAt Go.RowKit Lib Sm

theorem own1 : ownKnob Tryz.prog.godebug = none := by kernel_rfl
def tab1 : Array Value := (Go.Pinned.utf8FirstZ.map fun n : Nat => Value.int .u8 (n : Int)).toArray
def putRow (c : Array Value) : Obj → Obj
  | .cells _ t frozen => .cells c t frozen
  | o => o
noncomputable def laidWorld (os : Os) : World := { World.doorLaid Tryz.prog 200 os with heap := (World.doorLaid Tryz.prog 200 os).heap.modify 5 (putRow tab1) }
theorem i64_of_wf {n : Int} (h : (Lit.int .i64 n).wf = true) : -9223372036854775808 ≤ n ∧ n ≤ 9223372036854775807 := by
  simp [Lit.wf, IntKind.min, IntKind.max, IntKind.signed, IntKind.bits] at h
  omega
theorem cell_m {W : World} (h : W.ShapedOpen Tryz.prog) : ∃ m : Int, W.cell? ⟨3, 0, none⟩ = some (.int .i64 m) :=
  Go.Proofs.cell_of_shapedOpen_int (zero := #[.int .i64 0]) (t := 3) h (of_decide_eq_true (by kernel_rfl)) (by kernel_rfl) rfl (by kernel_rfl) (by kernel_rfl) Tryz.underlying3
theorem iface_of_trod {H : Type} {enc : TypeId × Value → H} {P : Program} {w : World} {base : Nat} {sp : Nat → Bool} {held : Bool} {fuel : Nat} {t : TypeId} {cs : List Value} {ms : _} {n : String} {d : DataW H} {p : List MemPlace}
    (hu : P.underlying t = some (.interface ms)) (h : DataW.trod enc P w base sp held fuel t cs = some (.iface n d, p)) : ∃ u v, cs = [.iface u v] := by
  cases fuel with
  | zero => simp [DataW.trod] at h
  | succ fuel =>
    rcases cs with _ | ⟨x, _ | ⟨y, r⟩⟩
    · simp [DataW.trod, hu] at h
    · cases x <;> simp [DataW.trod, hu] at h
      exact ⟨_, _, rfl⟩
    · simp [DataW.trod, hu] at h
theorem pow_data : (Rows.laid_internal_strconv_uint64pow10 : DataW Unit) = Lib.tabData .u64 Lib.pow10Tab := rfl
theorem u8x : U8Extra Tryz.prog Tryz.lays260_ren where
  n3 := by kernel_rfl
  n4 := by kernel_rfl
  y3 := by kernel_rfl
  y4 := by kernel_rfl
  c5 := by kernel_rfl
  c119 := by kernel_rfl
  c138 := by kernel_rfl
theorem first_data : (Rows.laid_unicode_utf8_first : DataW Unit) = firstData := by kernel_rfl
theorem accept_data : (Rows.laid_unicode_utf8_acceptRanges : DataW Unit) = acceptData := by kernel_rfl
theorem ctx_of {W : World} (h : laidMet Tryz.prog Rows.smtpTellsRow.laid W) (hsh : W.ShapedOpen Tryz.prog) : Ctx W.heap.size W := by
  obtain ⟨g2, t2, cs2, f2, p2, hg2, ht2, hv2, hd2⟩ := Lib.laidMet.reads h (n := "internal/strconv.uint64pow10") (.tail _ (.tail _ (.head _)))
  obtain ⟨g3, t3, cs3, f3, p3, hg3, ht3, hv3, hd3⟩ := Lib.laidMet.reads h (n := "strconv.ErrRange") (.tail _ (.tail _ (.tail _ (.tail _ (.head _)))))
  have e2 := show Tryz.prog.globalNamed "internal/strconv.uint64pow10" = some 4 by kernel_rfl
  have e3 := show Tryz.prog.globalNamed "strconv.ErrRange" = some 2 by kernel_rfl
  obtain rfl := Option.some.inj (e2.symm.trans hg2)
  obtain rfl := Option.some.inj ((show (Tryz.prog.globals[4]?).map (·.type) = some 156 by kernel_rfl).symm.trans ht2)
  obtain rfl := Option.some.inj (e3.symm.trans hg3)
  obtain rfl := Option.some.inj ((show (Tryz.prog.globals[2]?).map (·.type) = some 71 by kernel_rfl).symm.trans ht3)
  have h4 := Lib.laidMet.reads h (n := "unicode/utf8.acceptRanges") (.tail _ (.tail _ (.tail _ (.head _))))
  have h5 := Lib.laidMet.reads h (n := "unicode/utf8.first") (.tail _ (.tail _ (.tail _ (.tail _ (.tail _ (.tail _ (.tail _ (.head _))))))))
  rw [accept_data] at h4
  rw [first_data] at h5
  refine ⟨W, rfl, said_of h, ?_, utf8Tabs_of_reads Tryz.lays260 u8x h5 h4, cell_m hsh, ?_, Below.refl _ _⟩
  rotate_left
  · obtain ⟨u, v, hc⟩ := iface_of_trod Tryz.underlying71 hd3
    refine ⟨.iface u v, ?_, .inr ⟨_, _, rfl⟩⟩
    have hv : cs3 = #[.iface u v] := by rw [← Array.toList_inj, hc]
    rw [hv] at hv3
    exact World.var?_cell e3 hv3 0
  · unfold TabN Lib.TabIs
    rw [pow_data] at hd2
    have hcs : cs2.toList = Lib.pow10Tab.map fun z => Value.int .u64 z := Lib.cells_of_tab Tryz.underlying156 Tryz.underlying134 (by kernel_rfl) (by kernel_rfl) hd2
    rw [hv2, ← hcs]
set_option maxRecDepth 100000 in
theorem laidOut : laidOutB Tryz.prog = true := by kernel_rfl
set_option maxRecDepth 100000 in
theorem strs_of {H : Type} {enc : TypeId × Value → H} {W : World} {v : Value} {d : DataW H} {p : List MemPlace} {base : Nat} (hv : Value.okWide Tryz.prog W .any base 22 v) (h : DataW.Trod enc Tryz.prog W 0 (fun _ => true) true 22 v d p) : ∃ ns : List ByteArray, ∃ p c, v = .slice p ns.length c ∧ ns.length ≤ c ∧ (ns = [] ∨ ∃ g o, p = some ⟨g, o, none⟩ ∧ ∀ j (hj : j < ns.length), W.cell? ⟨g, o + j, none⟩ = some (.string ns[j])) := by
  obtain ⟨fuel, hf⟩ := h
  obtain ⟨a0, len0, cap0, rfl⟩ := WideShapes.okWide_slice Tryz.underlying22 hv
  rcases ChangeShapes.open_strings Tryz.underlying22 Tryz.underlying9 (by kernel_rfl) hf with ⟨hc, -⟩ | ⟨a, len, cap, zs, hc, -, h1, h2, h3, -, h4, -⟩
  · have hc : Value.slice a0 len0 cap0 = .slice none 0 0 := List.head_eq_of_cons_eq hc
    exact ⟨[], none, 0, hc, Nat.le_refl _, .inl rfl⟩
  · have hc : Value.slice a0 len0 cap0 = .slice (some a) len cap := List.head_eq_of_cons_eq hc
    rw [if_pos rfl] at h3
    have hl : (zs.take len).length = len := by rw [List.length_take]; omega
    refine ⟨zs.take len, some a, cap, by rw [hl]; exact hc, by rw [hl]; exact h1, ?_⟩
    by_cases h0 : len = 0
    · left; rw [h0, List.take_zero]
    · right
      obtain ⟨b, off, spot⟩ := a
      have hspot : spot = none := by simpa [Addr.add] using World.cell?_spot (h4 0 (by omega))
      subst hspot
      refine ⟨b, off, rfl, fun j hj => ?_⟩
      rw [hl] at hj
      rw [← Go.WideShapes.add_plain, h4 j (by omega), List.getElem_take]
      congr 2
      rw [List.getD_eq_getElem?_getD, List.getElem?_eq_getElem (by omega)]; rfl
set_option maxRecDepth 100000 in
theorem intsK {H : Type} {enc : TypeId × Value → H} {W : World} {v : Value} {d : DataW H} {p : List MemPlace} {base : Nat} {t e : TypeId} {k : IntKind} (ht : Tryz.prog.underlying t = some (.slice e)) (he : Tryz.prog.underlying e = some (.int k)) (hce : Tryz.prog.cellsOf e = 1) (hv : Value.okWide Tryz.prog W .any base t v) (h : DataW.Trod enc Tryz.prog W 0 (fun _ => true) true t v d p) : ∃ ns : List Int, IntIn k W.heap.size W v ns ∧ ∀ n ∈ ns, (Lit.int k n).wf = true := by
  obtain ⟨fuel, hf⟩ := h
  obtain ⟨a0, len0, cap0, rfl⟩ := WideShapes.okWide_slice ht hv
  rcases ChangeShapes.open_ints ht he hce hf with ⟨hc, -⟩ | ⟨a, len, cap, zs, hc, -, h1, h2, h3, -, h4, h6⟩
  · have hc : Value.slice a0 len0 cap0 = .slice none 0 0 := List.head_eq_of_cons_eq hc
    exact ⟨[], ⟨none, 0, hc, Nat.le_refl _, .inl rfl⟩, fun n hn => by cases hn⟩
  · have hc : Value.slice a0 len0 cap0 = .slice (some a) len cap := List.head_eq_of_cons_eq hc
    rw [if_pos rfl] at h3
    have hl : (zs.take len).length = len := by rw [List.length_take]; omega
    refine ⟨zs.take len, ⟨some a, cap, by rw [hl]; exact hc, by rw [hl]; exact h1, ?_⟩, fun n hn => h6 n (List.mem_of_mem_take hn)⟩
    by_cases h0 : len = 0
    · left; rw [h0, List.take_zero]
    · right
      obtain ⟨b, off, spot⟩ := a
      have hspot : spot = none := by simpa [Addr.add] using World.cell?_spot (h4 0 (by omega))
      subst hspot
      have h40 := h4 0 (by omega)
      refine ⟨b, off, ?_, rfl, fun j hj => ?_⟩
      · exact World.block_lt_of_cell? _ _ h40
      · rw [hl] at hj
        rw [← Go.WideShapes.add_plain, h4 j (by omega), List.getElem_take]
        congr 2
        rw [List.getD_eq_getElem?_getD, List.getElem?_eq_getElem (by omega)]; rfl
end Go.Proofs.YtjoipgekmnnlpaaGreatDoor
