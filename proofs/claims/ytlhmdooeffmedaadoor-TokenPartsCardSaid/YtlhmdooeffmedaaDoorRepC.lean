/- Walks: (*strings.byteStringReplacer).Replace and (*strings.Replacer).Replace. -/
import Derived.Test.YtlhmdooeffmedaaDoorRepB
import Derived.Test.YtlhmdooeffmedaaDoorRepP
namespace Go.Proofs.YtlhmdooeffmedaaDoor
open Go.RowKit Pk Rp

set_option maxRecDepth 100000 in
theorem once_build (r g cp : Nat) (ps : List (UInt8 × ByteArray)) (w : World) (hn : ps.length ≤ 100) (h1 : 2 ≤ ps.length) (hnd : (ps.map (·.1)).Nodup) (hnew : (ps.all fun p => p.2.size == 1) = false)
    (hrow : ∃ x0 x1 x2 x3, w.heap[r]? = some (.cells #[x0, x1, x2, x3, .slice (some ⟨g, 0, none⟩) (2 * ps.length) cp] 71 (0, 0))) (hc : ∀ j (h : j < (inter ps).length), w.cell? ⟨g, j, none⟩ = some (.string (inter ps)[j])) :
    Calls Tryd.prog 29 #[.pointer (some ⟨r, 0, none⟩)] w fun e w' => e = .returned (.tuple #[]) ∧ ∃ R w2, Tab w2 R w.heap.size ps ∧ w.heap.size ≤ R ∧ Below w.heap.size w w2 ∧ w' = (w2.setCell ⟨r, 3, none⟩ (.iface 94 (.pointer (some ⟨R, 0, none⟩)))).setCell ⟨r, 4, none⟩ (.slice none 0 0) := by
  obtain ⟨x0, x1, x2, x3, hrow⟩ := hrow
  have hr := lt_of_block hrow
  have hB := build_any r g cp ps w hn h1 hnd hnew ((Lib.cell_of_heap hrow 4).trans rfl) hc
  have HB := Lib.hid hB
  have HROW := Lib.hid hrow
  clear hB hc hrow
  go_enter Tryd.func29, Tryd.ntmps29
  go_upto_region 1 with (go_at_call 35; (with_reducible refine HB.out.mono ?_); rintro e w2 ⟨R, rfl, hR, hT, hb2⟩; have c3 := (Lib.cell_of_heap ((hb2.block r hr).trans HROW.out) 3).trans rfl; have f3 := frozen_of (j := 3) ((hb2.block r hr).trans HROW.out))
  have hrow2 := (hb2.block r hr).trans HROW.out
  obtain ⟨cs3, hrow3, -⟩ := row_set (j := 3) (x := .iface 94 (.pointer (some ⟨R, 0, none⟩))) hrow2
  have f4 := frozen_of (j := 4) hrow3
  have c4 := (World.cell?_setCell_other w2 ⟨r, 3, none⟩ ⟨r, 4, none⟩ (.iface 94 (.pointer (some ⟨R, 0, none⟩))) (by simp)).trans ((Lib.cell_of_heap hrow2 4).trans rfl)
  have HT := Lib.hid hT
  clear hrow2 hrow3 c3 f3 hT
  go_wp2
  go_end0
  exact ⟨rfl, R, w2, HT.out, hR, hb2, rfl⟩
theorem Tab.kept {w w' : World} {R B : Nat} {ps : List (UInt8 × ByteArray)} (h : Tab w R B ps) (hR : w'.heap[R]? = w.heap[R]?) (hk : ∀ (g : Nat) (cur : Array Value) (fz : Nat × Nat), (w.heap[g]? = some (Obj.cells cur 5 fz) ∨ w.heap[g]? = some (Obj.cells cur 9 fz)) → w'.heap[g]? = w.heap[g]?) : Tab w' R B ps := by
  obtain ⟨cs, hrow, hsz⟩ := h.row
  refine ⟨⟨cs, hR.trans hrow, hsz⟩, fun c => ?_, ?_⟩
  · obtain ⟨v, hv, hl⟩ := h.tab c
    refine ⟨v, (cell_of_heapR hR _).trans hv, ?_⟩
    cases hq : ps.lookup c with
    | none => rw [hq] at hl; exact hl
    | some s =>
      rw [hq] at hl
      exact SliceB.keeps hl fun g cur fz hg => hk g cur fz (.inl hg)
  · obtain ⟨v, hv, hown⟩ := h.tr
    exact ⟨v, (cell_of_heapR hR _).trans hv, ownsS.kept hown fun g cur fz hg => hk g cur fz (.inr hg)⟩
theorem Tab.below {w w' : World} {R B : Nat} {ps : List (UInt8 × ByteArray)} (h : Tab w R B ps) (hb : Below w.heap.size w w') : Tab w' R B ps := by
  obtain ⟨cs, hrow, hsz⟩ := h.row
  exact h.kept (hb.block R (lt_of_block hrow)) fun g cur fz hg => by
    rcases hg with hg | hg <;> exact hb.block g (lt_of_block hg)
/-- a write into another block leaves the table -/
theorem Tab.set {w : World} {R B r j : Nat} {ps : List (UInt8 × ByteArray)} {cs : Array Value} {fz : Nat × Nat} {x : Value} (h : Tab w R B ps) (hr : w.heap[r]? = some (Obj.cells cs 71 fz)) : Tab (w.setCell ⟨r, j, none⟩ x) R B ps := by
  obtain ⟨cs', hrow, hsz⟩ := h.row
  exact h.kept (Below.heap_setCell _ _ _ _ (other_type hrow hr (by decide))) fun g cur fz hg => by
    rcases hg with hg | hg <;> exact Below.heap_setCell _ _ _ _ (other_type hg hr (by decide))
end Go.Proofs.YtlhmdooeffmedaaDoor
