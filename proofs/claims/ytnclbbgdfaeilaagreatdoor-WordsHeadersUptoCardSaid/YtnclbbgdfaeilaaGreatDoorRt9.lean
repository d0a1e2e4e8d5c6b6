/- Walks: header: what the laws lean on: Parse, Get, Unfold at a world that has the longest short string. -/
import Derived.Test.YtnclbbgdfaeilaaGreatDoorHd6
namespace Go.Proofs.YtnclbbgdfaeilaaGreatDoor
open Go.RowKit Pk Hd

/-- what the laws lean on -/
structure Rt (w : World) : Prop where
  ml : ∃ m : Int, w.cell? ⟨1, 0, none⟩ = some (.int .i64 m)
  lt : 1 < w.heap.size
theorem Rt.later {w w' : World} (h : Rt w) (hb : Below w.heap.size w w') : Rt w' := by
  obtain ⟨m, hm⟩ := h.ml
  exact ⟨⟨m, cell_later hb hm⟩, Nat.lt_of_lt_of_le h.lt hb.size⟩
def Truth (w : World) (e : Ending) (w' : World) : Prop := e = .returned (.bool true) ∧ Below w.heap.size w w'
theorem sees_later {w w' : World} {v : Value} {m : List Fld} (h : seesG fldLay w w.heap.size 41 v m) (hb : Below w.heap.size w w') : seesG fldLay w' w'.heap.size 41 v m := h.later hb (Nat.le_refl _)
theorem parse_rt (s : ByteArray) (w : World) (h : Rt w) (hs : s.size ≤ 1000000) : Calls Tryz.prog 8 #[.string s] w (ParIs s w) := by
  obtain ⟨m, hm⟩ := h.ml
  exact parse_any s w m hm hs
theorem get_rt (v : Value) (m : List Fld) (s : ByteArray) (w : World) (h : Rt w) (hs : s.size ≤ 10000000) (hm : m.length ≤ 1000000) (hz : ∀ x ∈ m, x.name.size ≤ 1000000 ∧ x.value.size ≤ 1000000) (hM : seesG fldLay w w.heap.size 41 v m) :
    Calls Tryz.prog 10 #[v, .string s] w (GetIs (allV m s.data.toList) w) := by
  obtain ⟨q, hq⟩ := h.ml
  exact get_any v m s w hs hm hz q hq hM
theorem unfold_rt (s : ByteArray) (w : World) (h : Rt w) (hs : s.size ≤ 100000000) : Calls Tryz.prog 65 #[.string s] w fun e w' => e = .returned (.string (toB (unfoldL s.data.toList))) ∧ Below w.heap.size w w' := by
  obtain ⟨q, hq⟩ := h.ml
  exact unfold_any s w q hq hs
theorem sees_slice {w : World} {C : Nat} {v : Value} {m : List Fld} (h : seesG fldLay w C 41 v m) (n : Nat) (hn : m.length = n) (hm : 0 < n) : ∃ g c, v = .slice (some ⟨g, 0, none⟩) n c ∧ n ≤ c ∧ g < C ∧ ∀ j (hj : j < m.length), w.cell? ⟨g, j * 4, none⟩ = some (.string m[j].name) ∧ w.cell? ⟨g, j * 4 + 1, none⟩ = some (.string m[j].value) ∧ w.cell? ⟨g, j * 4 + 2, none⟩ = some (.string m[j].raw) ∧ w.cell? ⟨g, j * 4 + 3, none⟩ = some (.bool m[j].bad) := by
  obtain ⟨p, c, h1, h2, h3⟩ := h.form
  rcases h3 with h3 | ⟨g, rfl, h4, h5⟩
  · subst h3; simp at hn; omega
  · subst hn; exact ⟨g, c, h1, h2, h4, fun j hj => fld_cells (h5 j hj)⟩
end Go.Proofs.YtnclbbgdfaeilaaGreatDoor
