/- Small laws of no program: a row of bytes that the call has made and writes: stores and copies into it. -/
import Derived.Test.YtgimgkjggaijoaaGreatDoorKitX
import Derived.Laws.CopyOwn
namespace Pk
open Go Go.RowKit

def rowZ (w : World) (g : Nat) (e : TypeId) (l : List UInt8) : Prop := ∃ cur : List Value, w.heap[g]? = some (.cells cur.toArray e (0, 0)) ∧ l.length ≤ cur.length ∧ cur.take l.length = Lib.byteCells l
theorem rowZ_owns {w : World} {B : Nat} {e : TypeId} {g n cap : Nat} {l : List UInt8} (h : ownsB w B e (.slice (some ⟨g, 0, none⟩) n cap) l) : rowZ w g e l := by
  rcases h.2 with ⟨h1, _⟩ | ⟨g', cap', cur, h1, h2, h3, h4, h5, h6, h7⟩
  · cases h1
  · injection h1 with h1 _ _
    injection h1 with h1
    injection h1 with h1
    subst h1
    have hl : cur.toList.length = cur.size := by simp
    refine ⟨cur.toList, by simpa using h3, by omega, ?_⟩
    rw [show l.length * 1 = l.length by omega] at h7
    exact h7
theorem rowZ_cell {w : World} {g : Nat} {e : TypeId} {l : List UInt8} (h : rowZ w g e l) (j : Nat) (hj : j < l.length) : w.cell? ⟨g, j, none⟩ = some (.int .u8 l[j].toNat) := by
  obtain ⟨cur, h1, h2, h3⟩ := h
  unfold World.cell?
  rw [h1]
  have e : cur[j]? = some (.int .u8 l[j].toNat) := by
    have := congrArg (·[j]?) h3
    simp only [List.getElem?_take, if_pos hj, Lib.byteCells, List.getElem?_map, List.getElem?_eq_getElem hj, Option.map_some] at this
    exact this
  simpa using e
theorem rowZ_frozen {w : World} {g j : Nat} {e : TypeId} {l : List UInt8} (h : rowZ w g e l) : w.frozen? ⟨g, j, none⟩ = false := by
  obtain ⟨cur, h1, h2, h3⟩ := h
  unfold World.frozen?
  rw [h1]; simp
theorem rowZ_lt {w : World} {g : Nat} {e : TypeId} {l : List UInt8} (h : rowZ w g e l) : g < w.heap.size := by
  obtain ⟨cur, h1, _⟩ := h
  exact lt_of_block h1
theorem rowZ_stored {w : World} {g : Nat} {e : TypeId} {l : List UInt8} (h : rowZ w g e l) (j : Nat) (x : Int) (h0 : 0 ≤ x) (h1 : x < 256) : rowZ (w.setCell ⟨g, j, none⟩ (.int .u8 x)) g e (l.set j (b8 x)) := by
  obtain ⟨cur, hc, h2, h3⟩ := h
  refine ⟨cur.set j (.int .u8 x), ?_, by simpa using h2, ?_⟩
  · unfold World.setCell
    have hlt : g < w.heap.size := lt_of_block hc
    rw [Array.getElem?_eq_getElem hlt] at hc
    simp only [Array.getElem?_modify]
    rw [Array.getElem?_eq_getElem hlt]
    injection hc with hc
    simp [hc]
  · rw [List.length_set, List.take_set, h3, byteCells_set l j x h0 h1]
/-- behind a copy of the bytes r to place j -/
theorem rowZ_splice {w : World} {g j : Nat} {e : TypeId} {l r : List UInt8} {cur : List Value} (h2 : l.length ≤ cur.length) (h3 : cur.take l.length = Lib.byteCells l) (hj : j + r.length ≤ l.length)
    (hw : w.heap[g]? = some (.cells (splice cur j (Lib.byteCells r)).toArray e (0, 0))) : rowZ w g e (l.take j ++ (r ++ l.drop (j + r.length))) := by
  have hr := Lib.byteCells_length r
  refine ⟨_, hw, ?_, ?_⟩
  · rw [length_splice _ _ _ (by omega), List.length_append, List.length_append, List.length_take, List.length_drop]; omega
  · have e1 : (l.take j ++ (r ++ l.drop (j + r.length))).length = l.length := by
      rw [List.length_append, List.length_append, List.length_take, List.length_drop]; omega
    rw [e1, Lib.byteCells_append, Lib.byteCells_append]
    unfold splice
    have a1 : Lib.byteCells (l.take j) = cur.take j := by
      have : Lib.byteCells (l.take j) = (Lib.byteCells l).take j := by simp [Lib.byteCells, List.map_take]
      rw [this, ← h3, List.take_take, Nat.min_eq_left (by omega)]
    have a2 : Lib.byteCells (l.drop (j + r.length)) = (cur.drop (j + (Lib.byteCells r).length)).take (l.length - (j + r.length)) := by
      have : Lib.byteCells (l.drop (j + r.length)) = (Lib.byteCells l).drop (j + r.length) := by simp [Lib.byteCells, List.map_drop]
      rw [this, ← h3, List.drop_take, hr]
    rw [a1, a2, List.take_append, List.take_append, List.length_take, hr, Nat.min_eq_left (by omega), List.take_take, Nat.min_eq_right (by omega), List.take_of_length_le (show (Lib.byteCells r).length ≤ l.length - j by omega), show l.length - j - r.length = l.length - (j + r.length) by omega]
theorem run_string_rowZ {P : Program} {w : World} {t e ts : TypeId} (hT : ByteSl P t e) (hs : P.underlying ts = some .string) {g n cap : Nat} {l : List UInt8} (h : rowZ w g e l) (hn : l.length = n) :
    (convert t ts (.slice (some ⟨g, 0, none⟩) n cap)).run P w = .ok (.string ⟨l.toArray⟩) w := by
  subst hn
  rw [run_convert_bytes_string w t ts e _ _ _ hT.ht hT.he hs]
  have e1 : (Lib.byteCells l) = (l.map fun b => (b.toNat : Int)).map (Value.int .u8) := by simp [Lib.byteCells]
  have hload : (loadCells ⟨g, 0, none⟩ l.length).run P w = .ok ((l.map fun b => (b.toNat : Int)).map (Value.int .u8)).toArray w := by
    rw [← e1]
    have := run_loadCells_list (P := P) w ⟨g, 0, none⟩ (Lib.byteCells l) (by
      intro j u hj
      have hlt : j < l.length := by
        have := (List.getElem?_eq_some_iff.1 hj).1
        simpa [Lib.byteCells] using this
      have e2 : u = .int .u8 l[j].toNat := by
        simp [Lib.byteCells, List.getElem?_eq_getElem hlt] at hj
        exact hj.symm
      rw [e2, Addr.add_lit, Nat.zero_add]
      exact rowZ_cell h j hlt)
    rwa [Lib.byteCells_length] at this
  rw [run_bytesToString w ⟨g, 0, none⟩ l.length cap _ hload, foldl_push_bytes]
  congr 3
  simp only [ByteArray.empty, ByteArray.emptyWithCapacity]
  have : (l.map fun b => (b.toNat : Int)).map (fun n => UInt8.ofNat n.toNat) = l := by
    rw [List.map_map]
    exact List.map_id'' (fun b => by simp) l
  rw [this]
  simp
  rfl
end Pk
