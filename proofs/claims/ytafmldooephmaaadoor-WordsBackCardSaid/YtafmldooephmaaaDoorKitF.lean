/- Small laws of no program: the bytes of a string, laid in a slice by '[]byte(s)', with stores. -/
import Derived.Test.YtafmldooephmaaaDoorKit
import Derived.Lib.ConvBytes
import Derived.Lib.AtoiErrMem
namespace Pk
open Go Go.RowKit

def rowF (w : World) (g : Nat) (e : TypeId) (l : List UInt8) : Prop := ∃ cur : Array Value, w.heap[g]? = some (.cells cur e (cur.size, cur.size + 1)) ∧ l.length ≤ cur.size ∧ cur.toList.take l.length = Lib.byteCells l
theorem rowF_cell {w : World} {g : Nat} {e : TypeId} {l : List UInt8} (h : rowF w g e l) (j : Nat) (hj : j < l.length) : w.cell? ⟨g, j, none⟩ = some (.int .u8 l[j].toNat) := by
  obtain ⟨cur, h1, h2, h3⟩ := h
  unfold World.cell?
  rw [h1]
  have e : cur.toList[j]? = some (.int .u8 l[j].toNat) := by
    have := congrArg (·[j]?) h3
    simp only [List.getElem?_take, if_pos hj, Lib.byteCells, List.getElem?_map, List.getElem?_eq_getElem hj, Option.map_some] at this
    exact this
  simpa using e
theorem rowF_frozen {w : World} {g : Nat} {e : TypeId} {l : List UInt8} (h : rowF w g e l) (j : Nat) (hj : j < l.length) : w.frozen? ⟨g, j, none⟩ = false := by
  obtain ⟨cur, h1, h2, h3⟩ := h
  unfold World.frozen?
  rw [h1]
  have : ¬ cur.size ≤ j := by omega
  simp [this]
theorem rowF_stored {w : World} {g : Nat} {e : TypeId} {l : List UInt8} (h : rowF w g e l) (j : Nat) (x : Int) (h0 : 0 ≤ x) (h1 : x < 256) : rowF (w.setCell ⟨g, j, none⟩ (.int .u8 x)) g e (l.set j (b8 x)) := by
  obtain ⟨cur, hc, h2, h3⟩ := h
  refine ⟨cur.setIfInBounds j (.int .u8 x), ?_, by simpa using h2, ?_⟩
  · unfold World.setCell
    have hlt : g < w.heap.size := lt_of_block hc
    rw [Array.getElem?_eq_getElem hlt] at hc
    simp only [Array.getElem?_modify]
    rw [Array.getElem?_eq_getElem hlt]
    injection hc with hc
    simp [hc]
  · rw [Array.toList_setIfInBounds, List.length_set, List.take_set, h3, byteCells_set l j x h0 h1]
theorem rowF_drew {w : World} {g : Nat} {e : TypeId} {l : List UInt8} (h : rowF w g e l) : rowF w.drew g e l := h
theorem rowF_below {w w' : World} {g B : Nat} {e : TypeId} {l : List UInt8} (h : rowF w g e l) (hb : Below B w w') (hB : g < B) : rowF w' g e l := by
  obtain ⟨cur, h1, h2⟩ := h
  exact ⟨cur, (hb.block g hB).trans h1, h2⟩
theorem conv_row {P : Program} (w : World) (src dst e : TypeId) (s : ByteArray) (hs : P.underlying src = some .string) (hd : P.underlying dst = some (.slice e)) (he : P.underlying e = some (.int .u8)) :
    ∃ cp w2, (convert src dst (.string s)).run P w = .ok (.slice (some ⟨w.heap.size, 0, none⟩) s.size cp) w2 ∧ rowF w2 w.heap.size e s.data.toList ∧ Below w.heap.size w w2 ∧ w.heap.size < w2.heap.size := by
  refine ⟨_, _, Lib.run_convert_string_bytes w src dst e s hs hd he, ⟨Lib.bytesCells w e s, Lib.bytesWorld_at_new w e s, ?_, ?_⟩, Lib.bytesWorld_below _ _ _, by rw [Lib.bytesWorld_size]; omega⟩
  · unfold Lib.bytesCells; simp
  · unfold Lib.bytesCells
    simp [Lib.byteCells]
theorem run_string_row {P : Program} {w : World} {t e ts : TypeId} (hT : ByteSl P t e) (hs : P.underlying ts = some .string) {g n cap : Nat} {l : List UInt8} (h : rowF w g e l) (hn : l.length = n) :
    (convert t ts (.slice (some ⟨g, 0, none⟩) n cap)).run P w = .ok (.string ⟨l.toArray⟩) w := by
  subst hn
  rw [run_convert_bytes_string w t ts e _ _ _ hT.ht hT.he hs]
  have e1 : (Lib.byteCells l) = (l.map fun b => (b.toNat : Int)).map (Value.int .u8) := by simp [Lib.byteCells]
  have hload : (loadCells ⟨g, 0, none⟩ l.length).run P w = .ok ((l.map fun b => (b.toNat : Int)).map (Value.int .u8)).toArray w := by
    rw [← e1]
    have := run_loadCells_list (P := P) w ⟨g, 0, none⟩ (Lib.byteCells l) (by
      intro j u hj
      have hlt : j < l.length := by
        have := (List.getElem?_eq_some_iff.1 hj).1
        simpa [Lib.byteCells] using this
      have e2 : u = .int .u8 l[j].toNat := by
        simp [Lib.byteCells, List.getElem?_eq_getElem hlt] at hj
        exact hj.symm
      rw [e2, Addr.add_lit, Nat.zero_add]
      exact rowF_cell h j hlt)
    rwa [Lib.byteCells_length] at this
  rw [run_bytesToString w ⟨g, 0, none⟩ l.length cap _ hload, foldl_push_bytes]
  congr 3
  simp only [ByteArray.empty, ByteArray.emptyWithCapacity]
  have : (l.map fun b => (b.toNat : Int)).map (fun n => UInt8.ofNat n.toNat) = l := by
    rw [List.map_map]
    exact List.map_id'' (fun b => by simp) l
  rw [this]
  simp
  rfl
end Pk
