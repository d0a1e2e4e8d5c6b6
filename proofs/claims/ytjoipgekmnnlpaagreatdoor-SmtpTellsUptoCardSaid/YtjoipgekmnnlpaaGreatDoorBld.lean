/- strings.Builder in the words of this seat's walks: 'Bld w B b l': block b is a builder that the call has made (from B on), it holds the bytes l. -/
import Derived.Test.YtjoipgekmnnlpaaGreatDoorKit
import Derived.Test.YtjoipgekmnnlpaaGreatDoorShelfB
namespace Go.Proofs.YtjoipgekmnnlpaaGreatDoor
open Go.RowKit Pk

def Bld (w : World) (B b : Nat) (l : List UInt8) : Prop := Lib.IsBuilderF 69 5 B b (Lib.byteCells l) w
theorem Bld.new (w : World) : Bld (w.alloc (.cells #[.pointer none, .slice none 0 0] 69)) w.heap.size w.heap.size [] := Lib.IsBuilderF.of (Lib.fresh_isBuilder 69 5 w)
theorem Bld.new' (w : World) {B : Nat} (hB : B ≤ w.heap.size) : Bld (w.alloc (.cells #[.pointer none, .slice none 0 0] 69)) B w.heap.size [] :=
  Or.inl ⟨hB, .slice none 0 0, heap_alloc_new w _, World.ownsRowF_nil _ _ _ _, by simp [Value.ownBlock]⟩
theorem Bld.alloc {w : World} {B b : Nat} {l : List UInt8} (h : Bld w B b l) (o : Obj) : Bld (w.alloc o) B b l := Lib.IsBuilderF.alloc h o
theorem Bld.drew {w : World} {B b : Nat} {l : List UInt8} (h : Bld w B b l) : Bld w.drew B b l := h
theorem Bld.lt {w : World} {B b : Nat} {l : List UInt8} (h : Bld w B b l) : b < w.heap.size := by
  rcases h with h | h <;> exact Lib.BuilderAtF.lt h
theorem Bld.le {w : World} {B b : Nat} {l : List UInt8} (h : Bld w B b l) : B ≤ b := by
  rcases h with h | h <;> exact h.1
theorem bldAt_below {w w' : World} {B b C : Nat} {p : Value} {bs : List Value} {T e : TypeId} (h : Lib.BuilderAtF T e B b p bs w) (hb : Below C w w') (hC : w.heap.size ≤ C) : Lib.BuilderAtF T e B b p bs w' := by
  have hlt := Lib.BuilderAtF.lt h
  obtain ⟨hB, v, hbk, hown, hne⟩ := h
  refine ⟨hB, v, (hb.block b (by omega)).trans hbk, ⟨hown.1, ?_⟩, hne⟩
  rcases hown.2 with hn | ⟨g, cap, cur, fz, h1, h2, h3, h4⟩
  · exact .inl hn
  · have hg : g < w.heap.size := lt_of_block h3
    exact .inr ⟨g, cap, cur, fz, h1, h2, (hb.block g (by omega)).trans h3, h4⟩
theorem Bld.below {w w' : World} {B b C : Nat} {l : List UInt8} (h : Bld w B b l) (hb : Below C w w') (hC : w.heap.size ≤ C) : Bld w' B b l := by
  rcases h with h | h
  · exact .inl (bldAt_below h hb hC)
  · exact .inr (bldAt_below h hb hC)

theorem wb (B b : Nat) (l : List UInt8) (x : Int) (w : World) (h : Bld w B b l) (h0 : 0 ≤ x) (h1 : x < 256) (hl : l.length + 1 ≤ 140737488355328) (hB : B ≤ w.heap.size) :
    Calls Tryz.prog 132 #[.pointer (some ⟨b, 0, none⟩), .int .u8 x] w fun e w' => e = .returned .nilIface ∧ Bld w' B b (l ++ [b8 x]) ∧ Below B w w' ∧ Lib.OthersKept 5 (some b) w w' := by
  refine (Tryz.hB_WriteByte B b (Lib.byteCells l) x w h (by rw [Lib.byteCells_length]; exact hl) hB).mono fun e w' ⟨h1', h2, h3, h4⟩ => ⟨h1', ?_, h3, h4⟩
  unfold Bld
  rw [Lib.byteCells_append]
  have e1 : Lib.byteCells [b8 x] = [.int .u8 x] := by simp [Lib.byteCells, b8_toNat x h0 h1]
  rw [e1]
  exact Or.inr h2
theorem wbc (B b : Nat) (l : List UInt8) (c : UInt8) (w : World) (h : Bld w B b l) (hl : l.length + 1 ≤ 140737488355328) (hB : B ≤ w.heap.size) :
    Calls Tryz.prog 132 #[.pointer (some ⟨b, 0, none⟩), .int .u8 c.toNat] w fun e w' => e = .returned .nilIface ∧ Bld w' B b (l ++ [c]) ∧ Below B w w' ∧ Lib.OthersKept 5 (some b) w w' := by
  have := wb B b l c.toNat w h (by omega) (by have := c.toNat_lt; omega) hl hB
  rwa [b8_of] at this
theorem ws (B b : Nat) (l : List UInt8) (s : ByteArray) (w : World) (h : Bld w B b l) (hl : l.length + s.size ≤ 140737488355328) (hB : B ≤ w.heap.size) :
    Calls Tryz.prog 36 #[.pointer (some ⟨b, 0, none⟩), .string s] w fun e w' => e = .returned (.tuple #[.int .i64 s.size, .nilIface]) ∧ Bld w' B b (l ++ s.data.toList) ∧ Below B w w' ∧ Lib.OthersKept 5 (some b) w w' := by
  refine (Tryz.hB_WriteString B b (Lib.byteCells l) s w h (by rw [Lib.byteCells_length]; exact hl) hB).mono fun e w' ⟨h1', h2, h3, h4⟩ => ⟨h1', ?_, h3, h4⟩
  unfold Bld
  rw [Lib.byteCells_append, ← Lib.strCells_eq]
  exact Or.inr h2
theorem bstr (B b : Nat) (l : List UInt8) (w : World) (h : Bld w B b l) (hB : B ≤ w.heap.size) :
    Calls Tryz.prog 39 #[.pointer (some ⟨b, 0, none⟩)] w fun e w' => e = .returned (.string ⟨l.toArray⟩) ∧ Bld w' B b l ∧ Below B w w' ∧ Lib.OthersKept 5 (some b) w w' :=
  Tryz.hB_String B b l w h hB
end Go.Proofs.YtjoipgekmnnlpaaGreatDoor
