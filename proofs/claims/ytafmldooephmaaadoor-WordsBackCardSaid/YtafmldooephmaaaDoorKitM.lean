/- Small laws of no program: a map with string keys that the call has made. -/
import Derived.Test.YtafmldooephmaaaDoorKit
import Derived.Maps.OwnOps
import Derived.MapKept
namespace Pk
open Go Go.RowKit Go.ChangeMaps Go.MapKept

/-- the block r is a map with these entries -/
def mapIs (w : World) (r : Nat) (kvs : List (ByteArray × Value)) : Prop := ∃ es clock, w.heap[r]? = some (.map es clock) ∧ es.toList.map (fun e => (e.key, e.val)) = kvs.map (fun p => (Value.string p.1, p.2))
def mapGet (s : ByteArray) (z : Value) : List (ByteArray × Value) → Value
  | [] => z
  | p :: r => if (s == p.1) = true then p.2 else mapGet s z r
def mapHas (s : ByteArray) : List (ByteArray × Value) → Bool
  | [] => false
  | p :: r => (s == p.1) || mapHas s r
theorem mapIs_new (w : World) : mapIs (w.alloc (.map #[] 0)) w.heap.size [] := ⟨#[], 0, heap_alloc_new w _, rfl⟩
theorem mapIs_kept {w w' : World} {r : Nat} {kvs : List (ByteArray × Value)} (h : mapIs w r kvs) (hb : w'.heap[r]? = w.heap[r]?) : mapIs w' r kvs := by
  obtain ⟨es, c, h1, h2⟩ := h
  exact ⟨es, c, hb.trans h1, h2⟩
theorem mapIs_alloc {w : World} {r : Nat} {kvs : List (ByteArray × Value)} (h : mapIs w r kvs) (o : Obj) : mapIs (w.alloc o) r kvs := by
  obtain ⟨es, c, h1, h2⟩ := h
  exact ⟨es, c, (heap_alloc_old w o (lt_of_block h1)).trans h1, h2⟩
theorem mapIs_lt {w : World} {r : Nat} {kvs : List (ByteArray × Value)} (h : mapIs w r kvs) : r < w.heap.size := by
  obtain ⟨es, c, h1, h2⟩ := h
  exact lt_of_block h1
theorem mapIs_below {w w' : World} {r B : Nat} {kvs : List (ByteArray × Value)} (h : mapIs w r kvs) (hb : Below B w w') (hB : r < B) : mapIs w' r kvs := mapIs_kept h (hb.block r hB)
theorem findNow_str (s : ByteArray) (z : Value) : ∀ (l : List MapEntry) (kvs : List (ByteArray × Value)) (i : Nat), l.map (fun e => (e.key, e.val)) = kvs.map (fun p => (Value.string p.1, p.2)) →
    (∃ j, Instr.findNow .string (.string s) l i = some (some (j, mapGet s z kvs)) ∧ mapHas s kvs = true) ∨ (Instr.findNow .string (.string s) l i = some none ∧ mapGet s z kvs = z ∧ mapHas s kvs = false) := by
  intro l
  induction l with
  | nil =>
    intro kvs i h
    cases kvs with
    | nil => exact .inr ⟨rfl, rfl, rfl⟩
    | cons p r => cases h
  | cons e l ih =>
    intro kvs i h
    cases kvs with
    | nil => cases h
    | cons p r =>
      simp only [List.map_cons, List.cons.injEq, Prod.mk.injEq] at h
      obtain ⟨⟨h1, h2⟩, h3⟩ := h
      have hs : Instr.sameNow .string (.string s) e.key = some (s == p.1) := by rw [h1]; rfl
      unfold Instr.findNow mapGet mapHas
      rw [hs]
      cases hb : (s == p.1) with
      | true => exact .inl ⟨i, by rw [if_pos rfl, h2], rfl⟩
      | false =>
        rcases ih r (i + 1) h3 with ⟨j, h4, h5⟩ | ⟨h4, h5, h6⟩
        · exact .inl ⟨j, by rw [if_neg (by decide)]; exact h4, by simpa using h5⟩
        · exact .inr ⟨h4, by rw [if_neg (by decide)]; exact h5, by simpa using h6⟩
theorem run_lookup_map {P : Program} {w : World} {r : Nat} {kvs : List (ByteArray × Value)} (h : mapIs w r kvs) {t k e : TypeId} (ht : P.underlying t = some (.map k e)) (hk : P.underlying k = some .string) (s : ByteArray) (z : Value) (hz : (zeroValue e).run P w = .ok z w) :
    (Instr.lookup t (.map (some r)) (.string s) false).run P w = .ok (mapGet s z kvs) w := by
  obtain ⟨es, c, hb, hm⟩ := h
  have hc : ∀ b, (Instr.checkKey b 10000 k (.string s)).run P w = .ok () w := fun b => MapKept.run_checkKey (k := .string s) hk (by simp [MapKept.IsKey]) b 9999
  rcases findNow_str s z es.toList kvs 0 hm with ⟨j, h1, -⟩ | ⟨h1, h2, -⟩
  · have hf := MapKept.run_findKey (P := P) (w := w) hk h1
    simp [Instr.lookup, run_underlying ht, MapKept.run_getObj_map hb, hc, hf, Result.andThen]
  · have hf := MapKept.run_findKey (P := P) (w := w) hk h1
    simp [Instr.lookup, run_underlying ht, MapKept.run_getObj_map hb, hc, hf, Result.andThen, hz, h2]
theorem wpList_lookup_map {P : Program} (w : World) {ops : Array Oper} {rest : List Oper} {o : Oper} {a : Act} {Q : Exit → Act → World → Prop}
    (hg : o.guard = none) (m x : Operand) (t : TypeId) (hop : o.op = Op.lookup t m x false) (k e : TypeId) (ht : P.underlying t = some (.map k e)) (hk : P.underlying k = some .string)
    (r : Nat) (kvs : List (ByteArray × Value)) (hm : a.eval m = .map (some r)) (h : mapIs w r kvs) (s : ByteArray) (hx : a.eval x = .string s) (z : Value) (hz : (zeroValue e).run P w = .ok z w)
    (hK : wpList P ops Q rest (a.put o.dst (mapGet s z kvs)) w) : wpList P ops Q (o :: rest) a w := by
  refine wpList_plain hg fun K' hK' => ?_
  have hrun := run_lookup_map h ht hk s z hz
  unfold Oper.wp
  simp [execOp, hop, hm, hx, hrun, Result.andThen]
  exact hK' _ _ hK
theorem run_update_map {P : Program} {w : World} {r : Nat} {kvs : List (ByteArray × Value)} (h : mapIs w r kvs) {t k e : TypeId} (ht : P.underlying t = some (.map k e)) (hk : P.underlying k = some .string) (s : ByteArray) (v : Value) (hn : mapHas s kvs = false) :
    ∃ w', (Instr.mapUpdate t (.map (some r)) (.string s) v).run P w = .ok () w' ∧ mapIs w' r (kvs ++ [(s, v)]) ∧ w.grownBy w' (some r) := by
  obtain ⟨es, c, hb, hm⟩ := h
  have hc : (Instr.checkKey false 10000 k (.string s)).run P w = .ok () w := MapKept.run_checkKey (k := .string s) hk (by simp [MapKept.IsKey]) false 9999
  rcases findNow_str s .nilIface es.toList kvs 0 hm with ⟨j, -, h1⟩ | ⟨h1, -, -⟩
  · rw [hn] at h1; cases h1
  · have hf := MapKept.run_findKey (P := P) (w := w) hk h1
    refine ⟨setBlock w r (.map (es.push { key := .string s, val := v, born := c }) (c + 1)), ?_, ⟨_, _, heap_setBlock_same hb _, ?_⟩, ⟨rfl, rfl, rfl, by simp [setBlock], fun i _ hi => heap_setBlock_other hb _ (fun e => hi (by rw [e]))⟩⟩
    · simp [Instr.mapUpdate, run_underlying ht, MapKept.run_getObj_map hb, hc, hf, Result.andThen, MapKept.run_setObj_map _ hb, setBlock]
    · simp [hm]
theorem wpList_update_map {P : Program} (w : World) {ops : Array Oper} {rest : List Oper} {o : Oper} {a : Act} {Q : Exit → Act → World → Prop}
    (hg : o.guard = none) (m x v : Operand) (t : TypeId) (hop : o.op = Op.mapUpdate t m x v) (k e : TypeId) (ht : P.underlying t = some (.map k e)) (hk : P.underlying k = some .string)
    (r : Nat) (kvs : List (ByteArray × Value)) (hm : a.eval m = .map (some r)) (h : mapIs w r kvs) (s : ByteArray) (hx : a.eval x = .string s) (hn : mapHas s kvs = false)
    (hK : ∀ w', mapIs w' r (kvs ++ [(s, a.eval v)]) → w.grownBy w' (some r) → wpList P ops Q rest (a.put o.dst undef) w') : wpList P ops Q (o :: rest) a w := by
  refine wpList_plain hg fun K' hK' => ?_
  obtain ⟨w', hrun, r1, r2⟩ := run_update_map h ht hk s (a.eval v) hn
  unfold Oper.wp
  simp [execOp, hop, hm, hx, hrun, Result.andThen]
  exact hK' _ _ (hK w' r1 r2)
theorem wpList_insert_map {P : Program} (w : World) {ops : Array Oper} {rest : List Oper} {o : Oper} {a : Act} {Q : Exit → Act → World → Prop}
    (hg : o.guard = none) (m x v : Operand) (t : TypeId) (hop : o.op = Op.insert t m x v) (k e : TypeId) (ht : P.underlying t = some (.map k e)) (hk : P.underlying k = some .string)
    (r : Nat) (kvs : List (ByteArray × Value)) (hm : a.eval m = .map (some r)) (h : mapIs w r kvs) (s : ByteArray) (hx : a.eval x = .string s) (hn : mapHas s kvs = false)
    (hK : ∀ w', mapIs w' r (kvs ++ [(s, a.eval v)]) → w.grownBy w' (some r) → wpList P ops Q rest (a.put o.dst undef) w') : wpList P ops Q (o :: rest) a w := by
  refine wpList_plain hg fun K' hK' => ?_
  obtain ⟨w', hrun, r1, r2⟩ := run_update_map h ht hk s (a.eval v) hn
  unfold Oper.wp
  simp [execOp, hop, hm, hx, hrun, Result.andThen]
  exact hK' _ _ (hK w' r1 r2)
theorem Below_map {B r : Nat} {a w w' : World} (h : Below B a w) (hr : B ≤ r) (hg : w.grownBy w' (some r)) (hB : B ≤ w.heap.size) : Below B a w' :=
  h.grown hg hB fun k hk => by injection hk with hk; omega
end Pk
