/- Small laws of no program: slices of strings that the call owns. Small laws of no program: a map with string keys that the call has made. Small laws of no program: the bytes of a string, laid in a slice by '[]byte(s)', with stores. -/
import Derived.Test.YtjoipgekmnnlpaaGreatDoorKit
import Derived.Lib.AppendStr
import Derived.Maps.OwnOps
import Derived.MapKept
import Derived.Lib.ConvBytes
import Derived.Lib.AtoiErrMem
namespace Pk
open Go Go.RowKit

/-- A slice of strings. -/
structure StrSl (P : Program) (t e : TypeId) : Prop where
  ht : P.underlying t = some (.slice e)
  hi : ∃ i, P.info? e = some i ∧ i.zero = some (.string ⟨#[]⟩) ∧ i.size = 1 ∧ i.bytes = 16
def strV (x : ByteArray) : Value := .string x
def ownsS (w : World) (B : Nat) (e : TypeId) (v : Value) (l : List ByteArray) : Prop := w.ownsRow B e 1 v l.length (l.map strV)
theorem ownsS.nil (w : World) (B : Nat) (e : TypeId) : ownsS w B e (.slice none 0 0) [] := World.ownsRow_nil w B e 1
theorem ownsS.alloc {w : World} {B : Nat} {e : TypeId} {v : Value} {l : List ByteArray} (h : ownsS w B e v l) (o : Obj) : ownsS (w.alloc o) B e v l := World.ownsRow.alloc h o
theorem ownsS.drew {w : World} {B : Nat} {e : TypeId} {v : Value} {l : List ByteArray} (h : ownsS w B e v l) : ownsS w.drew B e v l := World.ownsRow.drew h
theorem ownsS.below {w w' : World} {B C : Nat} {e : TypeId} {v : Value} {l : List ByteArray} (h : ownsS w B e v l) (hb : Below C w w') (hC : w.heap.size ≤ C) : ownsS w' B e v l := by
  refine ⟨h.1, ?_⟩
  rcases h.2 with hn | ⟨g, cap, cur, h1, h2, h3, h4⟩
  · exact .inl hn
  · have hg : g < w.heap.size := lt_of_block h3
    exact .inr ⟨g, cap, cur, h1, h2, (hb.block g (by omega)).trans h3, h4⟩
theorem ownsS.form {w : World} {B : Nat} {e : TypeId} {v : Value} {l : List ByteArray} (h : ownsS w B e v l) : (v = .slice none 0 0 ∧ l = []) ∨ ∃ g cap, v = .slice (some ⟨g, 0, none⟩) l.length cap ∧ B ≤ g ∧ l.length ≤ cap ∧ cap ≤ maxLen ∧ ∀ j (hj : j < l.length), w.cell? ⟨g, j, none⟩ = some (.string l[j]) := by
  rcases h.2 with ⟨h1, h2⟩ | ⟨g, cap, cur, h1, h2, h3, h4, h5, h6, h7⟩
  · exact .inl ⟨h1, List.eq_nil_of_length_eq_zero h2⟩
  · refine .inr ⟨g, cap, h1, h2, h4, h5, fun j hj => ?_⟩
    have := World.ownsRow.cells h (g := g) (by rw [h1]; rfl) j (.string l[j]) (by simp [strV, List.getElem?_eq_getElem hj])
    rw [Addr.add_lit, Nat.zero_add] at this
    exact this
theorem append_str {P : Program} (w : World) {ops : Array Oper} {rest : List Oper} {o : Oper} {a : Act} {Q : Exit → Act → World → Prop} (hgd : o.guard = none) (s x : Operand) {t e : TypeId} (hT : StrSl P t e)
    (ho : o.op = .call { callee := .builtin .append, args := #[s, x], argTypes := #[t, t] }) (B : Nat) (v : Value) (l : List ByteArray) (hs : a.eval s = v) (hown : ownsS w B e v l)
    (ad : Addr) (m c : Nat) (ds : List ByteArray) (hx : a.eval x = .slice (some ad) m c) (hm : ds.length = m) (hc : ∀ j u, (ds.map strV)[j]? = some u → w.cell? (ad.add j) = some u)
    (hl : (l.length + m) * 16 ≤ 140737488355328) (hB : B ≤ w.heap.size)
    (h : ∀ v' w', ownsS w' B e v' (l ++ ds) → w.grownBy w' v.ownBlock → wpList P ops Q rest (a.put o.dst v') w') : wpList P ops Q (o :: rest) a w := by
  obtain ⟨i, hi, hz, hsize, hby⟩ := hT.hi
  refine wpList_append_own w hgd s x t ho B e i (.string ⟨#[]⟩) 1 16 hT.ht hi hz hsize hby rfl (by decide) v l.length (l.map strV) hs hown ad m c (ds.map strV) hx (by rw [List.length_map, hm]; omega) hc (by intro u hu; simp only [List.mem_map] at hu; obtain ⟨b, _, rfl⟩ := hu; rfl) (by unfold maxLen; omega) (by omega) hB ?_
  intro v' w' h1 h2 _
  refine h v' w' ?_ h2
  unfold ownsS
  rw [List.length_append, List.map_append, hm]
  exact h1
theorem step_str {P : Program} {w : World} {ops : Array Oper} {o : Oper} {a : Act} {K : Act → World → Prop} {Q : Exit → Act → World → Prop} {E : Prop} (hgd : o.guard = none) (s x : Operand) {t e : TypeId} (hT : StrSl P t e)
    (ho : o.op = .call { callee := .builtin .append, args := #[s, x], argTypes := #[t, t] }) (B : Nat) (v : Value) (l : List ByteArray) (hs : a.eval s = v) (hown : ownsS w B e v l)
    (ad : Addr) (m c : Nat) (ds : List ByteArray) (hx : a.eval x = .slice (some ad) m c) (hm : ds.length = m) (hc : ∀ j u, (ds.map strV)[j]? = some u → w.cell? (ad.add j) = some u)
    (hl : (l.length + m) * 16 ≤ 140737488355328) (hB : B ≤ w.heap.size)
    (h : ∀ v' w', ownsS w' B e v' (l ++ ds) → w.grownBy w' v.ownBlock → K (a.put o.dst v') w') : if Region.wanted o (yielded ops a.tmps) = true then Oper.wp P o a w K Q else E := by
  rw [if_pos (by simp [Region.wanted, hgd])]
  obtain ⟨i, hi, hz, hsize, hby⟩ := hT.hi
  refine wp_append_own w s x t ho B e i (.string ⟨#[]⟩) 1 16 hT.ht hi hz hsize hby rfl (by decide) v l.length (l.map strV) hs hown ad m c (ds.map strV) hx (by rw [List.length_map, hm]; omega) hc (by intro u hu; simp only [List.mem_map] at hu; obtain ⟨b, _, rfl⟩ := hu; rfl) (by unfold maxLen; omega) (by omega) hB ?_
  intro v' w' h1 h2 _
  refine h v' w' ?_ h2
  unfold ownsS
  rw [List.length_append, List.map_append, hm]
  exact h1
theorem cells_byte2 (w : World) (x y : Int) (t : TypeId) (h0 : 0 ≤ x) (h1 : x < 256) (h2 : 0 ≤ y) (h3 : y < 256) : ∀ j u, (Lib.byteCells [b8 x, b8 y])[j]? = some u → (w.alloc (.cells #[.int .u8 x, .int .u8 y] t)).cell? ((⟨w.heap.size, 0, none⟩ : Addr).add j) = some u := by
  have e : Lib.byteCells [b8 x, b8 y] = [.int .u8 x, .int .u8 y] := by simp [Lib.byteCells, b8_toNat x h0 h1, b8_toNat y h2 h3]
  rw [e]
  exact cells_new w [.int .u8 x, .int .u8 y] t
theorem strCells_bytes (S : ByteArray) : Lib.strCells S = Lib.byteCells S.data.toList := by
  unfold Lib.strCells Lib.byteCells
  first | rfl | simp
/-- 'append(v, S...)' of a string -/
theorem append_bstr {P : Program} (w : World) {ops : Array Oper} {rest : List Oper} {o : Oper} {a : Act} {Q : Exit → Act → World → Prop} (hgd : o.guard = none) (s x : Operand) {t e u : TypeId} (hT : ByteSl P t e) (hu : P.underlying u = some .string)
    (ho : o.op = .call { callee := .builtin .append, args := #[s, x], argTypes := #[t, u] }) (B : Nat) (v : Value) (l : List UInt8) (hs : a.eval s = v) (hown : ownsB w B e v l)
    (S : ByteArray) (hx : a.eval x = .string S) (hl : l.length + S.size ≤ 140737488355328) (hB : B ≤ w.heap.size)
    (h : ∀ v' w', ownsB w' B e v' (l ++ S.data.toList) → w.grownBy w' v.ownBlock → wpList P ops Q rest (a.put o.dst v') w') : wpList P ops Q (o :: rest) a w := by
  obtain ⟨i, hi, hz, hsize, hby⟩ := hT.hi
  refine Lib.wpList_append_own_string w hgd s x t u ho B e i hT.ht hu hi hz hsize hby v l.length (Lib.byteCells l) hs hown S hx (by unfold maxLen; omega) hl hB ?_
  intro v' w' h1 h2 _
  refine h v' w' ?_ h2
  unfold ownsB
  rw [List.length_append, Lib.byteCells_append, ← strCells_bytes]
  exact h1
theorem Below_grownS {B : Nat} {a w w' : World} {v : Value} {l : List ByteArray} {e : TypeId} (h : Below B a w) (hown : ownsS w B e v l) (hg : w.grownBy w' v.ownBlock) (hB : B ≤ w.heap.size) : Below B a w' :=
  h.grown hg hB fun k hk => (World.ownsRow.lt hown k hk).1
/-! slices of ints: 'make', stores -/
theorem ownsI.stored {w : World} {B : Nat} {e : TypeId} {g n cap : Nat} {l : List Int} (h : ownsI w B e (.slice (some ⟨g, 0, none⟩) n cap) l) (hn : l.length = n) (j : Nat) (x : Int) :
    ownsI (w.setCell ⟨g, j, none⟩ (.int .i64 x)) B e (.slice (some ⟨g, 0, none⟩) n cap) (l.set j x) := by
  subst hn
  have := (World.ownsRow.stored h j (.int .i64 x)).1
  unfold ownsI
  rw [List.length_set, List.map_set]
  exact this
theorem ownsI.cellAt {w : World} {B : Nat} {e : TypeId} {g n cap : Nat} {l : List Int} (h : ownsI w B e (.slice (some ⟨g, 0, none⟩) n cap) l) (hn : l.length = n) (j : Nat) (hj : j < l.length) : w.cell? ⟨g, j, none⟩ = some (.int .i64 l[j]) := by
  subst hn
  rw [World.ownsRow.cellAt h j (by omega)]
  simp [List.getElem?_eq_getElem hj]
theorem ownsI.frozenAt {w : World} {B : Nat} {e : TypeId} {g n cap : Nat} {l : List Int} (h : ownsI w B e (.slice (some ⟨g, 0, none⟩) n cap) l) (hn : l.length = n) (j : Nat) : w.frozen? ⟨g, j, none⟩ = false := by
  subst hn; exact World.ownsRow.frozenAt h j
theorem ownsI.drew {w : World} {B : Nat} {e : TypeId} {v : Value} {l : List Int} (h : ownsI w B e v l) : ownsI w.drew B e v l := World.ownsRow.drew h
theorem make_ints {P : Program} (w : World) {ops : Array Oper} {rest : List Oper} {o : Oper} {a : Act} {Q : Exit → Act → World → Prop}
    (hg : o.guard = none) (l c : Operand) {t e : TypeId} (hT : IntSl P t e) (hop : o.op = Op.makeSlice t l c)
    (B : Nat) (kl kc : IntKind) (L C : Int) (n : Nat) (hl : a.eval l = .int kl L) (hc : a.eval c = .int kc C) (hL : L = (n : Int)) (hC : C = (n : Int)) (hn : n ≤ 1000000000) (hB : B ≤ w.heap.size)
    (hK : ∀ w', ownsI w' B e (.slice (some ⟨w.heap.size, 0, none⟩) n n) (List.replicate n 0) → w.grownBy w' none → wpList P ops Q rest (a.put o.dst (.slice (some ⟨w.heap.size, 0, none⟩) n n)) w') :
    wpList P ops Q (o :: rest) a w := by
  obtain ⟨i, hi, hz, hsize, hby⟩ := hT.hi
  refine wpList_make_full w hg l c t hop B e i (.int .i64 0) 1 hT.ht hi hz hsize kl kc L C n hl hc hL hC (by rw [hby]; omega) (by unfold maxLen; omega) hB ?_
  intro w' h1 h2
  refine hK w' ?_ h2
  unfold ownsI
  have e1 : (madeCells (Value.int .i64 0).cells (n * 1)).toList = (List.replicate n (0 : Int)).map (Value.int .i64) := by
    simp only [madeCells, Value.cells]
    apply List.ext_getElem
    · simp
    · intro j h1 h2
      simp [Nat.mod_one]
  rw [e1] at h1
  rw [List.length_replicate]
  exact h1
end Pk
namespace Pk
open Go Go.RowKit Go.ChangeMaps Go.MapKept

/-- the block r is a map with these entries -/
def mapIs (w : World) (r : Nat) (kvs : List (ByteArray × Value)) : Prop := ∃ es clock, w.heap[r]? = some (.map es clock) ∧ es.toList.map (fun e => (e.key, e.val)) = kvs.map (fun p => (Value.string p.1, p.2))
def mapGet (s : ByteArray) (z : Value) : List (ByteArray × Value) → Value
  | [] => z
  | p :: r => if (s == p.1) = true then p.2 else mapGet s z r
def mapHas (s : ByteArray) : List (ByteArray × Value) → Bool
  | [] => false
  | p :: r => (s == p.1) || mapHas s r
theorem mapIs_new (w : World) : mapIs (w.alloc (.map #[] 0)) w.heap.size [] := ⟨#[], 0, heap_alloc_new w _, rfl⟩
theorem mapIs_kept {w w' : World} {r : Nat} {kvs : List (ByteArray × Value)} (h : mapIs w r kvs) (hb : w'.heap[r]? = w.heap[r]?) : mapIs w' r kvs := by
  obtain ⟨es, c, h1, h2⟩ := h
  exact ⟨es, c, hb.trans h1, h2⟩
theorem mapIs_alloc {w : World} {r : Nat} {kvs : List (ByteArray × Value)} (h : mapIs w r kvs) (o : Obj) : mapIs (w.alloc o) r kvs := by
  obtain ⟨es, c, h1, h2⟩ := h
  exact ⟨es, c, (heap_alloc_old w o (lt_of_block h1)).trans h1, h2⟩
theorem mapIs_lt {w : World} {r : Nat} {kvs : List (ByteArray × Value)} (h : mapIs w r kvs) : r < w.heap.size := by
  obtain ⟨es, c, h1, h2⟩ := h
  exact lt_of_block h1
theorem mapIs_below {w w' : World} {r B : Nat} {kvs : List (ByteArray × Value)} (h : mapIs w r kvs) (hb : Below B w w') (hB : r < B) : mapIs w' r kvs := mapIs_kept h (hb.block r hB)
theorem findNow_str (s : ByteArray) (z : Value) : ∀ (l : List MapEntry) (kvs : List (ByteArray × Value)) (i : Nat), l.map (fun e => (e.key, e.val)) = kvs.map (fun p => (Value.string p.1, p.2)) →
    (∃ j, Instr.findNow .string (.string s) l i = some (some (j, mapGet s z kvs)) ∧ mapHas s kvs = true) ∨ (Instr.findNow .string (.string s) l i = some none ∧ mapGet s z kvs = z ∧ mapHas s kvs = false) := by
  intro l
  induction l with
  | nil =>
    intro kvs i h
    cases kvs with
    | nil => exact .inr ⟨rfl, rfl, rfl⟩
    | cons p r => cases h
  | cons e l ih =>
    intro kvs i h
    cases kvs with
    | nil => cases h
    | cons p r =>
      simp only [List.map_cons, List.cons.injEq, Prod.mk.injEq] at h
      obtain ⟨⟨h1, h2⟩, h3⟩ := h
      have hs : Instr.sameNow .string (.string s) e.key = some (s == p.1) := by rw [h1]; rfl
      unfold Instr.findNow mapGet mapHas
      rw [hs]
      cases hb : (s == p.1) with
      | true => exact .inl ⟨i, by rw [if_pos rfl, h2], rfl⟩
      | false =>
        rcases ih r (i + 1) h3 with ⟨j, h4, h5⟩ | ⟨h4, h5, h6⟩
        · exact .inl ⟨j, by rw [if_neg (by decide)]; exact h4, by simpa using h5⟩
        · exact .inr ⟨h4, by rw [if_neg (by decide)]; exact h5, by simpa using h6⟩
theorem run_lookup_map {P : Program} {w : World} {r : Nat} {kvs : List (ByteArray × Value)} (h : mapIs w r kvs) {t k e : TypeId} (ht : P.underlying t = some (.map k e)) (hk : P.underlying k = some .string) (s : ByteArray) (z : Value) (hz : (zeroValue e).run P w = .ok z w) :
    (Instr.lookup t (.map (some r)) (.string s) false).run P w = .ok (mapGet s z kvs) w := by
  obtain ⟨es, c, hb, hm⟩ := h
  have hc : ∀ b, (Instr.checkKey b 10000 k (.string s)).run P w = .ok () w := fun b => MapKept.run_checkKey (k := .string s) hk (by simp [MapKept.IsKey]) b 9999
  rcases findNow_str s z es.toList kvs 0 hm with ⟨j, h1, -⟩ | ⟨h1, h2, -⟩
  · have hf := MapKept.run_findKey (P := P) (w := w) hk h1
    simp [Instr.lookup, run_underlying ht, MapKept.run_getObj_map hb, hc, hf, Result.andThen]
  · have hf := MapKept.run_findKey (P := P) (w := w) hk h1
    simp [Instr.lookup, run_underlying ht, MapKept.run_getObj_map hb, hc, hf, Result.andThen, hz, h2]
theorem wpList_lookup_map {P : Program} (w : World) {ops : Array Oper} {rest : List Oper} {o : Oper} {a : Act} {Q : Exit → Act → World → Prop}
    (hg : o.guard = none) (m x : Operand) (t : TypeId) (hop : o.op = Op.lookup t m x false) (k e : TypeId) (ht : P.underlying t = some (.map k e)) (hk : P.underlying k = some .string)
    (r : Nat) (kvs : List (ByteArray × Value)) (hm : a.eval m = .map (some r)) (h : mapIs w r kvs) (s : ByteArray) (hx : a.eval x = .string s) (z : Value) (hz : (zeroValue e).run P w = .ok z w)
    (hK : wpList P ops Q rest (a.put o.dst (mapGet s z kvs)) w) : wpList P ops Q (o :: rest) a w := by
  refine wpList_plain hg fun K' hK' => ?_
  have hrun := run_lookup_map h ht hk s z hz
  unfold Oper.wp
  simp [execOp, hop, hm, hx, hrun, Result.andThen]
  exact hK' _ _ hK
theorem run_update_map {P : Program} {w : World} {r : Nat} {kvs : List (ByteArray × Value)} (h : mapIs w r kvs) {t k e : TypeId} (ht : P.underlying t = some (.map k e)) (hk : P.underlying k = some .string) (s : ByteArray) (v : Value) (hn : mapHas s kvs = false) :
    ∃ w', (Instr.mapUpdate t (.map (some r)) (.string s) v).run P w = .ok () w' ∧ mapIs w' r (kvs ++ [(s, v)]) ∧ w.grownBy w' (some r) := by
  obtain ⟨es, c, hb, hm⟩ := h
  have hc : (Instr.checkKey false 10000 k (.string s)).run P w = .ok () w := MapKept.run_checkKey (k := .string s) hk (by simp [MapKept.IsKey]) false 9999
  rcases findNow_str s .nilIface es.toList kvs 0 hm with ⟨j, -, h1⟩ | ⟨h1, -, -⟩
  · rw [hn] at h1; cases h1
  · have hf := MapKept.run_findKey (P := P) (w := w) hk h1
    refine ⟨setBlock w r (.map (es.push { key := .string s, val := v, born := c }) (c + 1)), ?_, ⟨_, _, heap_setBlock_same hb _, ?_⟩, ⟨rfl, rfl, rfl, by simp [setBlock], fun i _ hi => heap_setBlock_other hb _ (fun e => hi (by rw [e]))⟩⟩
    · simp [Instr.mapUpdate, run_underlying ht, MapKept.run_getObj_map hb, hc, hf, Result.andThen, MapKept.run_setObj_map _ hb, setBlock]
    · simp [hm]
theorem wpList_update_map {P : Program} (w : World) {ops : Array Oper} {rest : List Oper} {o : Oper} {a : Act} {Q : Exit → Act → World → Prop}
    (hg : o.guard = none) (m x v : Operand) (t : TypeId) (hop : o.op = Op.mapUpdate t m x v) (k e : TypeId) (ht : P.underlying t = some (.map k e)) (hk : P.underlying k = some .string)
    (r : Nat) (kvs : List (ByteArray × Value)) (hm : a.eval m = .map (some r)) (h : mapIs w r kvs) (s : ByteArray) (hx : a.eval x = .string s) (hn : mapHas s kvs = false)
    (hK : ∀ w', mapIs w' r (kvs ++ [(s, a.eval v)]) → w.grownBy w' (some r) → wpList P ops Q rest (a.put o.dst undef) w') : wpList P ops Q (o :: rest) a w := by
  refine wpList_plain hg fun K' hK' => ?_
  obtain ⟨w', hrun, r1, r2⟩ := run_update_map h ht hk s (a.eval v) hn
  unfold Oper.wp
  simp [execOp, hop, hm, hx, hrun, Result.andThen]
  exact hK' _ _ (hK w' r1 r2)
theorem wpList_insert_map {P : Program} (w : World) {ops : Array Oper} {rest : List Oper} {o : Oper} {a : Act} {Q : Exit → Act → World → Prop}
    (hg : o.guard = none) (m x v : Operand) (t : TypeId) (hop : o.op = Op.insert t m x v) (k e : TypeId) (ht : P.underlying t = some (.map k e)) (hk : P.underlying k = some .string)
    (r : Nat) (kvs : List (ByteArray × Value)) (hm : a.eval m = .map (some r)) (h : mapIs w r kvs) (s : ByteArray) (hx : a.eval x = .string s) (hn : mapHas s kvs = false)
    (hK : ∀ w', mapIs w' r (kvs ++ [(s, a.eval v)]) → w.grownBy w' (some r) → wpList P ops Q rest (a.put o.dst undef) w') : wpList P ops Q (o :: rest) a w := by
  refine wpList_plain hg fun K' hK' => ?_
  obtain ⟨w', hrun, r1, r2⟩ := run_update_map h ht hk s (a.eval v) hn
  unfold Oper.wp
  simp [execOp, hop, hm, hx, hrun, Result.andThen]
  exact hK' _ _ (hK w' r1 r2)
theorem Below_map {B r : Nat} {a w w' : World} (h : Below B a w) (hr : B ≤ r) (hg : w.grownBy w' (some r)) (hB : B ≤ w.heap.size) : Below B a w' :=
  h.grown hg hB fun k hk => by injection hk with hk; omega
end Pk
namespace Pk
open Go Go.RowKit

def rowF (w : World) (g : Nat) (e : TypeId) (l : List UInt8) : Prop := ∃ cur : Array Value, w.heap[g]? = some (.cells cur e (cur.size, cur.size + 1)) ∧ l.length ≤ cur.size ∧ cur.toList.take l.length = Lib.byteCells l
theorem rowF_cell {w : World} {g : Nat} {e : TypeId} {l : List UInt8} (h : rowF w g e l) (j : Nat) (hj : j < l.length) : w.cell? ⟨g, j, none⟩ = some (.int .u8 l[j].toNat) := by
  obtain ⟨cur, h1, h2, h3⟩ := h
  unfold World.cell?
  rw [h1]
  have e : cur.toList[j]? = some (.int .u8 l[j].toNat) := by
    have := congrArg (·[j]?) h3
    simp only [List.getElem?_take, if_pos hj, Lib.byteCells, List.getElem?_map, List.getElem?_eq_getElem hj, Option.map_some] at this
    exact this
  simpa using e
theorem rowF_frozen {w : World} {g : Nat} {e : TypeId} {l : List UInt8} (h : rowF w g e l) (j : Nat) (hj : j < l.length) : w.frozen? ⟨g, j, none⟩ = false := by
  obtain ⟨cur, h1, h2, h3⟩ := h
  unfold World.frozen?
  rw [h1]
  have : ¬ cur.size ≤ j := by omega
  simp [this]
theorem rowF_stored {w : World} {g : Nat} {e : TypeId} {l : List UInt8} (h : rowF w g e l) (j : Nat) (x : Int) (h0 : 0 ≤ x) (h1 : x < 256) : rowF (w.setCell ⟨g, j, none⟩ (.int .u8 x)) g e (l.set j (b8 x)) := by
  obtain ⟨cur, hc, h2, h3⟩ := h
  refine ⟨cur.setIfInBounds j (.int .u8 x), ?_, by simpa using h2, ?_⟩
  · unfold World.setCell
    have hlt : g < w.heap.size := lt_of_block hc
    rw [Array.getElem?_eq_getElem hlt] at hc
    simp only [Array.getElem?_modify]
    rw [Array.getElem?_eq_getElem hlt]
    injection hc with hc
    simp [hc]
  · rw [Array.toList_setIfInBounds, List.length_set, List.take_set, h3, byteCells_set l j x h0 h1]
theorem rowF_drew {w : World} {g : Nat} {e : TypeId} {l : List UInt8} (h : rowF w g e l) : rowF w.drew g e l := h
theorem rowF_below {w w' : World} {g B : Nat} {e : TypeId} {l : List UInt8} (h : rowF w g e l) (hb : Below B w w') (hB : g < B) : rowF w' g e l := by
  obtain ⟨cur, h1, h2⟩ := h
  exact ⟨cur, (hb.block g hB).trans h1, h2⟩
theorem conv_row {P : Program} (w : World) (src dst e : TypeId) (s : ByteArray) (hs : P.underlying src = some .string) (hd : P.underlying dst = some (.slice e)) (he : P.underlying e = some (.int .u8)) :
    ∃ cp w2, (convert src dst (.string s)).run P w = .ok (.slice (some ⟨w.heap.size, 0, none⟩) s.size cp) w2 ∧ rowF w2 w.heap.size e s.data.toList ∧ Below w.heap.size w w2 ∧ w.heap.size < w2.heap.size := by
  refine ⟨_, _, Lib.run_convert_string_bytes w src dst e s hs hd he, ⟨Lib.bytesCells w e s, Lib.bytesWorld_at_new w e s, ?_, ?_⟩, Lib.bytesWorld_below _ _ _, by rw [Lib.bytesWorld_size]; omega⟩
  · unfold Lib.bytesCells; simp
  · unfold Lib.bytesCells
    simp [Lib.byteCells]
theorem run_string_row {P : Program} {w : World} {t e ts : TypeId} (hT : ByteSl P t e) (hs : P.underlying ts = some .string) {g n cap : Nat} {l : List UInt8} (h : rowF w g e l) (hn : l.length = n) :
    (convert t ts (.slice (some ⟨g, 0, none⟩) n cap)).run P w = .ok (.string ⟨l.toArray⟩) w := by
  subst hn
  rw [run_convert_bytes_string w t ts e _ _ _ hT.ht hT.he hs]
  have e1 : (Lib.byteCells l) = (l.map fun b => (b.toNat : Int)).map (Value.int .u8) := by simp [Lib.byteCells]
  have hload : (loadCells ⟨g, 0, none⟩ l.length).run P w = .ok ((l.map fun b => (b.toNat : Int)).map (Value.int .u8)).toArray w := by
    rw [← e1]
    have := run_loadCells_list (P := P) w ⟨g, 0, none⟩ (Lib.byteCells l) (by
      intro j u hj
      have hlt : j < l.length := by
        have := (List.getElem?_eq_some_iff.1 hj).1
        simpa [Lib.byteCells] using this
      have e2 : u = .int .u8 l[j].toNat := by
        simp [Lib.byteCells, List.getElem?_eq_getElem hlt] at hj
        exact hj.symm
      rw [e2, Addr.add_lit, Nat.zero_add]
      exact rowF_cell h j hlt)
    rwa [Lib.byteCells_length] at this
  rw [run_bytesToString w ⟨g, 0, none⟩ l.length cap _ hload, foldl_push_bytes]
  congr 3
  simp only [ByteArray.empty, ByteArray.emptyWithCapacity]
  have : (l.map fun b => (b.toNat : Int)).map (fun n => UInt8.ofNat n.toNat) = l := by
    rw [List.map_map]
    exact List.map_id'' (fun b => by simp) l
  rw [this]
  simp
  rfl
end Pk
