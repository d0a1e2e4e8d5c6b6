/- Small laws of no program: slices of strings that the call owns. -/
import Derived.Test.YtafmldooephmaaaDoorKit
import Derived.Lib.AppendStr
namespace Pk
open Go Go.RowKit

/-- A slice of strings. -/
structure StrSl (P : Program) (t e : TypeId) : Prop where
  ht : P.underlying t = some (.slice e)
  hi : ∃ i, P.info? e = some i ∧ i.zero = some (.string ⟨#[]⟩) ∧ i.size = 1 ∧ i.bytes = 16
def strV (x : ByteArray) : Value := .string x
def ownsS (w : World) (B : Nat) (e : TypeId) (v : Value) (l : List ByteArray) : Prop := w.ownsRow B e 1 v l.length (l.map strV)
theorem ownsS.nil (w : World) (B : Nat) (e : TypeId) : ownsS w B e (.slice none 0 0) [] := World.ownsRow_nil w B e 1
theorem ownsS.alloc {w : World} {B : Nat} {e : TypeId} {v : Value} {l : List ByteArray} (h : ownsS w B e v l) (o : Obj) : ownsS (w.alloc o) B e v l := World.ownsRow.alloc h o
theorem ownsS.drew {w : World} {B : Nat} {e : TypeId} {v : Value} {l : List ByteArray} (h : ownsS w B e v l) : ownsS w.drew B e v l := World.ownsRow.drew h
theorem ownsS.below {w w' : World} {B C : Nat} {e : TypeId} {v : Value} {l : List ByteArray} (h : ownsS w B e v l) (hb : Below C w w') (hC : w.heap.size ≤ C) : ownsS w' B e v l := by
  refine ⟨h.1, ?_⟩
  rcases h.2 with hn | ⟨g, cap, cur, h1, h2, h3, h4⟩
  · exact .inl hn
  · have hg : g < w.heap.size := lt_of_block h3
    exact .inr ⟨g, cap, cur, h1, h2, (hb.block g (by omega)).trans h3, h4⟩
theorem ownsS.form {w : World} {B : Nat} {e : TypeId} {v : Value} {l : List ByteArray} (h : ownsS w B e v l) : (v = .slice none 0 0 ∧ l = []) ∨ ∃ g cap, v = .slice (some ⟨g, 0, none⟩) l.length cap ∧ B ≤ g ∧ l.length ≤ cap ∧ cap ≤ maxLen ∧ ∀ j (hj : j < l.length), w.cell? ⟨g, j, none⟩ = some (.string l[j]) := by
  rcases h.2 with ⟨h1, h2⟩ | ⟨g, cap, cur, h1, h2, h3, h4, h5, h6, h7⟩
  · exact .inl ⟨h1, List.eq_nil_of_length_eq_zero h2⟩
  · refine .inr ⟨g, cap, h1, h2, h4, h5, fun j hj => ?_⟩
    have := World.ownsRow.cells h (g := g) (by rw [h1]; rfl) j (.string l[j]) (by simp [strV, List.getElem?_eq_getElem hj])
    rw [Addr.add_lit, Nat.zero_add] at this
    exact this
theorem append_str {P : Program} (w : World) {ops : Array Oper} {rest : List Oper} {o : Oper} {a : Act} {Q : Exit → Act → World → Prop} (hgd : o.guard = none) (s x : Operand) {t e : TypeId} (hT : StrSl P t e)
    (ho : o.op = .call { callee := .builtin .append, args := #[s, x], argTypes := #[t, t] }) (B : Nat) (v : Value) (l : List ByteArray) (hs : a.eval s = v) (hown : ownsS w B e v l)
    (ad : Addr) (m c : Nat) (ds : List ByteArray) (hx : a.eval x = .slice (some ad) m c) (hm : ds.length = m) (hc : ∀ j u, (ds.map strV)[j]? = some u → w.cell? (ad.add j) = some u)
    (hl : (l.length + m) * 16 ≤ 140737488355328) (hB : B ≤ w.heap.size)
    (h : ∀ v' w', ownsS w' B e v' (l ++ ds) → w.grownBy w' v.ownBlock → wpList P ops Q rest (a.put o.dst v') w') : wpList P ops Q (o :: rest) a w := by
  obtain ⟨i, hi, hz, hsize, hby⟩ := hT.hi
  refine wpList_append_own w hgd s x t ho B e i (.string ⟨#[]⟩) 1 16 hT.ht hi hz hsize hby rfl (by decide) v l.length (l.map strV) hs hown ad m c (ds.map strV) hx (by rw [List.length_map, hm]; omega) hc (by intro u hu; simp only [List.mem_map] at hu; obtain ⟨b, _, rfl⟩ := hu; rfl) (by unfold maxLen; omega) (by omega) hB ?_
  intro v' w' h1 h2 _
  refine h v' w' ?_ h2
  unfold ownsS
  rw [List.length_append, List.map_append, hm]
  exact h1
theorem step_str {P : Program} {w : World} {ops : Array Oper} {o : Oper} {a : Act} {K : Act → World → Prop} {Q : Exit → Act → World → Prop} {E : Prop} (hgd : o.guard = none) (s x : Operand) {t e : TypeId} (hT : StrSl P t e)
    (ho : o.op = .call { callee := .builtin .append, args := #[s, x], argTypes := #[t, t] }) (B : Nat) (v : Value) (l : List ByteArray) (hs : a.eval s = v) (hown : ownsS w B e v l)
    (ad : Addr) (m c : Nat) (ds : List ByteArray) (hx : a.eval x = .slice (some ad) m c) (hm : ds.length = m) (hc : ∀ j u, (ds.map strV)[j]? = some u → w.cell? (ad.add j) = some u)
    (hl : (l.length + m) * 16 ≤ 140737488355328) (hB : B ≤ w.heap.size)
    (h : ∀ v' w', ownsS w' B e v' (l ++ ds) → w.grownBy w' v.ownBlock → K (a.put o.dst v') w') : if Region.wanted o (yielded ops a.tmps) = true then Oper.wp P o a w K Q else E := by
  rw [if_pos (by simp [Region.wanted, hgd])]
  obtain ⟨i, hi, hz, hsize, hby⟩ := hT.hi
  refine wp_append_own w s x t ho B e i (.string ⟨#[]⟩) 1 16 hT.ht hi hz hsize hby rfl (by decide) v l.length (l.map strV) hs hown ad m c (ds.map strV) hx (by rw [List.length_map, hm]; omega) hc (by intro u hu; simp only [List.mem_map] at hu; obtain ⟨b, _, rfl⟩ := hu; rfl) (by unfold maxLen; omega) (by omega) hB ?_
  intro v' w' h1 h2 _
  refine h v' w' ?_ h2
  unfold ownsS
  rw [List.length_append, List.map_append, hm]
  exact h1
theorem cells_byte2 (w : World) (x y : Int) (t : TypeId) (h0 : 0 ≤ x) (h1 : x < 256) (h2 : 0 ≤ y) (h3 : y < 256) : ∀ j u, (Lib.byteCells [b8 x, b8 y])[j]? = some u → (w.alloc (.cells #[.int .u8 x, .int .u8 y] t)).cell? ((⟨w.heap.size, 0, none⟩ : Addr).add j) = some u := by
  have e : Lib.byteCells [b8 x, b8 y] = [.int .u8 x, .int .u8 y] := by simp [Lib.byteCells, b8_toNat x h0 h1, b8_toNat y h2 h3]
  rw [e]
  exact cells_new w [.int .u8 x, .int .u8 y] t
theorem strCells_bytes (S : ByteArray) : Lib.strCells S = Lib.byteCells S.data.toList := by
  unfold Lib.strCells Lib.byteCells
  first | rfl | simp
/-- 'append(v, S...)' of a string -/
theorem append_bstr {P : Program} (w : World) {ops : Array Oper} {rest : List Oper} {o : Oper} {a : Act} {Q : Exit → Act → World → Prop} (hgd : o.guard = none) (s x : Operand) {t e u : TypeId} (hT : ByteSl P t e) (hu : P.underlying u = some .string)
    (ho : o.op = .call { callee := .builtin .append, args := #[s, x], argTypes := #[t, u] }) (B : Nat) (v : Value) (l : List UInt8) (hs : a.eval s = v) (hown : ownsB w B e v l)
    (S : ByteArray) (hx : a.eval x = .string S) (hl : l.length + S.size ≤ 140737488355328) (hB : B ≤ w.heap.size)
    (h : ∀ v' w', ownsB w' B e v' (l ++ S.data.toList) → w.grownBy w' v.ownBlock → wpList P ops Q rest (a.put o.dst v') w') : wpList P ops Q (o :: rest) a w := by
  obtain ⟨i, hi, hz, hsize, hby⟩ := hT.hi
  refine Lib.wpList_append_own_string w hgd s x t u ho B e i hT.ht hu hi hz hsize hby v l.length (Lib.byteCells l) hs hown S hx (by unfold maxLen; omega) hl hB ?_
  intro v' w' h1 h2 _
  refine h v' w' ?_ h2
  unfold ownsB
  rw [List.length_append, Lib.byteCells_append, ← strCells_bytes]
  exact h1
theorem Below_grownS {B : Nat} {a w w' : World} {v : Value} {l : List ByteArray} {e : TypeId} (h : Below B a w) (hown : ownsS w B e v l) (hg : w.grownBy w' v.ownBlock) (hB : B ≤ w.heap.size) : Below B a w' :=
  h.grown hg hB fun k hk => (World.ownsRow.lt hown k hk).1
/-! slices of ints: 'make', stores -/
theorem ownsI.stored {w : World} {B : Nat} {e : TypeId} {g n cap : Nat} {l : List Int} (h : ownsI w B e (.slice (some ⟨g, 0, none⟩) n cap) l) (hn : l.length = n) (j : Nat) (x : Int) :
    ownsI (w.setCell ⟨g, j, none⟩ (.int .i64 x)) B e (.slice (some ⟨g, 0, none⟩) n cap) (l.set j x) := by
  subst hn
  have := (World.ownsRow.stored h j (.int .i64 x)).1
  unfold ownsI
  rw [List.length_set, List.map_set]
  exact this
theorem ownsI.cellAt {w : World} {B : Nat} {e : TypeId} {g n cap : Nat} {l : List Int} (h : ownsI w B e (.slice (some ⟨g, 0, none⟩) n cap) l) (hn : l.length = n) (j : Nat) (hj : j < l.length) : w.cell? ⟨g, j, none⟩ = some (.int .i64 l[j]) := by
  subst hn
  rw [World.ownsRow.cellAt h j (by omega)]
  simp [List.getElem?_eq_getElem hj]
theorem ownsI.frozenAt {w : World} {B : Nat} {e : TypeId} {g n cap : Nat} {l : List Int} (h : ownsI w B e (.slice (some ⟨g, 0, none⟩) n cap) l) (hn : l.length = n) (j : Nat) : w.frozen? ⟨g, j, none⟩ = false := by
  subst hn; exact World.ownsRow.frozenAt h j
theorem ownsI.drew {w : World} {B : Nat} {e : TypeId} {v : Value} {l : List Int} (h : ownsI w B e v l) : ownsI w.drew B e v l := World.ownsRow.drew h
theorem make_ints {P : Program} (w : World) {ops : Array Oper} {rest : List Oper} {o : Oper} {a : Act} {Q : Exit → Act → World → Prop}
    (hg : o.guard = none) (l c : Operand) {t e : TypeId} (hT : IntSl P t e) (hop : o.op = Op.makeSlice t l c)
    (B : Nat) (kl kc : IntKind) (L C : Int) (n : Nat) (hl : a.eval l = .int kl L) (hc : a.eval c = .int kc C) (hL : L = (n : Int)) (hC : C = (n : Int)) (hn : n ≤ 1000000000) (hB : B ≤ w.heap.size)
    (hK : ∀ w', ownsI w' B e (.slice (some ⟨w.heap.size, 0, none⟩) n n) (List.replicate n 0) → w.grownBy w' none → wpList P ops Q rest (a.put o.dst (.slice (some ⟨w.heap.size, 0, none⟩) n n)) w') :
    wpList P ops Q (o :: rest) a w := by
  obtain ⟨i, hi, hz, hsize, hby⟩ := hT.hi
  refine wpList_make_full w hg l c t hop B e i (.int .i64 0) 1 hT.ht hi hz hsize kl kc L C n hl hc hL hC (by rw [hby]; omega) (by unfold maxLen; omega) hB ?_
  intro w' h1 h2
  refine hK w' ?_ h2
  unfold ownsI
  have e1 : (madeCells (Value.int .i64 0).cells (n * 1)).toList = (List.replicate n (0 : Int)).map (Value.int .i64) := by
    simp only [madeCells, Value.cells]
    apply List.ext_getElem
    · simp
    · intro j h1 h2
      simp [Nat.mod_one]
  rw [e1] at h1
  rw [List.length_replicate]
  exact h1
end Pk
