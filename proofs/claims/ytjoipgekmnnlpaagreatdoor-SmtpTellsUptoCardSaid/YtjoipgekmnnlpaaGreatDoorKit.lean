/- Small laws of no program, used by the walks of this seat: byte slices that the call owns, strings read from an index on, a few worlds. -/
import Derived.WalkKit
import Derived.WalkSpells
import Derived.WalkLawsBesides
import Derived.Lib.OthersKept
import Derived.Lib.FrozenHead2
import Derived.Lib.Hide
import Derived.Maps.AppendAt
namespace Pk
open Go Go.RowKit

/-- What is left of a string from byte k on. -/
def tl (s : ByteArray) (k : Nat) : List UInt8 := s.data.toList.drop k
theorem tl_zero (s : ByteArray) : tl s 0 = s.data.toList := by simp [tl]
theorem tl_cons (s : ByteArray) (k : Nat) (h : k < s.size) : tl s k = s[k] :: tl s (k + 1) := by
  unfold tl
  rw [List.drop_eq_getElem_cons (by simpa using h)]
  rfl
theorem tl_end (s : ByteArray) (k : Nat) (h : s.size ≤ k) : tl s k = [] := by
  unfold tl
  exact List.drop_eq_nil_of_le (by simpa using h)
theorem tl_length (s : ByteArray) (k : Nat) : (tl s k).length = s.size - k := by
  unfold tl; simp

/-- A slice of bytes is type t, its elements type e. -/
structure ByteSl (P : Program) (t e : TypeId) : Prop where
  ht : P.underlying t = some (.slice e)
  he : P.underlying e = some (.int .u8)
  hi : ∃ i, P.info? e = some i ∧ i.zero = some (.int .u8 0) ∧ i.size = 1 ∧ i.bytes = 1

/-- The slice v owns the bytes l. -/
def ownsB (w : World) (B : Nat) (e : TypeId) (v : Value) (l : List UInt8) : Prop := w.ownsRow B e 1 v l.length (Lib.byteCells l)
theorem ownsB.nil (w : World) (B : Nat) (e : TypeId) : ownsB w B e (.slice none 0 0) [] := World.ownsRow_nil w B e 1
theorem ownsB.alloc {w : World} {B : Nat} {e : TypeId} {v : Value} {l : List UInt8} (h : ownsB w B e v l) (o : Obj) : ownsB (w.alloc o) B e v l := World.ownsRow.alloc h o
theorem ownsB.drew {w : World} {B : Nat} {e : TypeId} {v : Value} {l : List UInt8} (h : ownsB w B e v l) : ownsB w.drew B e v l := World.ownsRow.drew h
theorem ownsB.below {w w' : World} {B C : Nat} {e : TypeId} {v : Value} {l : List UInt8} (h : ownsB w B e v l) (hb : Below C w w') (hC : w.heap.size ≤ C) : ownsB w' B e v l := by
  refine ⟨h.1, ?_⟩
  rcases h.2 with hn | ⟨g, cap, cur, h1, h2, h3, h4⟩
  · exact .inl hn
  · have hg : g < w.heap.size := lt_of_block h3
    exact .inr ⟨g, cap, cur, h1, h2, (hb.block g (by omega)).trans h3, h4⟩
theorem ownsB.form {w : World} {B : Nat} {e : TypeId} {v : Value} {l : List UInt8} (h : ownsB w B e v l) : (v = .slice none 0 0 ∧ l = []) ∨ ∃ g cap, v = .slice (some ⟨g, 0, none⟩) l.length cap ∧ B ≤ g ∧ l.length ≤ cap ∧ cap ≤ maxLen ∧ ∀ j (hj : j < l.length), w.cell? ⟨g, j, none⟩ = some (.int .u8 l[j].toNat) := by
  rcases h.2 with ⟨h1, h2⟩ | ⟨g, cap, cur, h1, h2, h3, h4, h5, h6, h7⟩
  · exact .inl ⟨h1, List.eq_nil_of_length_eq_zero h2⟩
  · refine .inr ⟨g, cap, h1, h2, h4, h5, fun j hj => ?_⟩
    have := World.ownsRow.cells h (g := g) (by rw [h1]; rfl) j (.int .u8 l[j].toNat) (by simp [Lib.byteCells, List.getElem?_eq_getElem hj])
    rw [Addr.add_lit, Nat.zero_add] at this
    exact this

/-- cells of a new block -/
theorem cells_new (w : World) (cs : List Value) (t : TypeId) : ∀ j u, cs[j]? = some u → (w.alloc (.cells cs.toArray t)).cell? ((⟨w.heap.size, 0, none⟩ : Addr).add j) = some u := by
  intro j u hj
  have hn := heap_alloc_new w (.cells cs.toArray t)
  rw [Addr.add_lit, Nat.zero_add]
  unfold World.cell?
  rw [hn]
  simpa using hj

theorem oneCell_bytes (l : List UInt8) : ∀ u ∈ Lib.byteCells l, u.oneCell' = true := by
  intro u hu
  simp only [Lib.byteCells, List.mem_map] at hu
  obtain ⟨b, _, rfl⟩ := hu
  rfl

/-- 'append(v, ..)' of bytes that lie somewhere. -/
theorem append_bytes {P : Program} (w : World) {ops : Array Oper} {rest : List Oper} {o : Oper} {a : Act} {Q : Exit → Act → World → Prop} (hgd : o.guard = none) (s x : Operand) {t e : TypeId} (hT : ByteSl P t e)
    (ho : o.op = .call { callee := .builtin .append, args := #[s, x], argTypes := #[t, t] }) (B : Nat) (v : Value) (l : List UInt8) (hs : a.eval s = v) (hown : ownsB w B e v l)
    (ad : Addr) (m c : Nat) (ds : List UInt8) (hx : a.eval x = .slice (some ad) m c) (hm : ds.length = m) (hc : ∀ j u, (Lib.byteCells ds)[j]? = some u → w.cell? (ad.add j) = some u)
    (hl : l.length + m ≤ 140737488355328) (hB : B ≤ w.heap.size)
    (h : ∀ v' w', ownsB w' B e v' (l ++ ds) → w.grownBy w' v.ownBlock → wpList P ops Q rest (a.put o.dst v') w') : wpList P ops Q (o :: rest) a w := by
  obtain ⟨i, hi, hz, hsize, hby⟩ := hT.hi
  refine wpList_append_own w hgd s x t ho B e i (.int .u8 0) 1 1 hT.ht hi hz hsize hby rfl (by decide) v l.length (Lib.byteCells l) hs hown ad m c (Lib.byteCells ds) hx (by rw [Lib.byteCells_length, hm]; omega) hc (oneCell_bytes ds) (by unfold maxLen; omega) (by omega) hB ?_
  intro v' w' h1 h2 _
  refine h v' w' ?_ h2
  unfold ownsB
  rw [List.length_append, Lib.byteCells_append, hm]
  exact h1

/-- the same at a step of a region that draws its order -/
theorem step_bytes {P : Program} {w : World} {ops : Array Oper} {o : Oper} {a : Act} {K : Act → World → Prop} {Q : Exit → Act → World → Prop} {E : Prop} (hgd : o.guard = none) (s x : Operand) {t e : TypeId} (hT : ByteSl P t e)
    (ho : o.op = .call { callee := .builtin .append, args := #[s, x], argTypes := #[t, t] }) (B : Nat) (v : Value) (l : List UInt8) (hs : a.eval s = v) (hown : ownsB w B e v l)
    (ad : Addr) (m c : Nat) (ds : List UInt8) (hx : a.eval x = .slice (some ad) m c) (hm : ds.length = m) (hc : ∀ j u, (Lib.byteCells ds)[j]? = some u → w.cell? (ad.add j) = some u)
    (hl : l.length + m ≤ 140737488355328) (hB : B ≤ w.heap.size)
    (h : ∀ v' w', ownsB w' B e v' (l ++ ds) → w.grownBy w' v.ownBlock → K (a.put o.dst v') w') : if Region.wanted o (yielded ops a.tmps) = true then Oper.wp P o a w K Q else E := by
  rw [if_pos (by simp [Region.wanted, hgd])]
  obtain ⟨i, hi, hz, hsize, hby⟩ := hT.hi
  refine wp_append_own w s x t ho B e i (.int .u8 0) 1 1 hT.ht hi hz hsize hby rfl (by decide) v l.length (Lib.byteCells l) hs hown ad m c (Lib.byteCells ds) hx (by rw [Lib.byteCells_length, hm]; omega) hc (oneCell_bytes ds) (by unfold maxLen; omega) (by omega) hB ?_
  intro v' w' h1 h2 _
  refine h v' w' ?_ h2
  unfold ownsB
  rw [List.length_append, Lib.byteCells_append, hm]
  exact h1

theorem Below_grown {B : Nat} {a w w' : World} {v : Value} {l : List UInt8} {e : TypeId} (h : Below B a w) (hown : ownsB w B e v l) (hg : w.grownBy w' v.ownBlock) (hB : B ≤ w.heap.size) : Below B a w' :=
  h.grown hg hB fun k hk => (World.ownsRow.lt hown k hk).1

/-- 'string(v)' of bytes that the call owns. -/
theorem run_string_owned {P : Program} {w : World} {B : Nat} {t e ts : TypeId} (hT : ByteSl P t e) (hs : P.underlying ts = some .string) {v : Value} {l : List UInt8} (h : ownsB w B e v l) :
    (convert t ts v).run P w = .ok (.string ⟨l.toArray⟩) w := by
  rcases h.form with ⟨rfl, rfl⟩ | ⟨g, cap, rfl, _, _, _, hc⟩
  · rw [run_convert_bytes_string w t ts e none 0 0 hT.ht hT.he hs]
    rfl
  · rw [run_convert_bytes_string w t ts e _ _ _ hT.ht hT.he hs]
    have e1 : (Lib.byteCells l) = (l.map fun b => (b.toNat : Int)).map (Value.int .u8) := by simp [Lib.byteCells]
    have hload : (loadCells ⟨g, 0, none⟩ l.length).run P w = .ok ((l.map fun b => (b.toNat : Int)).map (Value.int .u8)).toArray w := by
      rw [← e1]
      have := run_loadCells_list (P := P) w ⟨g, 0, none⟩ (Lib.byteCells l) (by
        intro j u hj
        have hlt : j < l.length := by
          have := (List.getElem?_eq_some_iff.1 hj).1
          simpa [Lib.byteCells] using this
        have e2 : u = .int .u8 l[j].toNat := by
          simp [Lib.byteCells, List.getElem?_eq_getElem hlt] at hj
          exact hj.symm
        rw [e2, Addr.add_lit, Nat.zero_add]
        exact hc j hlt)
      rwa [Lib.byteCells_length] at this
    rw [run_bytesToString w ⟨g, 0, none⟩ l.length cap _ hload, foldl_push_bytes]
    congr 3
    simp only [ByteArray.empty, ByteArray.emptyWithCapacity]
    have : (l.map fun b => (b.toNat : Int)).map (fun n => UInt8.ofNat n.toNat) = l := by
      rw [List.map_map]
      exact List.map_id'' (fun b => by simp) l
    rw [this]
    simp
    rfl

theorem u8_beq (a b : UInt8) : ((a.toNat : Int) == (b.toNat : Int)) = decide (a = b) := by
  by_cases h : a = b
  · simp [h]
  · have : a.toNat ≠ b.toNat := fun e => h (UInt8.toNat_inj.1 e)
    simp [h]; omega
theorem u8_ne {c : UInt8} {n : Nat} (h : ¬ c = UInt8.ofNat n) (_hn : n < 256) : ¬ c.toNat = n := fun e => h (by rw [← e]; simp)
theorem u8_eq {c : UInt8} {n : Nat} (h : c = UInt8.ofNat n) (hn : n < 256) : c.toNat = n := by rw [h]; simp; omega
/-- a number as a byte -/
def b8 (x : Int) : UInt8 := UInt8.ofNat x.toNat
theorem b8_toNat (x : Int) (h0 : 0 ≤ x) (h1 : x < 256) : ((b8 x).toNat : Int) = x := by
  simp [b8]; omega
theorem b8_of (c : UInt8) : b8 (c.toNat : Int) = c := by simp [b8]
theorem cells_byte (w : World) (x : Int) (t : TypeId) (h0 : 0 ≤ x) (h1 : x < 256) : ∀ j u, (Lib.byteCells [b8 x])[j]? = some u → (w.alloc (.cells #[.int .u8 x] t)).cell? ((⟨w.heap.size, 0, none⟩ : Addr).add j) = some u := by
  have e : Lib.byteCells [b8 x] = [.int .u8 x] := by simp [Lib.byteCells, b8_toNat x h0 h1]
  rw [e]
  exact cells_new w [.int .u8 x] t
theorem cells_byte3 (w : World) (x y z : Int) (t : TypeId) (h0 : 0 ≤ x) (h1 : x < 256) (h2 : 0 ≤ y) (h3 : y < 256) (h4 : 0 ≤ z) (h5 : z < 256) : ∀ j u, (Lib.byteCells [b8 x, b8 y, b8 z])[j]? = some u → (w.alloc (.cells #[.int .u8 x, .int .u8 y, .int .u8 z] t)).cell? ((⟨w.heap.size, 0, none⟩ : Addr).add j) = some u := by
  have e : Lib.byteCells [b8 x, b8 y, b8 z] = [.int .u8 x, .int .u8 y, .int .u8 z] := by simp [Lib.byteCells, b8_toNat x h0 h1, b8_toNat y h2 h3, b8_toNat z h4 h5]
  rw [e]
  exact cells_new w [.int .u8 x, .int .u8 y, .int .u8 z] t

/-- A slice of ints. -/
structure IntSl (P : Program) (t e : TypeId) : Prop where
  ht : P.underlying t = some (.slice e)
  hi : ∃ i, P.info? e = some i ∧ i.zero = some (.int .i64 0) ∧ i.size = 1 ∧ i.bytes = 8
def ownsI (w : World) (B : Nat) (e : TypeId) (v : Value) (l : List Int) : Prop := w.ownsRow B e 1 v l.length (l.map (Value.int .i64))
theorem ownsI.nil (w : World) (B : Nat) (e : TypeId) : ownsI w B e (.slice none 0 0) [] := World.ownsRow_nil w B e 1
theorem ownsI.alloc {w : World} {B : Nat} {e : TypeId} {v : Value} {l : List Int} (h : ownsI w B e v l) (o : Obj) : ownsI (w.alloc o) B e v l := World.ownsRow.alloc h o
theorem ownsI.form {w : World} {B : Nat} {e : TypeId} {v : Value} {l : List Int} (h : ownsI w B e v l) : (v = .slice none 0 0 ∧ l = []) ∨ ∃ g cap, v = .slice (some ⟨g, 0, none⟩) l.length cap ∧ B ≤ g ∧ l.length ≤ cap ∧ cap ≤ maxLen ∧ ∀ j (hj : j < l.length), w.cell? ⟨g, j, none⟩ = some (.int .i64 l[j]) := by
  rcases h.2 with ⟨h1, h2⟩ | ⟨g, cap, cur, h1, h2, h3, h4, h5, h6, h7⟩
  · exact .inl ⟨h1, List.eq_nil_of_length_eq_zero h2⟩
  · refine .inr ⟨g, cap, h1, h2, h4, h5, fun j hj => ?_⟩
    have := World.ownsRow.cells h (g := g) (by rw [h1]; rfl) j (.int .i64 l[j]) (by simp [List.getElem?_eq_getElem hj])
    rw [Addr.add_lit, Nat.zero_add] at this
    exact this
theorem append_int {P : Program} (w : World) {ops : Array Oper} {rest : List Oper} {o : Oper} {a : Act} {Q : Exit → Act → World → Prop} (hgd : o.guard = none) (s x : Operand) {t e : TypeId} (hT : IntSl P t e)
    (ho : o.op = .call { callee := .builtin .append, args := #[s, x], argTypes := #[t, t] }) (B : Nat) (v : Value) (l : List Int) (hs : a.eval s = v) (hown : ownsI w B e v l)
    (ad : Addr) (m c : Nat) (ds : List Int) (hx : a.eval x = .slice (some ad) m c) (hm : ds.length = m) (hc : ∀ j u, (ds.map (Value.int .i64))[j]? = some u → w.cell? (ad.add j) = some u)
    (hl : (l.length + m) * 8 ≤ 140737488355328) (hB : B ≤ w.heap.size)
    (h : ∀ v' w', ownsI w' B e v' (l ++ ds) → w.grownBy w' v.ownBlock → wpList P ops Q rest (a.put o.dst v') w') : wpList P ops Q (o :: rest) a w := by
  obtain ⟨i, hi, hz, hsize, hby⟩ := hT.hi
  refine wpList_append_own w hgd s x t ho B e i (.int .i64 0) 1 8 hT.ht hi hz hsize hby rfl (by decide) v l.length (l.map (Value.int .i64)) hs hown ad m c (ds.map (Value.int .i64)) hx (by rw [List.length_map, hm]; omega) hc (by intro u hu; simp only [List.mem_map] at hu; obtain ⟨b, _, rfl⟩ := hu; rfl) (by unfold maxLen; omega) (by omega) hB ?_
  intro v' w' h1 h2 _
  refine h v' w' ?_ h2
  unfold ownsI
  rw [List.length_append, List.map_append, hm]
  exact h1
theorem Below_grownI {B : Nat} {a w w' : World} {v : Value} {l : List Int} {e : TypeId} (h : Below B a w) (hown : ownsI w B e v l) (hg : w.grownBy w' v.ownBlock) (hB : B ≤ w.heap.size) : Below B a w' :=
  h.grown hg hB fun k hk => (World.ownsRow.lt hown k hk).1

/-! wraps, for regions that draw their order -/
theorem w64 {x y : Int} (h : x = y) (h1 : -9223372036854775808 ≤ y) (h2 : y ≤ 9223372036854775807) : IntKind.i64.wrap x = y := by
  subst h; rw [IntKind.wrap_i64]; omega
theorem w8 {x : Int} (h1 : 0 ≤ x) (h2 : x < 256) : IntKind.u8.wrap x = x := by
  have : IntKind.u8.wrap x = x % 256 := by simp [IntKind.wrap, IntKind.bits, IntKind.signed]
  rw [this]; omega
theorem w64d {x : Int} {n : Nat} (h0 : 0 ≤ x) (h2 : x ≤ 9223372036854775807) (_hn : 0 < n) : IntKind.i64.wrap (x.tdiv n) = x / n := by
  refine w64 (Int.tdiv_eq_ediv_of_nonneg h0) ?_ ?_
  · have := Int.ediv_nonneg h0 (Int.natCast_nonneg n); omega
  · have := Int.ediv_le_self n h0; omega
theorem tmod_nn {x n : Int} (h0 : 0 ≤ x) : x.tmod n = x % n := Int.tmod_eq_emod_of_nonneg h0

/-- bytes that lie in a block just made are owned -/
theorem ownsB.lit (w : World) (l : List UInt8) (e : TypeId) (n : Nat) (hn : l.length = n) (hm : n ≤ 1000000) : ownsB (w.alloc (.cells (Lib.byteCells l).toArray e)) w.heap.size e (.slice (some ⟨w.heap.size, 0, none⟩) n n) l := by
  subst hn
  refine ⟨by rw [Lib.byteCells_length]; omega, .inr ⟨w.heap.size, l.length, _, rfl, Nat.le_refl _, heap_alloc_new w _, Nat.le_refl _, by unfold maxLen; omega, by simp [Lib.byteCells], ?_⟩⟩
  rw [show l.length * 1 = (Lib.byteCells l).length by rw [Lib.byteCells_length]; omega]
  simp
theorem run_string_lit {P : Program} (w : World) {t e ts : TypeId} (hT : ByteSl P t e) (hs : P.underlying ts = some .string) (l : List UInt8) (n : Nat) (hn : l.length = n) (hm : n ≤ 1000000) :
    (convert t ts (.slice (some ⟨w.heap.size, 0, none⟩) n n)).run P (w.alloc (.cells (Lib.byteCells l).toArray e)) = .ok (.string ⟨l.toArray⟩) (w.alloc (.cells (Lib.byteCells l).toArray e)) :=
  run_string_owned hT hs (ownsB.lit w l e n hn hm)

/-- 'make([]byte, n)' -/
theorem make_bytes {P : Program} (w : World) {ops : Array Oper} {rest : List Oper} {o : Oper} {a : Act} {Q : Exit → Act → World → Prop}
    (hg : o.guard = none) (l c : Operand) {t e : TypeId} (hT : ByteSl P t e) (hop : o.op = Op.makeSlice t l c)
    (B : Nat) (kl kc : IntKind) (L C : Int) (n : Nat) (hl : a.eval l = .int kl L) (hc : a.eval c = .int kc C) (hL : L = (n : Int)) (hC : C = (n : Int)) (hn : n ≤ 140737488355328) (hB : B ≤ w.heap.size)
    (hK : ∀ w', ownsB w' B e (.slice (some ⟨w.heap.size, 0, none⟩) n n) (List.replicate n 0) → w.grownBy w' none → wpList P ops Q rest (a.put o.dst (.slice (some ⟨w.heap.size, 0, none⟩) n n)) w') :
    wpList P ops Q (o :: rest) a w := by
  obtain ⟨i, hi, hz, hsize, hby⟩ := hT.hi
  refine wpList_make_full w hg l c t hop B e i (.int .u8 0) 1 hT.ht hi hz hsize kl kc L C n hl hc hL hC (by rw [hby]; omega) (by unfold maxLen; omega) hB ?_
  intro w' h1 h2
  refine hK w' ?_ h2
  unfold ownsB
  have e1 : (madeCells (Value.int .u8 0).cells (n * 1)).toList = Lib.byteCells (List.replicate n 0) := by
    simp only [madeCells, Lib.byteCells, Value.cells]
    apply List.ext_getElem
    · simp
    · intro j h1 h2
      simp [Nat.mod_one]
  rw [e1] at h1
  rw [List.length_replicate]
  exact h1
theorem byteCells_set (l : List UInt8) (j : Nat) (x : Int) (h0 : 0 ≤ x) (h1 : x < 256) : (Lib.byteCells l).set j (.int .u8 x) = Lib.byteCells (l.set j (b8 x)) := by
  simp only [Lib.byteCells, List.map_set, b8_toNat x h0 h1]
theorem ownsB.stored {w : World} {B : Nat} {e : TypeId} {g n cap : Nat} {l : List UInt8} (h : ownsB w B e (.slice (some ⟨g, 0, none⟩) n cap) l) (hn : l.length = n) (j : Nat) (x : Int) (h0 : 0 ≤ x) (h1 : x < 256) :
    ownsB (w.setCell ⟨g, j, none⟩ (.int .u8 x)) B e (.slice (some ⟨g, 0, none⟩) n cap) (l.set j (b8 x)) := by
  subst hn
  have := (World.ownsRow.stored h j (.int .u8 x)).1
  unfold ownsB
  rw [List.length_set, ← byteCells_set l j x h0 h1]
  exact this
theorem ownsB.cellAt {w : World} {B : Nat} {e : TypeId} {g n cap : Nat} {l : List UInt8} (h : ownsB w B e (.slice (some ⟨g, 0, none⟩) n cap) l) (hn : l.length = n) (j : Nat) (hj : j < l.length) : w.cell? ⟨g, j, none⟩ = some (.int .u8 l[j].toNat) := by
  subst hn
  rw [World.ownsRow.cellAt h j (by omega)]
  simp [Lib.byteCells, List.getElem?_eq_getElem hj]
theorem ownsB.frozenAt {w : World} {B : Nat} {e : TypeId} {g n cap : Nat} {l : List UInt8} (h : ownsB w B e (.slice (some ⟨g, 0, none⟩) n cap) l) (hn : l.length = n) (j : Nat) : w.frozen? ⟨g, j, none⟩ = false := by
  subst hn; exact World.ownsRow.frozenAt h j
theorem set_pad (acc : List UInt8) (k m : Nat) (hk : acc.length = k) (hm : k < m) (y : UInt8) : (acc ++ List.replicate (m - k) 0).set k y = acc ++ [y] ++ List.replicate (m - (k + 1)) 0 := by
  subst hk
  rw [show m - acc.length = (m - (acc.length + 1)) + 1 by omega, List.replicate_succ, List.set_append_right _ _ (Nat.le_refl _)]
  simp
end Pk
