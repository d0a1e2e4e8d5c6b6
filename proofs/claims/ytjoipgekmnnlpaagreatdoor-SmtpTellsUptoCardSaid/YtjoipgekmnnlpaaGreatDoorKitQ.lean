/- Small laws of no program: a slice that the call owns, at any offset of its row (a queue): append, the rest, what stands. -/
import Derived.Test.YtjoipgekmnnlpaaGreatDoorKitN
import Derived.Deep.AppendSrc
import Derived.Deep.MidRow
import Derived.Deep.Upon
namespace Pk
open Go Go.RowKit

/-- the slice holds these elements, and its room is its own; z: nothing of its row is frozen -/
def Qs {α : Type} (L : Lay α) (z : Prop) (w : World) (e : TypeId) (v : Value) (l : List α) : Prop :=
  (v = .slice none 0 0 ∧ l = []) ∨ ∃ g o cap cur fz, v = .slice (some ⟨g, o, none⟩) l.length cap ∧ l.length ≤ cap ∧ cap ≤ maxLen ∧ w.heap[g]? = some (.cells cur e fz) ∧
    o + cap * L.k ≤ cur.size ∧ fz.2 ≤ o + l.length * L.k ∧ (z → fz.2 = 0) ∧ ∀ j u, (l.flatMap L.enc)[j]? = some u → cur[o + j]? = some u
theorem Qs.nil {α : Type} (L : Lay α) (z : Prop) (w : World) (e : TypeId) : Qs L z w e (.slice none 0 0) [] := .inl ⟨rfl, rfl⟩
theorem Qs.lt {α : Type} {L : Lay α} {z : Prop} {w : World} {e : TypeId} {v : Value} {l : List α} (h : Qs L z w e v l) {g : Nat} (hg : v.ownBlock = some g) : g < w.heap.size := by
  rcases h with ⟨rfl, -⟩ | ⟨g', o, cap, cur, fz, rfl, -, -, h1, -⟩
  · cases hg
  · injection hg with hg; subst hg; exact lt_of_block h1
theorem Qs.kept {α : Type} {L : Lay α} {z : Prop} {w w' : World} {e : TypeId} {v : Value} {l : List α} (h : Qs L z w e v l) (hk : ∀ g, v.ownBlock = some g → w'.heap[g]? = w.heap[g]?) : Qs L z w' e v l := by
  rcases h with ⟨rfl, rfl⟩ | ⟨g, o, cap, cur, fz, rfl, h1, h2, h3, h4⟩
  · exact Qs.nil L z w' e
  · exact .inr ⟨g, o, cap, cur, fz, rfl, h1, h2, (hk g rfl).trans h3, h4⟩
theorem Qs.grown {α : Type} {L : Lay α} {z : Prop} {w w' : World} {row : Option Nat} {e : TypeId} {v : Value} {l : List α} (h : Qs L z w e v l) (hg : w.grownBy w' row) (hne : v.ownBlock ≠ row ∨ v.ownBlock = none) : Qs L z w' e v l := by
  refine h.kept fun g e => hg.block g (h.lt e) ?_
  rcases hne with hne | hne
  · exact fun e' => hne (e.trans e')
  · rw [hne] at e; cases e
theorem Qs.form {α : Type} {L : Lay α} {z : Prop} {w : World} {e : TypeId} {v : Value} {l : List α} (h : Qs L z w e v l) : ∃ p c, v = .slice p l.length c ∧ l.length ≤ c := by
  rcases h with ⟨rfl, rfl⟩ | ⟨g, o, cap, cur, fz, rfl, h1, -⟩
  · exact ⟨_, _, rfl, Nat.le_refl _⟩
  · exact ⟨_, _, rfl, h1⟩
theorem heap_setCells (b : Nat) (e : TypeId) (fz : Nat × Nat) : ∀ (vs : List Value) (o : Nat) (w : World) (cur : Array Value), w.heap[b]? = some (.cells cur e fz) → ∃ cur', (w.setCells b o vs).heap[b]? = some (.cells cur' e fz) ∧ cur'.size = cur.size
  | [], _, _, cur, h => ⟨cur, h, rfl⟩
  | v :: r, o, w, cur, h => by
    rw [World.setCells]
    have h2 : (w.setCell ⟨b, o, none⟩ v).heap[b]? = some (.cells (cur.setIfInBounds o v) e fz) := by
      simp [World.setCell, Array.getElem?_modify, h]
    obtain ⟨c, h3, h4⟩ := heap_setCells b e fz r (o + 1) _ _ h2
    exact ⟨c, h3, by rw [h4, Array.size_setIfInBounds]⟩
theorem cell_cur {w : World} {g : Nat} {cur : Array Value} {e : TypeId} {fz : Nat × Nat} (h : w.heap[g]? = some (.cells cur e fz)) (j : Nat) : w.cell? ⟨g, j, none⟩ = cur[j]? := by
  simp [World.cell?, h]
theorem frz_cur {w : World} {g : Nat} {cur : Array Value} {e : TypeId} {fz : Nat × Nat} (h : w.heap[g]? = some (.cells cur e fz)) {j : Nat} (hj : fz.2 ≤ j) : w.frozen? ⟨g, j, none⟩ = false := by
  obtain ⟨a, b⟩ := fz
  simp [World.frozen?, h]
  intro _; exact hj
theorem tape_setCells (b : Nat) : ∀ (vs : List Value) (o : Nat) (w : World), (w.setCells b o vs).tape = w.tape
  | [], _, _ => rfl
  | v :: r, o, w => by rw [World.setCells, tape_setCells b r]; rfl
theorem size_setCells (b : Nat) : ∀ (vs : List Value) (o : Nat) (w : World), (w.setCells b o vs).heap.size = w.heap.size
  | [], _, _ => rfl
  | v :: r, o, w => by rw [World.setCells, size_setCells b r]; simp [World.setCell]
theorem grown_setCells (b o : Nat) (vs : List Value) (w : World) : w.grownBy (w.setCells b o vs) (some b) :=
  ⟨World.os_setCells _ _ _ _, tape_setCells _ _ _ _, World.output_setCells _ _ _ _, by rw [size_setCells]; exact Nat.le_refl _, fun k hk hne => World.heap_setCells_other w b o vs hk (fun e => hne (by rw [e]))⟩
/-- it begins its row -/
def OffZ (v : Value) : Prop := ∀ p n c, v = .slice (some p) n c → p.off = 0
theorem run_append_q {α : Type} {L : Lay α} {z0 : Prop} {bytes : Nat} {P : Program} {w : World} {t e : TypeId} (hT : GSl L bytes P t e) {v : Value} {l : List α} (hq : Qs L z0 w e v l) (tx ty : TypeId) (x : Value) (ys : List α) (hs : Src P L.k tx x ys.length (ys.flatMap L.enc) w)
    (hl : (l.length + ys.length) * bytes ≤ 140737488355328) (h63 : l.length + ys.length ≤ 140737488355328) :
    ∃ v' w', (Builtin.append_ #[t, tx] ty #[v, x]).run P w = .ok v' w' ∧ Qs L z0 w' e v' (l ++ ys) ∧ w.grownBy w' v.ownBlock ∧ NewOwn w v v' ∧ (ys = [] → v' = v) ∧ (OffZ v → OffZ v') := by
  obtain ⟨i, z, hi, hz, hzs, hsize, hby⟩ := hT.hi
  have hs' : Src P i.size tx x ys.length (ys.flatMap L.enc) w := by rw [hsize]; exact hs
  have hL : (l.flatMap L.enc).length = l.length * L.k := encG_length L l
  have hY : (ys.flatMap L.enc).length = ys.length * L.k := encG_length L ys
  -- a new row
  have grow : ∀ (bs : Option Addr) (sc : Nat), v = .slice bs l.length sc → l.length ≤ sc → sc < l.length + ys.length →
      (Builtin.firstCells i.size l.length (.slice bs l.length sc)).run P w.drew = .ok (l.flatMap L.enc).toArray w.drew →
      ∃ v' w', (Builtin.append_ #[t, tx] ty #[v, x]).run P w = .ok v' w' ∧ Qs L z0 w' e v' (l ++ ys) ∧ w.grownBy w' v.ownBlock ∧ NewOwn w v v' ∧ (ys = [] → v' = v) ∧ (OffZ v → OffZ v') := by
    rintro bs sc rfl hsc hg hold
    have hrun := run_append_grow_src (P := P) w t tx ty e i z hT.ht hi hz bs l.length sc _ hold x ys.length _ hs' hg (by omega) (growslice_fits hg (by rw [hby]; exact hl))
    have hge := grownCap_ge w (l.length + ys.length) sc e
    have hcm := grownCap_le_maxLen w (l.length + ys.length) sc e (by unfold maxLen; omega)
    refine ⟨_, _, hrun, .inr ⟨w.heap.size, 0, _, _, (0, 0), by rw [List.length_append], by rw [List.length_append]; exact hge, hcm, heap_alloc_new w.drew _, ?_, Nat.zero_le _, fun _ => rfl, fun j u hu => ?_⟩, ⟨rfl, rfl, rfl, by simp, fun k hk _ => Below.heap_alloc w.drew _ k hk⟩, .inr fun k hk => by injection hk with hk; exact Nat.le_of_eq hk, fun e => by subst e; simp at hg; omega, fun _ p n c e => by cases e; rfl⟩
    · rw [Array.size_append, List.size_toArray, List.length_append, hL, hY, size_zeroCells, hzs, ← Nat.add_mul, ← Nat.add_mul, show l.length + ys.length + (grownCap w (l.length + ys.length) sc e - (l.length + ys.length)) = grownCap w (l.length + ys.length) sc e by omega]
      omega
    · rw [List.flatMap_append] at hu
      have hj : j < (l.flatMap L.enc ++ ys.flatMap L.enc).length := (List.getElem?_eq_some_iff.1 hu).1
      rw [Nat.zero_add, Array.getElem?_append_left (by simpa using hj), List.getElem?_toArray]
      exact hu
  rcases hq with ⟨rfl, rfl⟩ | ⟨g, o, cap, cur, fz, rfl, h1, h2, h3, h4, h5, h50, h6⟩
  · by_cases hn : ys = []
    · subst hn
      exact ⟨_, w, run_append_nothing w t tx ty e i hT.ht hi none 0 0 (Nat.le_refl _) x hs', Qs.nil L z0 w e, ⟨rfl, rfl, rfl, Nat.le_refl _, fun _ _ _ => rfl⟩, .inl rfl, fun _ => rfl, id⟩
    · have : 0 < ys.length := List.length_pos_iff.2 hn
      exact grow none 0 rfl (Nat.le_refl _) (by simpa using this) (run_firstCells_none w.drew i.size 0 0 0)
  · by_cases hroom : l.length + ys.length ≤ cap
    · have hk0 : (l.length + ys.length) * L.k ≤ cap * L.k := Nat.mul_le_mul_right _ hroom
      rw [Nat.add_mul] at hk0
      have hin : ∀ j, j < (ys.flatMap L.enc).length → o + (l.length * L.k + j) < cur.size := fun j hj => by omega
      have hc : ∀ j, j < (ys.flatMap L.enc).length → (w.cell? ⟨g, o + l.length * i.size + j, none⟩).isSome = true := fun j hj => by
        rw [cell_cur h3, hsize, Nat.add_assoc, Array.getElem?_eq_getElem (hin j hj)]; rfl
      have hrun := run_append_room_src (P := P) w t tx ty e i hT.ht hi g o l.length cap x ys.length _ hs' hroom hc (fun j hj => frz_cur h3 (by rw [hsize]; omega))
      obtain ⟨cur', h7, h8⟩ := heap_setCells g e fz (ys.flatMap L.enc) (o + l.length * i.size) w cur h3
      refine ⟨_, _, hrun, .inr ⟨g, o, cap, cur', fz, by rw [List.length_append], by rw [List.length_append]; exact hroom, h2, h7, by omega, by rw [List.length_append, Nat.add_mul]; omega, h50, fun j u hu => ?_⟩, grown_setCells _ _ _ _, .inl rfl, fun e => by subst e; rfl, fun hz p n c e => by cases e; exact hz _ _ _ rfl⟩
      rw [← cell_cur h7]
      rw [List.flatMap_append] at hu
      by_cases hj : j < (l.flatMap L.enc).length
      · rw [List.getElem?_append_left hj] at hu
        rw [World.cell?_setCells_out _ _ _ _ _ (fun _ _ => .inl (by show o + j < o + l.length * i.size; rw [hsize]; omega)), cell_cur h3]
        exact h6 j u hu
      · rw [List.getElem?_append_right (by omega)] at hu
        obtain ⟨hj2, hu2⟩ := List.getElem?_eq_some_iff.1 hu
        have := World.cell?_setCells_in g (ys.flatMap L.enc) (o + l.length * i.size) w hc _ hj2
        rw [show o + l.length * i.size + (j - (l.flatMap L.enc).length) = o + j by rw [hsize]; omega] at this
        rw [this, hu2]
    · refine grow _ cap rfl h1 (by omega) ?_
      exact run_firstCells_some w.drew i.size l.length ⟨g, o, none⟩ l.length cap (l.flatMap L.enc) (by rw [hL, hsize]) (fun j u hu => by rw [Addr.add_lit]; exact (cell_cur (w := w) h3 _).trans (h6 j u hu))
theorem append_q {α : Type} {L : Lay α} {z0 : Prop} {bytes : Nat} {P : Program} {w : World} {ops : Array Oper} {rest : List Oper} {o : Oper} {a : Act} {Q : Exit → Act → World → Prop} (hgd : o.guard = none) (s x : Operand) {t e tx : TypeId} (hT : GSl L bytes P t e)
    (ho : o.op = .call { callee := .builtin .append, args := #[s, x], argTypes := #[t, tx] }) {v : Value} {l : List α} (hs : a.eval s = v) (hq : Qs L z0 w e v l)
    (xv : Value) (ys : List α) (hx : a.eval x = xv) (hsrc : Src P L.k tx xv ys.length (ys.flatMap L.enc) w)
    (hl : (l.length + ys.length) * bytes ≤ 140737488355328) (h63 : l.length + ys.length ≤ 140737488355328)
    (h : ∀ v' w', Qs L z0 w' e v' (l ++ ys) → w.grownBy w' v.ownBlock → NewOwn w v v' ∧ (ys = [] → v' = v) ∧ (OffZ v → OffZ v') → wpList P ops Q rest (a.put o.dst v') w') : wpList P ops Q (o :: rest) a w := by
  refine wpList_plain hgd fun _ hK => ?_
  obtain ⟨v', w', hr, h2, h3, h4⟩ := run_append_q hT hq tx o.type xv ys hsrc hl h63
  unfold Oper.wp execOp
  simp only [ho, resolve, invoke, builtin, Sem.run_bind, Sem.run_pure, Result.andThen_ok, List.map_toArray, List.map_cons, List.map_nil, hs, hx, hr]
  exact hK _ _ (h v' w' h2 h3 h4)
def byL : Lay UInt8 := ⟨fun c => [.int .u8 c.toNat], 1, fun _ => rfl, Nat.one_pos, fun _ u hu => by simp at hu; subst hu; rfl⟩
def txL : Lay ByteArray := ⟨fun s => [.string s], 1, fun _ => rfl, Nat.one_pos, fun _ u hu => by simp at hu; subst hu; rfl⟩
theorem byL_enc (l : List UInt8) : l.flatMap byL.enc = l.map fun c => Value.int .u8 c.toNat := by
  induction l with
  | nil => rfl
  | cons c r ih => rw [List.flatMap_cons, ih]; rfl
theorem txL_enc (l : List ByteArray) : l.flatMap txL.enc = l.map Value.string := by
  induction l with
  | nil => rfl
  | cons c r ih => rw [List.flatMap_cons, ih]; rfl
theorem src_str {P : Program} (w : World) {tx : TypeId} (hk : P.underlying tx = some .string) (s : ByteArray) : Src P byL.k tx (.string s) s.data.toList.length (s.data.toList.flatMap byL.enc) w := by
  have := Src.ofString (P := P) w hk s
  rw [byL_enc]
  exact this
end Pk
