/- Small laws of no program: slices of pattern elements and of slices that the call owns, and how they are seen later. -/
import Derived.Test.YtilccofdphohiaaGreatDoorKitX
import Derived.Test.YtilccofdphohiaaGreatDoorFd4
namespace Pk
open Go Go.RowKit Fo

def elC (x : El) : List Value := [.int .i64 x.kind, .string x.text]
structure ElSl (P : Program) (t e : TypeId) : Prop where
  ht : P.underlying t = some (.slice e)
  hi : ∃ i, P.info? e = some i ∧ i.zero = some (.agg #[.int .i64 0, .string ⟨#[]⟩]) ∧ i.size = 2 ∧ i.bytes = 24
def ownsE (w : World) (B : Nat) (e : TypeId) (v : Value) (l : List El) : Prop := w.ownsRow B e 2 v l.length (l.flatMap elC)
theorem elC_length (l : List El) : (l.flatMap elC).length = l.length * 2 := by
  induction l with
  | nil => rfl
  | cons x l ih => rw [List.flatMap_cons, List.length_append, ih, List.length_cons]; show 2 + _ = _; omega
theorem elC_at : ∀ (l : List El) (j : Nat) (h : j < l.length), (l.flatMap elC)[j * 2]? = some (.int .i64 l[j].kind) ∧ (l.flatMap elC)[j * 2 + 1]? = some (.string l[j].text)
  | x :: l, 0, _ => ⟨rfl, rfl⟩
  | x :: l, j + 1, h => by
    obtain ⟨h1, h2⟩ := elC_at l j (by simpa using h)
    have e : (x :: l).flatMap elC = .int .i64 x.kind :: .string x.text :: l.flatMap elC := rfl
    rw [e, show (j + 1) * 2 = j * 2 + 1 + 1 by omega]
    simp only [List.getElem?_cons_succ, List.getElem_cons_succ]
    exact ⟨h1, h2⟩
theorem ownsE.nil (w : World) (B : Nat) (e : TypeId) : ownsE w B e (.slice none 0 0) [] := World.ownsRow_nil w B e 2
theorem ownsE.alloc {w : World} {B : Nat} {e : TypeId} {v : Value} {l : List El} (h : ownsE w B e v l) (o : Obj) : ownsE (w.alloc o) B e v l := World.ownsRow.alloc h o
theorem ownsE.below {w w' : World} {B C : Nat} {e : TypeId} {v : Value} {l : List El} (h : ownsE w B e v l) (hb : Below C w w') (hC : w.heap.size ≤ C) : ownsE w' B e v l := by
  refine ⟨h.1, ?_⟩
  rcases h.2 with hn | ⟨g, cap, cur, h1, h2, h3, h4⟩
  · exact .inl hn
  · have hg : g < w.heap.size := lt_of_block h3
    exact .inr ⟨g, cap, cur, h1, h2, (hb.block g (by omega)).trans h3, h4⟩
theorem ownsE.base {w : World} {B C : Nat} {e : TypeId} {v : Value} {l : List El} (h : ownsE w B e v l) (hC : C ≤ B) : ownsE w C e v l := by
  refine ⟨h.1, ?_⟩
  rcases h.2 with hn | ⟨g, cap, cur, h1, h2, h3⟩
  · exact .inl hn
  · exact .inr ⟨g, cap, cur, h1, by omega, h3⟩
theorem append_el {P : Program} (w : World) {ops : Array Oper} {rest : List Oper} {o : Oper} {a : Act} {Q : Exit → Act → World → Prop} (hgd : o.guard = none) (s x : Operand) {t e : TypeId} (hT : ElSl P t e)
    (ho : o.op = .call { callee := .builtin .append, args := #[s, x], argTypes := #[t, t] }) (B : Nat) (v : Value) (l : List El) (hs : a.eval s = v) (hown : ownsE w B e v l)
    (ad : Addr) (y : El) (c : Nat) (hx : a.eval x = .slice (some ad) 1 c) (hc : ∀ j u, (elC y)[j]? = some u → w.cell? (ad.add j) = some u)
    (hl : (l.length + 1) * 24 ≤ 140737488355328) (hB : B ≤ w.heap.size)
    (h : ∀ v' w', ownsE w' B e v' (l ++ [y]) → w.grownBy w' v.ownBlock → wpList P ops Q rest (a.put o.dst v') w') : wpList P ops Q (o :: rest) a w := by
  obtain ⟨i, hi, hz, hsize, hby⟩ := hT.hi
  refine wpList_append_own w hgd s x t ho B e i _ 2 24 hT.ht hi hz hsize hby rfl (by decide) v l.length (l.flatMap elC) hs hown ad 1 c (elC y) hx rfl hc (by intro u hu; simp only [elC, List.mem_cons, List.not_mem_nil, or_false] at hu; rcases hu with rfl | rfl <;> rfl) (by unfold maxLen; omega) (by omega) hB ?_
  intro v' w' h1 h2 _
  refine h v' w' ?_ h2
  unfold ownsE
  rw [List.length_append, List.flatMap_append, List.length_singleton, List.flatMap_singleton]
  exact h1
theorem Below_grownE {B : Nat} {a w w' : World} {v : Value} {l : List El} {e : TypeId} (h : Below B a w) (hown : ownsE w B e v l) (hg : w.grownBy w' v.ownBlock) (hB : B ≤ w.heap.size) : Below B a w' :=
  h.grown hg hB fun k hk => (World.ownsRow.lt hown k hk).1

/-- elements as they are read -/
def seesE (w : World) (C : Nat) (e : TypeId) (v : Value) (m : List El) : Prop := ∃ p c, v = .slice p m.length c ∧ m.length ≤ c ∧ (m = [] ∨ ∃ g cur fz, p = some ⟨g, 0, none⟩ ∧ g < C ∧ w.heap[g]? = some (.cells cur e fz) ∧ cur.toList.take (m.length * 2) = m.flatMap elC)
theorem ownsE.sees {w : World} {B C : Nat} {e : TypeId} {v : Value} {l : List El} (h : ownsE w B e v l) (hC : w.heap.size ≤ C) : seesE w C e v l := by
  rcases h.2 with ⟨h1, h2⟩ | ⟨g, cap, cur, h1, h2, h3, h4, h5, h6, h7⟩
  · have : l = [] := List.eq_nil_of_length_eq_zero h2
    subst this
    exact ⟨none, 0, h1, by simp, .inl rfl⟩
  · have := lt_of_block h3
    exact ⟨_, cap, h1, h4, .inr ⟨g, cur, _, rfl, by omega, h3, h7⟩⟩
theorem seesE.keeps {w w' : World} {C D : Nat} {e : TypeId} {v : Value} {m : List El} (h : seesE w C e v m) (hk : ∀ g cur fz, g < C → w.heap[g]? = some (.cells cur e fz) → w'.heap[g]? = w.heap[g]?) (hD : C ≤ D) : seesE w' D e v m := by
  obtain ⟨p, c, h1, h2, h3⟩ := h
  refine ⟨p, c, h1, h2, ?_⟩
  rcases h3 with h3 | ⟨g, cur, fz, h4, h5, h6, h7⟩
  · exact .inl h3
  · exact .inr ⟨g, cur, fz, h4, by omega, (hk g cur fz h5 h6).trans h6, h7⟩
theorem seesE.below {w w' : World} {C D : Nat} {e : TypeId} {v : Value} {m : List El} (h : seesE w C e v m) (hb : Below D w w') (hD : C ≤ D) : seesE w' C e v m :=
  h.keeps (fun g _ _ hg _ => hb.block g (by omega)) (Nat.le_refl _)
theorem seesE.form {w : World} {C : Nat} {e : TypeId} {v : Value} {m : List El} (h : seesE w C e v m) : ∃ p c, v = .slice p m.length c ∧ m.length ≤ c ∧ (m = [] ∨ ∃ g, p = some ⟨g, 0, none⟩ ∧ g < C ∧ ∀ j (hj : j < m.length), w.cell? ⟨g, j * 2, none⟩ = some (.int .i64 m[j].kind) ∧ w.cell? ⟨g, j * 2 + 1, none⟩ = some (.string m[j].text)) := by
  obtain ⟨p, c, h1, h2, h3⟩ := h
  refine ⟨p, c, h1, h2, ?_⟩
  rcases h3 with h3 | ⟨g, cur, fz, h4, h5, h6, h7⟩
  · exact .inl h3
  · refine .inr ⟨g, h4, h5, fun j hj => ?_⟩
    obtain ⟨e1, e2⟩ := elC_at m j hj
    rw [← h7, List.getElem?_take, if_pos (by omega)] at e1 e2
    unfold World.cell?
    rw [h6]
    exact ⟨by simpa using e1, by simpa using e2⟩
end Pk
