/- Small laws of no program: slices of structs of any shape that the call owns, and how they are seen later. -/
import Derived.Test.YtjoipgekmnnlpaaGreatDoorKitX
namespace Pk
open Go Go.RowKit

/-- how an element lies in memory: k cells -/
structure Lay (α : Type) where
  enc : α → List Value
  k : Nat
  hk : ∀ x, (enc x).length = k
  h0 : 0 < k
  one : ∀ x, ∀ u ∈ enc x, u.oneCell' = true
structure GSl {α : Type} (L : Lay α) (bytes : Nat) (P : Program) (t e : TypeId) : Prop where
  ht : P.underlying t = some (.slice e)
  hi : ∃ i z, P.info? e = some i ∧ i.zero = some z ∧ z.cells.size = L.k ∧ i.size = L.k ∧ i.bytes = bytes
theorem GSl.of {α : Type} {L : Lay α} {bytes : Nat} {P : Program} {t e : TypeId} (ht : P.underlying t = some (.slice e))
    (hz : (P.info? e).map (fun i => (i.zero.map (fun z => z.cells.size), i.size, i.bytes)) = some (some L.k, L.k, bytes)) : GSl L bytes P t e := by
  refine ⟨ht, ?_⟩
  cases hi : P.info? e with
  | none => rw [hi] at hz; cases hz
  | some i =>
    rw [hi] at hz
    simp only [Option.map_some, Option.some.injEq, Prod.mk.injEq] at hz
    obtain ⟨h1, h2, h3⟩ := hz
    cases h4 : i.zero with
    | none => rw [h4] at h1; cases h1
    | some z =>
      rw [h4] at h1
      simp only [Option.map_some, Option.some.injEq] at h1
      exact ⟨i, z, rfl, h4, h1, h2, h3⟩
def ownsG {α : Type} (L : Lay α) (w : World) (B : Nat) (e : TypeId) (v : Value) (l : List α) : Prop := w.ownsRow B e L.k v l.length (l.flatMap L.enc)
theorem encG_length {α : Type} (L : Lay α) (l : List α) : (l.flatMap L.enc).length = l.length * L.k := by
  induction l with
  | nil => simp
  | cons x l ih => rw [List.flatMap_cons, List.length_append, ih, L.hk, List.length_cons, Nat.succ_mul]; omega
theorem encG_at {α : Type} (L : Lay α) : ∀ (l : List α) (j : Nat) (h : j < l.length) (i : Nat) (u : Value), (L.enc l[j])[i]? = some u → (l.flatMap L.enc)[j * L.k + i]? = some u
  | x :: l, 0, _, i, u, hu => by
    rw [List.flatMap_cons, Nat.zero_mul, Nat.zero_add]
    have hi : i < (L.enc x).length := (List.getElem?_eq_some_iff.1 hu).1
    rw [List.getElem?_append_left hi]; exact hu
  | x :: l, j + 1, h, i, u, hu => by
    have ih := encG_at L l j (by simpa using h) i u (by simpa using hu)
    rw [List.flatMap_cons, List.getElem?_append_right (by rw [L.hk, Nat.succ_mul]; omega), L.hk]
    rw [show (j + 1) * L.k + i - L.k = j * L.k + i by rw [Nat.succ_mul]; omega]
    exact ih
theorem ownsG.nil {α : Type} (L : Lay α) (w : World) (B : Nat) (e : TypeId) : ownsG L w B e (.slice none 0 0) [] := World.ownsRow_nil w B e L.k
theorem ownsG.alloc {α : Type} {L : Lay α} {w : World} {B : Nat} {e : TypeId} {v : Value} {l : List α} (h : ownsG L w B e v l) (o : Obj) : ownsG L (w.alloc o) B e v l := World.ownsRow.alloc h o
theorem ownsG.drew {α : Type} {L : Lay α} {w : World} {B : Nat} {e : TypeId} {v : Value} {l : List α} (h : ownsG L w B e v l) : ownsG L w.drew B e v l := World.ownsRow.drew h
theorem ownsG.below {α : Type} {L : Lay α} {w w' : World} {B C : Nat} {e : TypeId} {v : Value} {l : List α} (h : ownsG L w B e v l) (hb : Below C w w') (hC : w.heap.size ≤ C) : ownsG L w' B e v l := by
  refine ⟨h.1, ?_⟩
  rcases h.2 with hn | ⟨g, cap, cur, h1, h2, h3, h4⟩
  · exact .inl hn
  · have hg : g < w.heap.size := lt_of_block h3
    exact .inr ⟨g, cap, cur, h1, h2, (hb.block g (by omega)).trans h3, h4⟩
theorem ownsG.base {α : Type} {L : Lay α} {w : World} {B C : Nat} {e : TypeId} {v : Value} {l : List α} (h : ownsG L w B e v l) (hC : C ≤ B) : ownsG L w C e v l := by
  refine ⟨h.1, ?_⟩
  rcases h.2 with hn | ⟨g, cap, cur, h1, h2, h3⟩
  · exact .inl hn
  · exact .inr ⟨g, cap, cur, h1, by omega, h3⟩
theorem append_g {α : Type} {L : Lay α} {bytes : Nat} {P : Program} (w : World) {ops : Array Oper} {rest : List Oper} {o : Oper} {a : Act} {Q : Exit → Act → World → Prop} (hgd : o.guard = none) (s x : Operand) {t e : TypeId} (hT : GSl L bytes P t e)
    (ho : o.op = .call { callee := .builtin .append, args := #[s, x], argTypes := #[t, t] }) (B : Nat) (v : Value) (l : List α) (hs : a.eval s = v) (hown : ownsG L w B e v l)
    (ad : Addr) (ys : List α) (m c : Nat) (hx : a.eval x = .slice (some ad) m c) (hm : ys.length = m) (hc : ∀ j u, (ys.flatMap L.enc)[j]? = some u → w.cell? (ad.add j) = some u)
    (hl : (l.length + m) * bytes ≤ 140737488355328) (h63 : l.length + m ≤ 140737488355328) (hB : B ≤ w.heap.size)
    (h : ∀ v' w', ownsG L w' B e v' (l ++ ys) → w.grownBy w' v.ownBlock → wpList P ops Q rest (a.put o.dst v') w') : wpList P ops Q (o :: rest) a w := by
  obtain ⟨i, z, hi, hz, hzs, hsize, hby⟩ := hT.hi
  refine wpList_append_own w hgd s x t ho B e i z L.k bytes hT.ht hi hz hsize hby hzs L.h0 v l.length (l.flatMap L.enc) hs hown ad m c (ys.flatMap L.enc) hx (by rw [encG_length, hm]) hc (by intro u hu; obtain ⟨y, _, hy⟩ := List.mem_flatMap.1 hu; exact L.one y u hy) (by unfold maxLen; omega) hl hB ?_
  intro v' w' h1 h2 _
  refine h v' w' ?_ h2
  unfold ownsG
  rw [List.length_append, List.flatMap_append, hm]
  exact h1
theorem Below_grownG {α : Type} {L : Lay α} {B : Nat} {a w w' : World} {v : Value} {l : List α} {e : TypeId} (h : Below B a w) (hown : ownsG L w B e v l) (hg : w.grownBy w' v.ownBlock) (hB : B ≤ w.heap.size) : Below B a w' :=
  h.grown hg hB fun k hk => (World.ownsRow.lt hown k hk).1

/-- elements as they are read -/
def seesG {α : Type} (L : Lay α) (w : World) (C : Nat) (e : TypeId) (v : Value) (m : List α) : Prop := ∃ p c, v = .slice p m.length c ∧ m.length ≤ c ∧ (m = [] ∨ ∃ g cur fz, p = some ⟨g, 0, none⟩ ∧ g < C ∧ w.heap[g]? = some (.cells cur e fz) ∧ cur.toList.take (m.length * L.k) = m.flatMap L.enc)
theorem ownsG.sees {α : Type} {L : Lay α} {w : World} {B C : Nat} {e : TypeId} {v : Value} {l : List α} (h : ownsG L w B e v l) (hC : w.heap.size ≤ C) : seesG L w C e v l := by
  rcases h.2 with ⟨h1, h2⟩ | ⟨g, cap, cur, h1, h2, h3, h4, h5, h6, h7⟩
  · have : l = [] := List.eq_nil_of_length_eq_zero h2
    subst this
    exact ⟨none, 0, h1, by simp, .inl rfl⟩
  · have := lt_of_block h3
    exact ⟨_, cap, h1, h4, .inr ⟨g, cur, _, rfl, by omega, h3, h7⟩⟩
theorem seesG.keeps {α : Type} {L : Lay α} {w w' : World} {C D : Nat} {e : TypeId} {v : Value} {m : List α} (h : seesG L w C e v m) (hk : ∀ g cur fz, g < C → w.heap[g]? = some (.cells cur e fz) → w'.heap[g]? = w.heap[g]?) (hD : C ≤ D) : seesG L w' D e v m := by
  obtain ⟨p, c, h1, h2, h3⟩ := h
  refine ⟨p, c, h1, h2, ?_⟩
  rcases h3 with h3 | ⟨g, cur, fz, h4, h5, h6, h7⟩
  · exact .inl h3
  · exact .inr ⟨g, cur, fz, h4, by omega, (hk g cur fz h5 h6).trans h6, h7⟩
theorem seesG.below {α : Type} {L : Lay α} {w w' : World} {C D : Nat} {e : TypeId} {v : Value} {m : List α} (h : seesG L w C e v m) (hb : Below D w w') (hD : C ≤ D) : seesG L w' C e v m :=
  h.keeps (fun g _ _ hg _ => hb.block g (by omega)) (Nat.le_refl _)
theorem seesG.later {α : Type} {L : Lay α} {w w' : World} {C : Nat} {e : TypeId} {v : Value} {m : List α} (h : seesG L w w.heap.size e v m) (hb : Below C w w') (hC : w.heap.size ≤ C) : seesG L w' w'.heap.size e v m :=
  h.keeps (fun g _ _ hg _ => hb.block g (by omega)) hb.size
theorem seesG.form {α : Type} {L : Lay α} {w : World} {C : Nat} {e : TypeId} {v : Value} {m : List α} (h : seesG L w C e v m) : ∃ p c, v = .slice p m.length c ∧ m.length ≤ c ∧ (m = [] ∨ ∃ g, p = some ⟨g, 0, none⟩ ∧ g < C ∧ ∀ j (hj : j < m.length) i u, (L.enc m[j])[i]? = some u → w.cell? ⟨g, j * L.k + i, none⟩ = some u) := by
  obtain ⟨p, c, h1, h2, h3⟩ := h
  refine ⟨p, c, h1, h2, ?_⟩
  rcases h3 with h3 | ⟨g, cur, fz, h4, h5, h6, h7⟩
  · exact .inl h3
  · refine .inr ⟨g, h4, h5, fun j hj i u hu => ?_⟩
    have e1 := encG_at L m j hj i u hu
    have hi : i < L.k := by have := (List.getElem?_eq_some_iff.1 hu).1; rwa [L.hk] at this
    have hlt : j * L.k + i < m.length * L.k := by
      have : (j + 1) * L.k ≤ m.length * L.k := Nat.mul_le_mul_right _ hj
      rw [Nat.succ_mul] at this; omega
    rw [← h7, List.getElem?_take, if_pos hlt] at e1
    unfold World.cell?
    rw [h6]
    simpa using e1
end Pk
