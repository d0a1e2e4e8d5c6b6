/- Small laws of no program: a row of elements appended to a row that the call owns. -/
import Derived.Test.YtlhmdooeffmedaaGreatDoorKitE
import Derived.Laws.AppendOwnNone
namespace Pk
open Go Go.RowKit Fo

theorem append_els {P : Program} (w : World) {ops : Array Oper} {rest : List Oper} {o : Oper} {a : Act} {Q : Exit → Act → World → Prop} (hgd : o.guard = none) (s x : Operand) {t e : TypeId} (hT : ElSl P t e)
    (ho : o.op = .call { callee := .builtin .append, args := #[s, x], argTypes := #[t, t] }) (B : Nat) (v : Value) (l : List El) (hs : a.eval s = v) (hown : ownsE w B e v l)
    (C : Nat) (vx : Value) (m : List El) (hx : a.eval x = vx) (hm : ownsE w C e vx m)
    (hl : (l.length + m.length) * 24 ≤ 140737488355328) (hB : B ≤ w.heap.size)
    (h : ∀ v' w', ownsE w' B e v' (l ++ m) → w.grownBy w' v.ownBlock → wpList P ops Q rest (a.put o.dst v') w') : wpList P ops Q (o :: rest) a w := by
  obtain ⟨i, hi, hz, hsize, hby⟩ := hT.hi
  rcases hm.2 with ⟨rfl, h0⟩ | ⟨g, cap, cur, rfl, h2, h3, h4, h5, h6, h7⟩
  · have hm0 : m = [] := List.eq_nil_of_length_eq_zero h0
    subst hm0
    refine wpList_append_own_none hgd s x t ho B e i 2 hT.ht hi v l.length (l.flatMap elC) hs hown hx (h v w (by rw [List.append_nil]; exact hown) ⟨rfl, rfl, rfl, Nat.le_refl _, fun _ _ _ => rfl⟩)
  · refine wpList_append_own w hgd s x t ho B e i _ 2 24 hT.ht hi hz hsize hby rfl (by decide) v l.length (l.flatMap elC) hs hown ⟨g, 0, none⟩ m.length cap (m.flatMap elC) hx (elC_length m) ?_ ?_ (by unfold maxLen; omega) (by omega) hB ?_
    · intro j u hj
      rw [← h7, List.getElem?_take] at hj
      split at hj
      · rw [Addr.add_lit, Nat.zero_add]
        unfold World.cell?
        rw [h3]
        simpa using hj
      · cases hj
    · intro u hu
      rw [List.mem_flatMap] at hu
      obtain ⟨y, _, hy⟩ := hu
      simp only [elC, List.mem_cons, List.not_mem_nil, or_false] at hy
      rcases hy with rfl | rfl <;> rfl
    · intro v' w' h1 h2 _
      refine h v' w' ?_ h2
      unfold ownsE
      rw [List.length_append, List.flatMap_append]
      exact h1
/-- an empty row just made -/
theorem ownsE.new (w : World) (e : TypeId) : ownsE (w.alloc (.cells #[] e)) w.heap.size e (.slice (some ⟨w.heap.size, 0, none⟩) 0 0) [] :=
  ⟨rfl, .inr ⟨w.heap.size, 0, _, rfl, Nat.le_refl _, heap_alloc_new w _, Nat.le_refl _, by unfold maxLen; omega, rfl, rfl⟩⟩
end Pk
