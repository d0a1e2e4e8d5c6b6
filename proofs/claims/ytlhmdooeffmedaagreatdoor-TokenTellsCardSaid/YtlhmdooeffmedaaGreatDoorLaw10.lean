/- Walks: chapter 10's laws: the fixed examples. -/
import Derived.Test.YtlhmdooeffmedaaGreatDoorTk8
namespace Go.Proofs.YtlhmdooeffmedaaGreatDoor
open Go.RowKit Pk Tk Su Fo Rp

theorem sees_later {w w' : World} {t : TypeId} {v : Value} {m : List El} (h : seesE w w.heap.size t v m) (hb : Below w.heap.size w w') : seesE w' w'.heap.size t v m :=
  h.keeps (fun g _ _ hg _ => hb.block g hg) hb.size
theorem bcellE {W w1 : World} (hb : Below W.heap.size W w1) : ∀ b o, b < W.heap.size → w1.cell? ⟨b, o, none⟩ = W.cell? ⟨b, o, none⟩ := fun _ _ h => hb.cell h
/-- what the laws lean on -/
structure Rt (w : World) : Prop where
  ml : ∃ m : Int, w.cell? ⟨0, 0, none⟩ = some (.int .i64 m)
  lt : 0 < w.heap.size
theorem Rt.later {w w' : World} (h : Rt w) (hb : Below w.heap.size w w') : Rt w' := by
  obtain ⟨m, hm⟩ := h.ml
  exact ⟨⟨m, cell_later hb hm⟩, Nat.lt_of_lt_of_le h.lt hb.size⟩
theorem quote_rt (s : ByteArray) (w : World) (h : Rt w) (hs : s.size ≤ 1000000) : Calls Tryz.prog 13 #[.string s] w (StrIs (quoteL s.data.toList) w) := by
  obtain ⟨m, hm⟩ := h.ml
  exact quote_any s w m hm hs
def Truth (w : World) (e : Ending) (w' : World) : Prop := e = .returned (.bool true) ∧ Below w.heap.size w w'
theorem sees_slice {w : World} {C : Nat} {t : TypeId} {v : Value} {m : List El} (h : seesE w C t v m) (n : Nat) (hn : m.length = n) (hm : 0 < n) : ∃ g c, v = .slice (some ⟨g, 0, none⟩) n c ∧ n ≤ c ∧ g < C ∧ ∀ j (hj : j < m.length), w.cell? ⟨g, j * 2, none⟩ = some (.int .i64 m[j].kind) ∧ w.cell? ⟨g, j * 2 + 1, none⟩ = some (.string m[j].text) := by
  obtain ⟨p, c, h1, h2, h3⟩ := h.form
  rcases h3 with h3 | ⟨g, rfl, h4, h5⟩
  · subst h3; simp at hn; omega
  · subst hn; exact ⟨g, c, h1, h2, h4, h5⟩
end Go.Proofs.YtlhmdooeffmedaaGreatDoor
