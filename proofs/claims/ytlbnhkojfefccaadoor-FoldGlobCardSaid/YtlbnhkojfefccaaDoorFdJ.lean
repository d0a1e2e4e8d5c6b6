/- Walks: fold.Glob: what its main loop calls. -/
import Derived.Test.YtlbnhkojfefccaaDoorFd8
import Derived.Test.YtlbnhkojfefccaaDoorShelf
import Derived.Lib.Join
namespace Go.Proofs.YtlbnhkojfefccaaDoor
open Go.RowKit Pk U8 Su Fo

theorem catL_units : ∀ (n : Nat) (l : List UInt8), l.length ≤ n → catL (unitsB l) = l := by
  intro n
  induction n with
  | zero => intro l h; have : l = [] := List.eq_nil_of_length_eq_zero (by omega); subst this; rfl
  | succ n ih =>
    intro l h
    by_cases he : l = []
    · subst he; rfl
    · have hw := dec_width l he
      have := ih (l.drop (dec l).2) (by rw [List.length_drop]; omega)
      unfold unitsB at *
      rw [walk_cons _ l he]
      unfold catL unitG at *
      rw [List.flatMap_append, List.flatMap_singleton, this]
      exact List.take_append_drop _ _
theorem catL_append (a b : List ByteArray) : catL (a ++ b) = catL a ++ catL b := List.flatMap_append
theorem catL_mid (us : List ByteArray) (a b : Nat) : (catL ((us.drop a).take b)).length ≤ (catL us).length := by
  have e1 : us = us.take a ++ us.drop a := (List.take_append_drop a us).symm
  have e2 : us.drop a = (us.drop a).take b ++ (us.drop a).drop b := (List.take_append_drop b _).symm
  have h1 : (catL us).length = (catL (us.take a)).length + (catL (us.drop a)).length := by rw [← List.length_append, ← catL_append, ← e1]
  have h2 : (catL (us.drop a)).length = (catL ((us.drop a).take b)).length + (catL ((us.drop a).drop b)).length := by rw [← List.length_append, ← catL_append, ← e2]
  omega
theorem join_cat (us : List ByteArray) : Lib.join (us.map (·.data.toList)) [] = catL us := by
  unfold catL
  induction us with
  | nil => rfl
  | cons u r ih =>
    rw [List.map_cons, Lib.join_cons, List.flatMap_cons]
    unfold Lib.joinTail
    congr 1
    rw [← ih]
    have : (fun x : List UInt8 => [] ++ x) = id := rfl
    rw [this, List.map_id]
    cases r with
    | nil => rfl
    | cons v r2 =>
      rw [List.map_cons, Lib.join_cons]
      unfold Lib.joinTail
      rw [this, List.map_id, List.flatten_cons]
theorem anyL_len : ∀ (m : List El) (us : List ByteArray), (anyL m us).length ≤ m.length
  | [], _ => Nat.le_refl _
  | x :: m, us => by
    have := anyL_len m (us.drop 1)
    unfold anyL
    rw [List.length_append, List.length_cons]
    split
    · rw [List.length_take]; omega
    · rw [List.length_nil]; omega
/-- a part of a row, as the machine cuts it -/
theorem sees_cut {w : World} {l : List ByteArray} {p : Option Addr} {c lo hi : Nat} (h : l = [] ∨ ∃ g, p = some ⟨g, 0, none⟩ ∧ ∀ j (hj : j < l.length), w.cell? ⟨g, j, none⟩ = some (.string l[j])) (hc : l.length ≤ c) (h1 : lo ≤ hi) (h2 : hi ≤ l.length) :
    seesS w (.slice (if c = lo then p else p.map (·.add (lo * 1))) (hi - lo) (c - lo)) ((l.drop lo).take (hi - lo)) := by
  have hn : ((l.drop lo).take (hi - lo)).length = hi - lo := by rw [List.length_take, List.length_drop]; omega
  refine ⟨_, _, by rw [hn], by omega, ?_⟩
  by_cases h0 : hi = lo
  · refine .inl (List.eq_nil_of_length_eq_zero (by omega))
  · rcases h with rfl | ⟨g, rfl, hl⟩
    · rw [List.length_nil] at h2; omega
    · refine .inr ⟨g, lo, ?_, fun j hj => ?_⟩
      · rw [if_neg (by omega), Nat.mul_one, Option.map_some]
        unfold Addr.add
        by_cases hz : lo = 0
        · subst hz; rfl
        · rw [if_neg hz]; simp
      · rw [hl (lo + j) (by omega)]
        simp [List.getElem_take, List.getElem_drop]
theorem sees_drop {w : World} {l : List ByteArray} {p : Option Addr} {c lo : Nat} (h : l = [] ∨ ∃ g, p = some ⟨g, 0, none⟩ ∧ ∀ j (hj : j < l.length), w.cell? ⟨g, j, none⟩ = some (.string l[j])) (hc : l.length ≤ c) (h1 : lo ≤ l.length) :
    seesS w (.slice (if c = lo then p else p.map (·.add (lo * 1))) (l.length - lo) (c - lo)) (l.drop lo) := by
  have := sees_cut h hc h1 (Nat.le_refl _)
  rwa [List.take_of_length_le (by rw [List.length_drop]; omega)] at this
theorem join0_any (v : Value) (us : List ByteArray) (w : World) (hS : seesS w v us) (hb : (catL us).length ≤ 1000000) (hn : us.length ≤ 1000000) :
    Calls Tryd.prog 41 #[v, .string ⟨#[]⟩] w fun e w' => e = .returned (.string (catB us)) ∧ Below w.heap.size w w' := by
  obtain ⟨p, c, rfl, hc, h⟩ := hS
  rcases h with rfl | ⟨g, o, rfl, hl⟩
  · exact (Tryd.strings_Join_none p c ⟨#[]⟩ w).mono (by rintro e w' ⟨rfl, rfl⟩; exact ⟨rfl, Below.refl _ _⟩)
  · by_cases h0 : us.length = 0
    · have : us = [] := List.eq_nil_of_length_eq_zero h0
      subst this
      exact (Tryd.strings_Join_none _ c ⟨#[]⟩ w).mono (by rintro e w' ⟨rfl, rfl⟩; exact ⟨rfl, Below.refl _ _⟩)
    · have hg : g < w.heap.size := World.block_lt_of_cell? _ _ (hl 0 (by omega))
      have hj := Tryd.strings_Join g o c us ⟨#[]⟩ w (fun j x hx => by
        obtain ⟨h1, h2⟩ := List.getElem?_eq_some_iff.1 hx
        rw [hl j h1, h2]) hg (by omega) hc (by
          rw [show (⟨#[]⟩ : ByteArray).data.toList = [] from rfl, join_cat]; omega)
      rw [show (⟨#[]⟩ : ByteArray).data.toList = [] from rfl, join_cat] at hj
      exact hj
end Go.Proofs.YtlbnhkojfefccaaDoor
