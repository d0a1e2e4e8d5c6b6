/- Plain: lists of tokens by their places. -/
import Derived.Test.YtilccofdphohiaaGreatDoorTkL
namespace Tk
open Go Go.RowKit Pk Su Fo

/-- what holds of two tokens side by side -/
def adjE : List El → Bool
  | [] => true
  | [_] => true
  | x :: y :: r => !(x.kind == y.kind && (y.kind == 6 || y.kind == 1)) && adjE (y :: r)
theorem sc_adj : ∀ (n : Nat) (l : List UInt8), l.length ≤ n → adjE (sc l) = true := by
  intro n
  induction n with
  | zero => intro l h; have : l = [] := List.eq_nil_of_length_eq_zero (by omega); subst this; rfl
  | succ n ih =>
    intro l h
    by_cases he : l = []
    · subst he; rfl
    · have hw := fr_rng he
      have i1 := ih (l.drop (fr l).2) (by rw [List.length_drop]; omega)
      rw [sc_cons he]
      by_cases h2 : l.drop (fr l).2 = []
      · rw [h2, sc_nil]; rfl
      · rw [sc_cons h2] at i1 ⊢
        unfold adjE
        rw [i1, Bool.and_true]
        have ha := fr_adj he h2
        have k1 : (tok l).kind = (fr l).1 := rfl
        have k2 : (tok (l.drop (fr l).2)).kind = (fr (l.drop (fr l).2)).1 := rfl
        rw [k1, k2]
        cases hk : ((fr l).1 == (fr (l.drop (fr l).2)).1) with
        | false => rfl
        | true =>
          have e := beq_iff_eq.1 hk
          obtain ⟨n6, n1⟩ := ha e
          rw [e] at n6 n1
          rw [beq_eq_false_iff_ne.2 n6, beq_eq_false_iff_ne.2 n1]; rfl
theorem adjE_at : ∀ (m : List El), adjE m = true → ∀ i (h : i + 1 < m.length), m[i + 1].kind = m[i].kind → m[i + 1].kind ≠ 6 ∧ m[i + 1].kind ≠ 1
  | [], _, _, h => by simp at h
  | [_], _, i, h => by simp at h
  | x :: y :: r, ha, 0, _ => by
    intro e
    have e : y.kind = x.kind := e
    unfold adjE at ha
    rw [Bool.and_eq_true] at ha
    have h1 := ha.1
    show y.kind ≠ 6 ∧ y.kind ≠ 1
    rw [e] at h1 ⊢
    simp at h1
    exact h1
  | x :: y :: r, ha, i + 1, h => by
    unfold adjE at ha
    rw [Bool.and_eq_true] at ha
    intro e
    exact adjE_at (y :: r) ha.2 i (by simpa using h) e
theorem sc_one (l : List UInt8) (i : Nat) (h : i < (sc l).length) : sc ((sc l)[i].text.data.toList) = [(sc l)[i]] ∧ (sc l)[i].text.size ≠ 0 ∧ 1 ≤ (sc l)[i].kind ∧ (sc l)[i].kind ≤ 7 := by
  obtain ⟨t, ht, e⟩ := sc_mem _ l (Nat.le_refl _) _ (List.getElem_mem h)
  rw [e]
  have hr := fr_rng ht
  refine ⟨sc_tok ht, fun e2 => ?_, (fr_kind t).1, (fr_kind t).2⟩
  have := congrArg List.length (tok_l t)
  have hs : (tok t).text.data.toList.length = (tok t).text.size := rfl
  rw [List.length_take] at this
  omega
theorem alt_at : ∀ (m : List El), alt m = true → m.length % 2 = 1 ∧ ∀ i (h : i < m.length), (i % 2 = 0 → m[i].kind = 1) ∧ (i % 2 = 1 → m[i].text.data.toList = [32])
  | [], h => by cases h
  | [x], h => by
    unfold alt at h
    refine ⟨rfl, fun i hi => ?_⟩
    have : i = 0 := by simp at hi; exact hi
    subst this
    exact ⟨fun _ => by simpa using h, fun h => by cases h⟩
  | x :: y :: r, h => by
    unfold alt at h
    rw [Bool.and_eq_true, Bool.and_eq_true] at h
    obtain ⟨h1, h2, h3⟩ := h
    obtain ⟨i1, i2⟩ := alt_at r h3
    refine ⟨by rw [List.length_cons, List.length_cons]; omega, fun i hi => ?_⟩
    match i, hi with
    | 0, _ => exact ⟨fun _ => beq_iff_eq.1 h1, fun h => by cases h⟩
    | 1, _ => exact ⟨(fun h => by cases h), fun _ => beq_iff_eq.1 h2⟩
    | i + 2, hi =>
      have := i2 i (by simpa using hi)
      simp only [List.getElem_cons_succ]
      exact ⟨fun h => this.1 (by omega), fun h => this.2 (by omega)⟩
/-- without white space and comments -/
def bareE (m : List El) : List El := m.filter fun x => !(x.kind == 6) && !(x.kind == 3)
theorem bareE_cons (x : El) (m : List El) : bareE (x :: m) = if (!(x.kind == 6) && !(x.kind == 3)) = true then x :: bareE m else bareE m := List.filter_cons
end Tk
