/- Plain: a text as its lines. -/
import Derived.Test.YtjoipgekmnnlpaaGreatDoorLxP
import Derived.Lib.IndexMore
namespace Lx
open Go Pk

def linF : Nat → List UInt8 → List (List UInt8)
  | 0, _ => []
  | m + 1, l => if l = [] then [] else l.take (lnL l) :: linF m (l.drop (lnL l))
/-- the lines, with their ends -/
def linN (l : List UInt8) : List (List UInt8) := linF l.length l
theorem linF_more : ∀ (m : Nat) (l : List UInt8), l.length ≤ m → linF m l = linF l.length l := by
  intro m
  induction m using Nat.strongRecOn with
  | _ m ih =>
    intro l hl
    rcases Nat.lt_or_ge l.length m with h | h
    · cases m with
      | zero => omega
      | succ m =>
        cases hn : l.length with
        | zero =>
          have := List.eq_nil_of_length_eq_zero hn
          subst this
          unfold linF
          rw [if_pos rfl]
        | succ n =>
          have hne : l ≠ [] := fun e => by rw [e] at hn; simp at hn
          have hp := lnL_pos l hne
          unfold linF
          rw [if_neg hne, if_neg hne]
          have hd : (l.drop (lnL l)).length ≤ n := by rw [List.length_drop]; omega
          rw [ih m (by omega) _ (by omega), ih n (by omega) _ hd]
    · have : m = l.length := by omega
      rw [this]
theorem linN_nil : linN [] = [] := rfl
theorem linN_cons (l : List UInt8) (hne : l ≠ []) : linN l = l.take (lnL l) :: linN (l.drop (lnL l)) := by
  cases hn : l.length with
  | zero => exact absurd (List.eq_nil_of_length_eq_zero hn) hne
  | succ n =>
    have hp := lnL_pos l hne
    have e : linF l.length l = if l = [] then [] else l.take (lnL l) :: linF n (l.drop (lnL l)) := by rw [hn]; rfl
    unfold linN
    rw [e, if_neg hne, linF_more n (l.drop (lnL l)) (by rw [List.length_drop]; omega)]
theorem lin_rec {P : List UInt8 → Prop} (h0 : P []) (h1 : ∀ l, l ≠ [] → P (l.drop (lnL l)) → P l) (l : List UInt8) : P l := by
  obtain ⟨m, hm⟩ : ∃ m, l.length ≤ m := ⟨_, Nat.le_refl _⟩
  induction m generalizing l with
  | zero =>
    have := List.eq_nil_of_length_eq_zero (by omega : l.length = 0)
    subst this; exact h0
  | succ m ih =>
    by_cases h : l = []
    · subst h; exact h0
    · have hp := lnL_pos l h
      exact h1 l h (ih _ (by rw [List.length_drop]; omega))
theorem linN_join (l : List UInt8) : (linN l).flatten = l := by
  refine lin_rec (P := fun l => (linN l).flatten = l) rfl (fun l h ih => ?_) l
  rw [linN_cons l h, List.flatten_cons, ih, List.take_append_drop]
theorem linN_ne (l : List UInt8) : ∀ x ∈ linN l, x ≠ [] ∧ x.length ≤ l.length := by
  refine lin_rec (P := fun l => ∀ x ∈ linN l, x ≠ [] ∧ x.length ≤ l.length) (fun x hx => by cases hx) (fun l h ih => ?_) l
  intro x hx
  rw [linN_cons l h] at hx
  have hp := lnL_pos l h
  have hl := lnL_le l
  rcases List.mem_cons.1 hx with rfl | hx
  · refine ⟨fun e => ?_, by rw [List.length_take]; omega⟩
    have e2 := congrArg List.length e
    rw [List.length_take, List.length_nil] at e2; omega
  · have := ih x hx
    rw [List.length_drop] at this
    exact ⟨this.1, by omega⟩
theorem linN_len (l : List UInt8) : (linN l).length ≤ l.length := by
  refine lin_rec (P := fun l => (linN l).length ≤ l.length) (Nat.le_refl _) (fun l h ih => ?_) l
  rw [linN_cons l h, List.length_cons]
  have hp := lnL_pos l h
  have hl := lnL_le l
  rw [List.length_drop] at ih
  omega
theorem flat_le (f : List UInt8 → List UInt8) (hf : ∀ x, (f x).length ≤ x.length + 1) (L : List (List UInt8)) : (L.flatMap f).length ≤ L.flatten.length + L.length := by
  induction L with
  | nil => simp
  | cons x r ih =>
    have := hf x
    rw [List.flatMap_cons, List.length_append, List.flatten_cons, List.length_append, List.length_cons]; omega
theorem prefix_flat {A : List (List UInt8)} {L : List (List UInt8)} (h : A <+: L) : A.flatten.length ≤ L.flatten.length ∧ A.length ≤ L.length := by
  obtain ⟨B, rfl⟩ := h
  rw [List.flatten_append, List.length_append, List.length_append]; omega
/-- strings.Cut at a line's end -/
theorem lnL_nx : ∀ (l : List UInt8), Lib.index l [10] = if l.contains 10 then ((lnL l : Nat) : Int) - 1 else -1
  | [] => rfl
  | c :: r => by
    have ih := lnL_nx r
    have e0 : Lib.index (c :: r) [10] = if (10 == c && true) then 0 else if Lib.index r [10] == -1 then -1 else Lib.index r [10] + 1 := rfl
    have e1 : lnL (c :: r) = if c = 10 then 1 else lnL r + 1 := rfl
    have e2 : (c :: r).contains 10 = (10 == c || r.contains 10) := rfl
    rw [e0, e1, e2, Bool.and_true]
    by_cases hc : c = 10
    · subst hc
      rw [if_pos (show ((10 : UInt8) == 10) = true from rfl), if_pos rfl, if_pos (show ((10 : UInt8) == 10 || r.contains 10) = true from rfl)]
      rfl
    · have hcb : ((10 : UInt8) == c) = false := beq_eq_false_iff_ne.2 (fun e => hc e.symm)
      rw [hcb, if_neg (by decide), Bool.false_or, ih]
      by_cases h : r.contains 10 = true
      · have hp : 0 < lnL r := lnL_pos r (fun e => by rw [e] at h; cases h)
        rw [if_pos h, if_pos h, if_neg hc]
        rw [if_neg (by simp; omega)]
        omega
      · rw [if_neg h, if_neg h]; rfl
theorem lnL_no : ∀ (l : List UInt8), l.contains 10 = false → lnL l = l.length
  | [], _ => rfl
  | c :: r, h => by
    have e2 : (c :: r).contains 10 = (10 == c || r.contains 10) := rfl
    rw [e2, Bool.or_eq_false_iff] at h
    have e1 : lnL (c :: r) = if c = 10 then 1 else lnL r + 1 := rfl
    rw [e1, if_neg (fun e => by rw [e] at h; exact absurd h.1 (by decide)), lnL_no r h.2, List.length_cons]
theorem lnL_yes : ∀ (l : List UInt8), l.contains 10 = true → l.take (lnL l) = l.take (lnL l - 1) ++ [10]
  | [], h => by cases h
  | c :: r, h => by
    have e1 : lnL (c :: r) = if c = 10 then 1 else lnL r + 1 := rfl
    have e2 : (c :: r).contains 10 = (10 == c || r.contains 10) := rfl
    rw [e1]
    by_cases hc : c = 10
    · rw [if_pos hc, hc]; rfl
    · have hcb : ((10 : UInt8) == c) = false := beq_eq_false_iff_ne.2 (fun e => hc e.symm)
      rw [e2, hcb, Bool.false_or] at h
      have hp : 0 < lnL r := lnL_pos r (fun e => by rw [e] at h; cases h)
      obtain ⟨n, hn⟩ : ∃ n, lnL r = n + 1 := ⟨lnL r - 1, by omega⟩
      have ih := lnL_yes r h
      rw [hn] at ih
      rw [if_neg hc, hn]
      simp only [Nat.add_sub_cancel] at ih ⊢
      rw [List.take_succ_cons, ih, List.take_succ_cons]
      rfl
theorem cut_line (l : List UInt8) : ((Lib.cut l [10]).2.2 = true ∧ (Lib.cut l [10]).1 ++ [10] = l.take (lnL l) ∧ (Lib.cut l [10]).2.1 = l.drop (lnL l)) ∨
    ((Lib.cut l [10]).2.2 = false ∧ (Lib.cut l [10]).1 = l.take (lnL l) ∧ (Lib.cut l [10]).2.1 = l.drop (lnL l)) := by
  have hx := lnL_nx l
  unfold Lib.cut
  by_cases h : l.contains 10 = true
  · left
    rw [if_pos h] at hx
    have hp : 0 < lnL l := lnL_pos l (fun e => by rw [e] at h; cases h)
    rw [if_pos (by omega)]
    have e1 : (Lib.index l [10]).toNat = lnL l - 1 := by omega
    refine ⟨rfl, ?_, ?_⟩
    · show l.take (Lib.index l [10]).toNat ++ [10] = _
      rw [e1]; exact (lnL_yes l h).symm
    · show l.drop ((Lib.index l [10]).toNat + 1) = _
      rw [e1]; congr 1; omega
  · right
    rw [if_neg h] at hx
    rw [if_neg (by omega)]
    have e1 := lnL_no l (by simpa using h)
    exact ⟨rfl, by show l = _; rw [e1, List.take_of_length_le (Nat.le_refl _)], by show [] = _; rw [e1, List.drop_eq_nil_of_le (Nat.le_refl _)]⟩
end Lx
