/- Plain: header fields, in the words of the reference's walks: lines, Unfold, pieces. -/
import Derived.Test.YthchklbnkojkgaaGreatDoorHdU
import Derived.Lib.Replace
namespace Hd
open Go Go.RowKit Pk

/-- the lines of a text, cur standing ahead -/
def lnG (cur : List UInt8) : List UInt8 → List (List UInt8)
  | [] => if cur.isEmpty = true then [] else [cur]
  | c :: r => if c = 10 then (cur ++ [c]) :: lnG [] r else lnG (cur ++ [c]) r
def linesL (l : List UInt8) : List (List UInt8) := lnG [] l
theorem lnG_line : ∀ (l cur : List UInt8), (cur ≠ [] ∨ l ≠ []) → lnG cur l = (cur ++ l.take (lineN l)) :: linesL (l.drop (lineN l))
  | [], cur, h => by
    have hc : cur ≠ [] := h.resolve_right (fun e => e rfl)
    unfold lnG
    rw [if_neg (by simp [hc]), lineN_nil, List.take_zero, List.append_nil]; rfl
  | c :: r, cur, _ => by
    by_cases hc : c = 10
    · subst hc
      unfold lnG
      rw [if_pos rfl, lineN_cons10]; rfl
    · conv => lhs; unfold lnG
      rw [if_neg hc, lineN_cons hc, List.take_succ_cons, List.drop_succ_cons, lnG_line r (cur ++ [c]) (.inl (by simp))]
      simp
theorem lines_cons {l : List UInt8} (h : l ≠ []) : linesL l = l.take (lineN l) :: linesL (l.drop (lineN l)) := by
  have := lnG_line l [] (.inr h)
  rw [List.nil_append] at this
  exact this
theorem lines_nil : linesL [] = [] := rfl
theorem lines_flat : ∀ (n : Nat) (l : List UInt8), l.length ≤ n → (linesL l).flatten = l
  | 0, l, h => by have := List.eq_nil_of_length_eq_zero (Nat.le_zero.1 h); subst this; rfl
  | n + 1, l, h => by
    by_cases hne : l = []
    · subst hne; rfl
    · have hp := lineN_pos hne
      rw [lines_cons hne, List.flatten_cons, lines_flat n _ (by rw [List.length_drop]; omega), List.take_append_drop]
theorem lines_length : ∀ (n : Nat) (l : List UInt8), l.length ≤ n → (linesL l).length ≤ l.length
  | 0, l, h => by have := List.eq_nil_of_length_eq_zero (Nat.le_zero.1 h); subst this; exact Nat.le_refl _
  | n + 1, l, h => by
    by_cases hne : l = []
    · subst hne; exact Nat.le_refl _
    · have hp := lineN_pos hne
      have := lines_length n (l.drop (lineN l)) (by rw [List.length_drop]; omega)
      have hl := List.length_pos_iff.2 hne
      rw [lines_cons hne, List.length_cons]
      rw [List.length_drop] at this
      omega
/-- what goes on, by lines -/
theorem lines_goes {l : List UInt8} (h : goesB l = true) : linesL l = l.take (lineN l) :: linesL (l.drop (lineN l)) ∧ goesB (l.take (lineN l)) = true := by
  have hne := goes_ne h
  have hp := lineN_pos hne
  refine ⟨lines_cons hne, ?_⟩
  cases l with
  | nil => exact absurd rfl hne
  | cons c r =>
    obtain ⟨k, hk⟩ : ∃ k, lineN (c :: r) = k + 1 := ⟨_, (Nat.sub_add_cancel hp).symm⟩
    rw [hk]; exact h
theorem lines_stop {l : List UInt8} (h : goesB l = false) : linesL l = [] ∨ ∃ x r, linesL l = x :: r ∧ goesB x = false ∧ x ≠ [] := by
  by_cases hne : l = []
  · subst hne; exact .inl rfl
  · right
    have hp := lineN_pos hne
    refine ⟨_, _, lines_cons hne, ?_, ?_⟩
    · cases l with
      | nil => exact absurd rfl hne
      | cons c r =>
        obtain ⟨k, hk⟩ : ∃ k, lineN (c :: r) = k + 1 := ⟨_, (Nat.sub_add_cancel hp).symm⟩
        rw [hk]; exact h
    · intro e
      have := congrArg List.length e
      rw [List.length_take, List.length_nil] at this
      have := List.length_pos_iff.2 hne
      omega
/-! taking out -/
def remF (old : List UInt8) : Nat → List UInt8 → List UInt8
  | 0, l => l
  | _ + 1, [] => []
  | f + 1, c :: r => if old.isPrefixOf (c :: r) = true then remF old f ((c :: r).drop old.length) else c :: remF old f r
theorem cutG_hit {l sep : List UInt8} (h : sep.isPrefixOf l = true) : Lib.cut l sep = ([], l.drop sep.length, true) := by
  have hi : Lib.index l sep = 0 := by
    cases l with
    | nil =>
      have : sep = [] := by cases sep with
        | nil => rfl
        | cons a r => simp [List.isPrefixOf] at h
      subst this; rfl
    | cons x r => unfold Lib.index; rw [if_pos h]
  unfold Lib.cut
  rw [hi]; simp
theorem cutG_cons {c : UInt8} {r sep : List UInt8} (h : sep.isPrefixOf (c :: r) = false) : Lib.cut (c :: r) sep = (if (Lib.cut r sep).2.2 = true then (c :: (Lib.cut r sep).1, (Lib.cut r sep).2.1, true) else (c :: r, [], false)) := by
  have hg := Lib.index_ge r sep
  have e : Lib.index (c :: r) sep = if Lib.index r sep == -1 then -1 else Lib.index r sep + 1 := by
    conv => lhs; unfold Lib.index
    rw [if_neg (by rw [h]; decide)]
  unfold Lib.cut
  rw [e]
  by_cases hi : Lib.index r sep = -1
  · rw [hi]; simp
  · have h0 : 0 ≤ Lib.index r sep := by omega
    have e2 : (if Lib.index r sep == -1 then (-1 : Int) else Lib.index r sep + 1) = Lib.index r sep + 1 := if_neg (by simpa using hi)
    rw [e2, if_pos h0, if_pos (by omega)]
    have t1 : (Lib.index r sep + 1).toNat = (Lib.index r sep).toNat + 1 := by omega
    rw [t1, if_pos rfl, List.take_succ_cons, show (Lib.index r sep).toNat + 1 + sep.length = (Lib.index r sep).toNat + sep.length + 1 by omega, List.drop_succ_cons]
theorem replG (old : List UInt8) (ho : old ≠ []) (l : List UInt8) : Lib.replaceK old [] (Lib.count l old) l = if (Lib.cut l old).2.2 = true then (Lib.cut l old).1 ++ Lib.replaceK old [] (Lib.count (Lib.cut l old).2.1 old) (Lib.cut l old).2.1 else l := by
  by_cases h : Lib.index l old = -1
  · rw [Lib.count_miss h]
    unfold Lib.cut
    rw [h]; rfl
  · have hg := Lib.index_ge l old
    obtain ⟨i, hi⟩ : ∃ i : Nat, Lib.index l old = i := ⟨(Lib.index l old).toNat, by omega⟩
    rw [Lib.count_hit (by simpa using ho) hi, Nat.add_comm, Lib.replaceK_hit _ _ _ _ _ hi]
    unfold Lib.cut
    rw [hi, if_pos (Int.natCast_nonneg i)]
    simp
theorem remF_repl (old : List UInt8) (ho : old ≠ []) : ∀ (n : Nat) (l : List UInt8), l.length ≤ n → Lib.replaceK old [] (Lib.count l old) l = remF old n l
  | 0, l, h => by
    have := List.eq_nil_of_length_eq_zero (Nat.le_zero.1 h)
    subst this
    have hi : Lib.index [] old = -1 := by
      cases old with
      | nil => exact absurd rfl ho
      | cons a r => rfl
    rw [Lib.count_miss hi]; rfl
  | n + 1, [], h => by
    have hi : Lib.index [] old = -1 := by
      cases old with
      | nil => exact absurd rfl ho
      | cons a r => rfl
    rw [Lib.count_miss hi]; rfl
  | n + 1, c :: r, h => by
    rw [List.length_cons] at h
    have hol := List.length_pos_iff.2 ho
    cases hp : old.isPrefixOf (c :: r) with
    | true =>
      rw [replG old ho, cutG_hit hp, if_pos rfl, List.nil_append, remF_repl old ho n _ (by rw [List.length_drop, List.length_cons]; omega)]
      conv => rhs; unfold remF
      rw [if_pos hp]
    | false =>
      have ih := remF_repl old ho n r (by omega)
      have e : remF old (n + 1) (c :: r) = c :: remF old n r := by conv => lhs; unfold remF
                                                                   rw [if_neg (by rw [hp]; decide)]
      rw [e, ← ih, replG old ho (c :: r), cutG_cons hp, replG old ho r]
      split
      · rename_i hc
        rw [if_pos rfl]; rfl
      · rw [if_neg (by simp)]
theorem rem_all (old l : List UInt8) (ho : old ≠ []) : Lib.replaceAll l old [] = remF old l.length l := by
  unfold Lib.replaceAll Lib.replace Lib.replaceNum
  rw [if_neg (by simpa using ho), if_pos (.inl (by decide))]
  exact remF_repl old ho _ l (Nat.le_refl _)
theorem remF_more (old : List UInt8) (ho : old ≠ []) (n m : Nat) (l : List UInt8) (h1 : l.length ≤ n) (h2 : l.length ≤ m) : remF old n l = remF old m l := by
  rw [← remF_repl old ho n l h1, remF_repl old ho m l h2]
theorem rem10 : ∀ (n : Nat) (l : List UInt8), l.length ≤ n → remF [10] n l = l.filter fun c => !(c == 10)
  | 0, l, h => by have := List.eq_nil_of_length_eq_zero (Nat.le_zero.1 h); subst this; rfl
  | n + 1, [], _ => rfl
  | n + 1, c :: r, h => by
    rw [List.length_cons] at h
    unfold remF
    by_cases hc : c = 10
    · subst hc
      rw [if_pos (by simp [List.isPrefixOf])]
      show remF [10] n r = _
      rw [rem10 n r (by omega)]; rfl
    · rw [if_neg (by simp [List.isPrefixOf]; exact fun e => hc e.symm), rem10 n r (by omega), List.filter_cons, if_pos (by simp [hc])]
theorem unfold_rem : ∀ (n : Nat) (l : List UInt8), l.length ≤ n → (remF [13, 10] n l).filter (fun c => !(c == 10)) = unfoldL l
  | 0, l, h => by have := List.eq_nil_of_length_eq_zero (Nat.le_zero.1 h); subst this; rfl
  | n + 1, [], _ => rfl
  | n + 1, [c], h => by
    have e : remF [13, 10] (n + 1) [c] = [c] := by
      unfold remF
      rw [if_neg (by simp [List.isPrefixOf])]
      cases n <;> rfl
    rw [e]
    unfold unfoldL
    by_cases hc : c = 10
    · subst hc; rfl
    · rw [if_neg hc, List.filter_cons, if_pos (by simp [hc])]; rfl
  | n + 1, c :: d :: r, h => by
    rw [List.length_cons, List.length_cons] at h
    by_cases hp : c = 13 ∧ d = 10
    · obtain ⟨rfl, rfl⟩ := hp
      have e : remF [13, 10] (n + 1) (13 :: 10 :: r) = remF [13, 10] n r := by
        conv => lhs; unfold remF
        rw [if_pos (by simp [List.isPrefixOf])]; rfl
      rw [e, unfold_rem n r (by omega), unfold_crlf]
    · have e : remF [13, 10] (n + 1) (c :: d :: r) = c :: remF [13, 10] n (d :: r) := by
        conv => lhs; unfold remF
        rw [if_neg]
        simp only [List.isPrefixOf, Bool.and_true, Bool.and_eq_true, beq_iff_eq]
        rintro ⟨e1, e2⟩
        exact hp ⟨e1.symm, e2.symm⟩
      rw [e]
      have ih := unfold_rem n (d :: r) (by rw [List.length_cons]; omega)
      by_cases hc : c = 10
      · subst hc
        rw [unfold_lf, List.filter_cons, if_neg (by decide), ih]
      · have e2 : unfoldL (c :: d :: r) = c :: unfoldL (d :: r) := by
          conv => lhs; unfold unfoldL
          rw [if_neg hc, if_neg hp]
        rw [e2, List.filter_cons, if_pos (by simp [hc]), ih]
/-- Unfold, as the program spells it -/
theorem unfold_repl (l : List UInt8) : Lib.replaceAll (Lib.replaceAll l [13, 10] []) [10] [] = unfoldL l := by
  rw [rem_all [10] _ (by decide), rem_all [13, 10] l (by decide), rem10 _ _ (Nat.le_refl _), unfold_rem _ l (Nat.le_refl _)]
end Hd
