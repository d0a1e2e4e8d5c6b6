/- Plain: decoding a text, encoded word by encoded word. -/
import Derived.Test.YtafmldooephmaaaDoorWdQ
namespace Wd
open Go Pk U8 Cs

theorem duR_length (l : List Int) : (C6.duR l).length ≤ l.length := by
  fun_induction C6.duR l <;> simp_all <;> omega
theorem readL_length (how : UInt8) (tx : List UInt8) : (readL how tx).length ≤ tx.length := by
  unfold readL
  split
  · have := duR_length (C6.dR tx)
    have := C6.dR_length tx
    unfold C6.unB64R; omega
  · have := C6.escR_length (C6.unblank tx)
    unfold C6.unQR
    have e : (C6.unblank tx).length = tx.length := by unfold C6.unblank; simp
    omega
theorem frontT_len (l : List UInt8) : (frontT l).1.length ≤ 4 * (frontT l).2 := by
  cases h : frontS l with
  | none => rw [frontT_none h]; simp
  | some p =>
    obtain ⟨cs, how, tx⟩ := p
    rw [frontT_some h]
    have := decK_length (kindL cs) (readL how tx)
    have := readL_length how tx
    unfold decCS
    simp only
    omega
def skipG (r : List UInt8) : List UInt8 := if 0 < (frontT (r.dropWhile Su.blk)).2 then r.dropWhile Su.blk else r
theorem skipG_le (r : List UInt8) : (skipG r).length ≤ r.length := by
  unfold skipG
  split
  · exact (List.dropWhile_sublist _).length_le
  · exact Nat.le_refl _
/-- what one step gives, and what is left behind it -/
def stepD (l : List UInt8) : List UInt8 × List UInt8 := if (frontT l).2 = 0 then (l.take 1, l.drop 1) else ((frontT l).1, skipG (l.drop (frontT l).2))
def rawF : Nat → List UInt8 → List UInt8
  | 0, _ => []
  | n + 1, l => if l = [] then [] else (stepD l).1 ++ rawF n (stepD l).2
def rawL (l : List UInt8) : List UInt8 := rawF l.length l
theorem stepD_lt {l : List UInt8} (h : l ≠ []) : (stepD l).2.length < l.length ∧ (stepD l).1.length ≤ 4 * (l.length - (stepD l).2.length) := by
  have hp : 0 < l.length := List.length_pos_iff.2 h
  unfold stepD
  split
  · simp only [List.length_drop, List.length_take]; omega
  · rename_i hn
    have h1 := skipG_le (l.drop (frontT l).2)
    have h2 := frontT_le l
    have h3 := frontT_len l
    rw [List.length_drop] at h1
    simp only
    omega
theorem rawF_more : ∀ (n : Nat) (l : List UInt8), l.length ≤ n → rawF n l = rawL l := by
  intro n
  induction n using Nat.strongRecOn with
  | _ n ih =>
    intro l hl
    by_cases he : l = []
    · subst he
      cases n <;> rfl
    · have hp : 0 < l.length := List.length_pos_iff.2 he
      obtain ⟨h1, -⟩ := stepD_lt he
      unfold rawL
      obtain ⟨m, rfl⟩ : ∃ m, n = m + 1 := ⟨n - 1, by omega⟩
      obtain ⟨k, hk⟩ : ∃ k, l.length = k + 1 := ⟨l.length - 1, by omega⟩
      rw [hk]
      unfold rawF
      rw [if_neg he, if_neg he, ih m (by omega) _ (by omega), ih k (by omega) _ (by omega)]
theorem raw_nil : rawL [] = [] := rfl
theorem raw_cons {l : List UInt8} (h : l ≠ []) : rawL l = (stepD l).1 ++ rawL (stepD l).2 := by
  obtain ⟨h1, -⟩ := stepD_lt h
  have hp : 0 < l.length := List.length_pos_iff.2 h
  obtain ⟨k, hk⟩ : ∃ k, l.length = k + 1 := ⟨l.length - 1, by omega⟩
  conv => lhs; unfold rawL
  rw [hk]
  unfold rawF
  rw [if_neg h, rawF_more k _ (by omega)]
theorem raw_length : ∀ (n : Nat) (l : List UInt8), l.length ≤ n → (rawL l).length ≤ 4 * l.length := by
  intro n
  induction n with
  | zero => intro l h; have : l = [] := List.eq_nil_of_length_eq_zero (by omega); subst this; simp [raw_nil]
  | succ n ih =>
    intro l h
    by_cases he : l = []
    · subst he; simp [raw_nil]
    · obtain ⟨h1, h2⟩ := stepD_lt he
      have := ih (stepD l).2 (by omega)
      rw [raw_cons he, List.length_append]
      omega
def decW (l : List UInt8) : List UInt8 := repairL (rawL l)

/-! laws -/
theorem front_hd {c : UInt8} {r : List UInt8} (h : c ≠ 61) : frontS (c :: r) = none := front_other fun r' e => h (by injection e)
theorem raw_byte {c : UInt8} {r : List UInt8} (h : frontS (c :: r) = none) : rawL (c :: r) = c :: rawL r := by
  rw [raw_cons (by simp)]
  unfold stepD
  rw [frontT_none h, if_pos rfl]
  rfl
/-- no '=?' in the text -/
def noEq : List UInt8 → Bool
  | [] => true
  | [_] => true
  | a :: b :: r => !(a == 61 && b == 63) && noEq (b :: r)
theorem raw_noEq : ∀ l : List UInt8, noEq l = true → rawL l = l
  | [], _ => rfl
  | [a], _ => by
    rw [raw_byte, raw_nil]
    exact front_other fun r e => by simp at e
  | a :: b :: r, h => by
    unfold noEq at h
    rw [Bool.and_eq_true] at h
    rw [raw_byte, raw_noEq (b :: r) h.2]
    refine front_other fun r' e => ?_
    injection e with e1 e2
    injection e2 with e2 e3
    have h1 := h.1
    rw [e1, e2] at h1
    cases h1
theorem word_more {l cs tx z : List UInt8} {how : UInt8} (h : Word l cs how tx z) (x : List UInt8) : Word (l ++ x) cs how tx (z ++ x) :=
  ⟨by rw [h.eq]; simp, h.ne, h.cs, h.how, h.tx⟩
theorem word_less {a x cs tx z : List UInt8} {how c : UInt8} (h : Word (a ++ c :: x) cs how tx z) (hc : vis c = false) : ∃ z', Word a cs how tx z' := by
  have hv := word_vis h
  have hle : 7 + cs.length + tx.length ≤ a.length := by
    rcases Nat.lt_or_ge a.length (7 + cs.length + tx.length) with hlt | hge
    · exfalso
      have : vis c = true := hv c (by
        rw [List.take_append, List.mem_append]
        refine .inr ?_
        obtain ⟨k, hk⟩ : ∃ k, 7 + cs.length + tx.length - a.length = k + 1 := ⟨7 + cs.length + tx.length - a.length - 1, by omega⟩
        rw [hk, List.take_succ_cons]
        simp)
      rw [this] at hc; cases hc
    · exact hge
  have hl := congrArg List.length h.eq
  simp only [List.length_append, List.length_cons, List.length_nil] at hl
  have e : a = [61, 63] ++ cs ++ [63, how, 63] ++ tx ++ [63, 61] ++ a.drop (7 + cs.length + tx.length) := by
    have e1 : (a ++ c :: x).take (7 + cs.length + tx.length) = [61, 63] ++ cs ++ [63, how, 63] ++ tx ++ [63, 61] := by
      rw [h.eq, List.take_append_of_le_length (by simp; omega), List.take_of_length_le (by simp; omega)]
    rw [List.take_append_of_le_length hle] at e1
    conv => lhs; rw [← List.take_append_drop (7 + cs.length + tx.length) a, e1]
  exact ⟨_, e, h.ne, h.cs, h.how, h.tx⟩
/-- a byte that is not visible ends every word ahead of it -/
theorem front_sep (a x : List UInt8) {c : UInt8} (hc : vis c = false) : frontS (a ++ c :: x) = frontS a := by
  cases h : frontS (a ++ c :: x) with
  | none =>
    cases h2 : frontS a with
    | none => rfl
    | some p =>
      obtain ⟨cs, how, tx⟩ := p
      obtain ⟨z, hw⟩ := front_word h2
      have := word_front (word_more hw (c :: x))
      rw [this] at h; cases h
  | some p =>
    obtain ⟨cs, how, tx⟩ := p
    obtain ⟨z, hw⟩ := front_word h
    obtain ⟨z', hw'⟩ := word_less hw hc
    rw [word_front hw']
theorem frontT_sep (a x : List UInt8) {c : UInt8} (hc : vis c = false) : frontT (a ++ c :: x) = frontT a := by
  unfold frontT; rw [front_sep a x hc]
theorem dw_sep {p : UInt8 → Bool} {c : UInt8} (hc : p c = false) (x : List UInt8) : ∀ a : List UInt8, (a ++ c :: x).dropWhile p = a.dropWhile p ++ c :: x
  | [] => by simp [hc]
  | d :: a => by
    cases hd : p d with
    | true => rw [List.cons_append, List.dropWhile_cons_of_pos hd, List.dropWhile_cons_of_pos hd, dw_sep hc x a]
    | false => rw [List.cons_append, List.dropWhile_cons_of_neg (by simp [hd]), List.dropWhile_cons_of_neg (by simp [hd])]; rfl
theorem skipG_sep (a x : List UInt8) {c : UInt8} (hv : vis c = false) (hb : Su.blk c = false) : skipG (a ++ c :: x) = skipG a ++ c :: x := by
  unfold skipG
  rw [dw_sep hb, frontT_sep _ _ hv]
  split <;> rfl
theorem raw_sep : ∀ (n : Nat) (a x : List UInt8) (c : UInt8), a.length ≤ n → vis c = false → Su.blk c = false → rawL (a ++ c :: x) = rawL a ++ c :: rawL x := by
  intro n
  induction n with
  | zero =>
    intro a x c h hv hb
    have : a = [] := List.eq_nil_of_length_eq_zero (by omega)
    subst this
    rw [List.nil_append, raw_nil, List.nil_append, raw_byte]
    exact front_hd fun e => by subst e; cases hv
  | succ n ih =>
    intro a x c h hv hb
    by_cases he : a = []
    · subst he
      rw [List.nil_append, raw_nil, List.nil_append, raw_byte]
      exact front_hd fun e => by subst e; cases hv
    · obtain ⟨h1, -⟩ := stepD_lt he
      have e : stepD (a ++ c :: x) = ((stepD a).1, (stepD a).2 ++ c :: x) := by
        have hp : 0 < a.length := List.length_pos_iff.2 he
        have hle := frontT_le a
        unfold stepD
        rw [frontT_sep _ _ hv]
        split
        · rw [List.take_append_of_le_length (by omega), List.drop_append_of_le_length (by omega)]
        · rw [List.drop_append_of_le_length hle, skipG_sep _ _ hv hb]
      rw [raw_cons (by simp), e, raw_cons he]
      simp only
      rw [ih _ x c (by omega) hv hb, List.append_assoc]
end Wd
