/- Plain: the laws of the lexer of the filter language. -/
import Derived.Test.YtgimgkjggaijoaaGreatDoorLxQ
namespace Lx
open Go Pk C1

theorem Run.le {l : List UInt8} {k : Nat} {ts : List (Tok × Nat)} {e : Option Nat} (h : Run l k ts e) : ∀ x ∈ ts, k ≤ x.2 ∧ x.2 < k + l.length := by
  induction h with
  | fin k => intro x hx; cases hx
  | sp h1 h2 h3 ih =>
    intro x hx
    have := ih x hx
    have := spaceL_le h2
    rw [List.length_drop] at *
    omega
  | tok h0 h1 h2 h3 ih =>
    intro x hx
    have hp := tokenL_pos h2
    rcases List.mem_cons.1 hx with rfl | hx
    · exact ⟨Nat.le_refl _, by show _ < _; omega⟩
    · have := ih x hx
      rw [List.length_drop] at this
      omega
  | bad h => intro x hx; cases hx
theorem Run.count {l : List UInt8} {k : Nat} {ts : List (Tok × Nat)} {e : Option Nat} (h : Run l k ts e) : ts.length ≤ l.length := by
  induction h with
  | fin k => exact Nat.le_refl _
  | sp h1 h2 h3 ih => rw [List.length_drop] at ih; omega
  | tok h0 h1 h2 h3 ih =>
    have := tokenL_pos h2
    rw [List.length_drop] at ih
    rw [List.length_cons]; omega
  | bad h => exact Nat.zero_le _
def shiftT (d : Nat) (ts : List (Tok × Nat)) : List (Tok × Nat) := ts.map fun x => (x.1, x.2 + d)
theorem Run.shift {l : List UInt8} {k : Nat} {ts : List (Tok × Nat)} {e : Option Nat} (d : Nat) (h : Run l k ts e) : Run l (k + d) (shiftT d ts) (e.map (· + d)) := by
  induction h with
  | fin k => exact Run.fin _
  | sp h1 h2 h3 ih => exact Run.sp h1 h2 (by rw [Nat.add_right_comm] at ih; exact ih)
  | tok h0 h1 h2 h3 ih => exact Run.tok h0 h1 h2 (by rw [Nat.add_right_comm] at ih; exact ih)
  | bad h => exact Run.bad h
theorem tok_hd {l : List UInt8} {t : Tok} {n : Nat} (h : tokenL l = some (t, n)) : l.head? ≠ some 47 := by
  intro e
  cases l with
  | nil => cases e
  | cons c r =>
    injection e with e
    subst e
    have e1 : identL (47 :: r) = 0 := by rw [identL_cons]; rw [if_neg (by decide)]
    unfold tokenL at h
    rw [e1, if_neg (fun hh => absurd hh.1 (by decide)), if_neg (by decide)] at h
    simp only at h
    rw [if_neg (fun hh => absurd hh.1 (by decide)), if_neg (by decide), if_neg (by decide), if_neg (by decide)] at h
    cases h
theorem split_at {l : List UInt8} (n : Nat) : l.take n ++ l.drop n = l := List.take_append_drop n l
theorem take_len {l : List UInt8} {n : Nat} (h : n ≤ l.length) : (l.take n).length = n := by rw [List.length_take]; omega
/-- a white space step before another text -/
theorem sp_at {l Y' : List UInt8} {n : Nat} (h0 : 0 < n) (h : spaceL l = some n) (hY : l.drop n ≠ [] ∨ Y' = []) : spaceL (l.take n ++ Y') = some n := by
  have hl := spaceL_le h
  rcases hY with hY | hY
  · have hne : l.take n ≠ [] := fun e => by have := congrArg List.length e; rw [take_len hl] at this; simp at this; omega
    have := spaceL_app (l.take n) (l.drop n) Y' hY hne (by rw [split_at, take_len hl]; exact h)
    rwa [take_len hl] at this
  · rcases Nat.lt_or_ge n l.length with h1 | h1
    · have hne : l.take n ≠ [] := fun e => by have := congrArg List.length e; rw [take_len hl] at this; simp at this; omega
      have hd : l.drop n ≠ [] := fun e => by have := congrArg List.length e; rw [List.length_drop] at this; simp at this; omega
      have := spaceL_app (l.take n) (l.drop n) Y' hd hne (by rw [split_at, take_len hl]; exact h)
      rwa [take_len hl] at this
    · rw [hY, List.append_nil, List.take_of_length_le h1]; exact h
theorem tok_at {l Y' : List UInt8} {t : Tok} {n : Nat} (h : tokenL l = some (t, n)) (hY : (l.drop n ≠ [] ∧ Fol (l.drop n) Y') ∨ Y' = []) : tokenL (l.take n ++ Y') = some (t, n) := by
  obtain ⟨h0, hl⟩ := tokenL_pos h
  have hf : l.drop n ≠ [] → Fol (l.drop n) Y' → tokenL (l.take n ++ Y') = some (t, n) := fun h1 h2 => by
    have := tokenL_app (l.take n) (l.drop n) Y' t h1 (by rw [take_len hl]; exact h0) h2 (by rw [split_at, take_len hl]; exact h)
    rwa [take_len hl] at this
  rcases hY with hY | hY
  · exact hf hY.1 hY.2
  · rcases Nat.lt_or_ge n l.length with h1 | h1
    · refine hf (fun e => by have := congrArg List.length e; rw [List.length_drop] at this; simp at this; omega) (.inr ?_)
      rw [hY]; exact ⟨rfl, by simp⟩
    · rw [hY, List.append_nil, List.take_of_length_le h1]; exact h
theorem sp0_at {l Y' : List UInt8} {t : Tok} {n : Nat} (h1 : spaceL l = some 0) (h : tokenL l = some (t, n)) : spaceL (l.take n ++ Y') = some 0 := by
  obtain ⟨h0, hl⟩ := tokenL_pos h
  have hne : l.take n ≠ [] := fun e => by have := congrArg List.length e; rw [take_len hl] at this; simp at this; omega
  refine spaceL_tok (l.take n) (l.drop n) Y' hne (fun e => tok_hd h ?_) (by rw [split_at]; exact h1)
  rw [← split_at (l := l) n]
  cases hd : l.take n with
  | nil => exact absurd hd hne
  | cons c r => rw [hd] at e; simpa using e
theorem tk_ne {l Y' : List UInt8} {n : Nat} (h0 : 0 < n) (hl : n ≤ l.length) : l.take n ++ Y' ≠ [] := fun e => by
  have := congrArg List.length e
  rw [List.length_append, take_len hl] at this; simp at this; omega
theorem tk_drop {l Y' : List UInt8} {n : Nat} (hl : n ≤ l.length) : (l.take n ++ Y').drop n = Y' := by
  rw [List.drop_append_of_le_length (by rw [take_len hl]; exact Nat.le_refl _), List.drop_eq_nil_of_le (by rw [take_len hl]; exact Nat.le_refl _), List.nil_append]
theorem Run.sp' {l Y' : List UInt8} {n k : Nat} {ts : List (Tok × Nat)} {e : Option Nat} (h0 : 0 < n) (h : spaceL l = some n) (hY : l.drop n ≠ [] ∨ Y' = []) (hr : Run Y' (k + n) ts e) : Run (l.take n ++ Y') k ts e :=
  Run.sp h0 (sp_at h0 h hY) (by rw [tk_drop (spaceL_le h)]; exact hr)
theorem Run.tok' {l Y' : List UInt8} {n k : Nat} {t : Tok} {ts : List (Tok × Nat)} {e : Option Nat} (h1 : spaceL l = some 0) (h : tokenL l = some (t, n)) (hY : (l.drop n ≠ [] ∧ Fol (l.drop n) Y') ∨ Y' = []) (hr : Run Y' (k + n) ts e) : Run (l.take n ++ Y') k ((t, k) :: ts) e :=
  Run.tok (tk_ne (tokenL_pos h).1 (tokenL_pos h).2) (sp0_at h1 h) (tok_at h hY) (by rw [tk_drop (tokenL_pos h).2]; exact hr)
theorem fol_pre {x Y : List UInt8} (h : x ++ Y ≠ []) : (x ++ Y ≠ [] ∧ Fol (x ++ Y) x) ∨ x = [] := by
  cases x with
  | nil => exact .inr rfl
  | cons c r => exact .inl ⟨h, .inl rfl⟩
/-- what stands before a token, or before the place of an error -/
theorem Run.places {l : List UInt8} {k : Nat} {ts : List (Tok × Nat)} {e : Option Nat} (h : Run l k ts e) :
    (∀ i (hi : i < ts.length), ∃ x Y n, l = x ++ Y ∧ ts[i].2 = k + x.length ∧ Y ≠ [] ∧ Run x k (ts.take i) none ∧ spaceL Y = some 0 ∧ tokenL Y = some (ts[i].1, n)) ∧
    (∀ at_, e = some at_ → ∃ x Y, l = x ++ Y ∧ at_ = k + x.length ∧ Run x k ts none ∧ Bad Y) := by
  induction h with
  | fin k => exact ⟨fun i hi => absurd hi (by simp), fun _ h => by cases h⟩
  | @sp l n k ts e h1 h2 h3 ih =>
    have hl := spaceL_le h2
    refine ⟨fun i hi => ?_, fun a ha => ?_⟩
    · obtain ⟨x, Y, m, e1, e2, e3, e4, e5⟩ := ih.1 i hi
      refine ⟨l.take n ++ x, Y, m, by rw [List.append_assoc, ← e1, split_at], by rw [e2, List.length_append, take_len hl, Nat.add_assoc], e3, Run.sp' h1 h2 (.inl (by rw [e1]; simp [e3])) e4, e5⟩
    · obtain ⟨x, Y, e1, e2, e3, e4⟩ := ih.2 a ha
      have hY : Y ≠ [] := e4.1
      exact ⟨l.take n ++ x, Y, by rw [List.append_assoc, ← e1, split_at], by rw [e2, List.length_append, take_len hl, Nat.add_assoc], Run.sp' h1 h2 (.inl (by rw [e1]; simp [hY])) e3, e4⟩
  | @tok l t n k ts e h0 h1 h2 h3 ih =>
    have hl := (tokenL_pos h2).2
    refine ⟨fun i hi => ?_, fun a ha => ?_⟩
    · cases i with
      | zero => exact ⟨[], l, n, rfl, rfl, h0, Run.fin k, h1, h2⟩
      | succ i =>
        obtain ⟨x, Y, m, e1, e2, e3, e4, e5⟩ := ih.1 i (by simpa using hi)
        refine ⟨l.take n ++ x, Y, m, by rw [List.append_assoc, ← e1, split_at], by rw [List.getElem_cons_succ, e2, List.length_append, take_len hl, Nat.add_assoc], e3, ?_, e5⟩
        rw [List.take_succ_cons]
        exact Run.tok' h1 h2 (by rw [e1]; exact fol_pre (by simp [e3])) e4
    · obtain ⟨x, Y, e1, e2, e3, e4⟩ := ih.2 a ha
      have hY : Y ≠ [] := e4.1
      exact ⟨l.take n ++ x, Y, by rw [List.append_assoc, ← e1, split_at], by rw [e2, List.length_append, take_len hl, Nat.add_assoc], Run.tok' h1 h2 (by rw [e1]; exact fol_pre (by simp [hY])) e3, e4⟩
  | @bad l k hb =>
    refine ⟨fun i hi => absurd hi (by simp), fun a ha => ?_⟩
    injection ha with ha
    exact ⟨[], l, rfl, by rw [← ha]; rfl, Run.fin k, hb⟩
theorem Run.mono {l : List UInt8} {k : Nat} {ts : List (Tok × Nat)} {e : Option Nat} (h : Run l k ts e) : ∀ i (hi : i + 1 < ts.length), ts[i].2 < ts[i + 1].2 := by
  induction h with
  | fin k => intro i hi; simp at hi
  | sp h1 h2 h3 ih => exact ih
  | @tok l t n k ts e h0 h1 h2 h3 ih =>
    intro i hi
    cases i with
    | zero =>
      have h5 : 0 < ts.length := by simpa using hi
      have := (h3.le ts[0] (List.getElem_mem h5)).1
      have := (tokenL_pos h2).1
      show k < ts[0].2
      omega
    | succ i => exact ih i (by simpa using hi)
  | bad h => intro i hi; simp at hi

/-! two texts, one after the other -/
theorem lnL_nl : ∀ (x Z : List UInt8), lnL x = x.length → lnL (x ++ 10 :: Z) = x.length ∨ lnL (x ++ 10 :: Z) = x.length + 1
  | [], Z, _ => .inr rfl
  | c :: r, Z, h => by
    rw [List.cons_append]
    unfold lnL at h ⊢
    by_cases hc : c = 10
    · rw [if_pos hc] at h ⊢; exact .inl h
    · rw [if_neg hc] at h ⊢
      rw [List.length_cons] at h ⊢
      rcases lnL_nl r Z (by omega) with h | h
      · exact .inl (by omega)
      · exact .inr (by omega)
theorem cmL_any : ∀ (x Z : List UInt8) (n : Nat), cmL x = some n → cmL (x ++ Z) = some n := fun x Z n h => by
  have := cmL_app x [] Z n (by rwa [List.append_nil]) (cmL_le x n h)
  exact this
theorem spaceL_nl (x Z : List UInt8) (hx : x ≠ []) (h : spaceL x = some x.length) : spaceL (x ++ 10 :: Z) = some x.length ∨ spaceL (x ++ 10 :: Z) = some (x.length + 1) := by
  cases x with
  | nil => exact absurd rfl hx
  | cons c r =>
    rw [List.cons_append]
    rw [spaceL_cons] at h ⊢
    by_cases h1 : isWs c = true
    · rw [if_pos h1] at h ⊢; exact .inl h
    · rw [if_neg h1] at h ⊢
      by_cases h2 : c = 35
      · rw [if_pos h2] at h ⊢
        injection h with h
        rcases lnL_nl (c :: r) Z h with h | h
        · rw [List.cons_append] at h; exact .inl (by rw [h])
        · rw [List.cons_append] at h; exact .inr (by rw [h])
      · rw [if_neg h2] at h ⊢
        by_cases h3 : c = 47 ∧ r.head? = some 42
        · rw [if_pos h3] at h
          cases r with
          | nil => simp at h3
          | cons d q =>
            rw [if_pos (by simpa using h3)]
            rw [List.tail_cons] at h
            rw [List.cons_append, List.tail_cons]
            cases hr : cmL q with
            | none => rw [hr] at h; cases h
            | some n => rw [cmL_any q _ n hr]; rw [hr] at h; exact .inl h
        · rw [if_neg h3] at h
          rw [List.length_cons] at h
          injection h with h; omega
theorem isDot_end {l : List UInt8} (h : isDot l = true) : l = [46] ∨ l = [46, 10] ∨ l = [46, 13, 10] := by unfold isDot at h; exact of_decide_eq_true h
theorem lnL_full (l : List UInt8) : l.take (lnL l) = l ∨ lnL l < l.length := by
  have := lnL_le l
  rcases Nat.lt_or_ge (lnL l) l.length with h | h
  · exact .inr h
  · exact .inl (List.take_of_length_le h)
theorem dotL_nl : ∀ (m : Nat) (x Z v : List UInt8), x.length ≤ m → dotL x = some (v, x.length) → dotL (x ++ 10 :: Z) = some (v, x.length) ∨ dotL (x ++ 10 :: Z) = some (v, x.length + 1) := by
  intro m
  induction m with
  | zero =>
    intro x Z v hm h
    have := dotL_pos _ _ v _ (Nat.le_refl _) h
    omega
  | succ m ih =>
    intro x Z v hm h
    have hx : x ≠ [] := fun e => by rw [e] at h; cases h
    have hne : x ++ 10 :: Z ≠ [] := by simp
    have hp := lnL_pos x hx
    rw [dotL_eq, if_neg hx] at h
    rcases lnL_full x with hf | hf
    · have hl : lnL x = x.length := by have := congrArg List.length hf; rw [List.length_take] at this; have := lnL_le x; omega
      rw [hf, hl, List.drop_eq_nil_of_le (Nat.le_refl _)] at h
      split at h
      · rename_i hd
        injection h with h
        injection h with h _
        rcases isDot_end hd with e | e | e
        · right
          rw [e, dotL_eq, if_neg (by simp)]
          have : lnL ([46] ++ 10 :: Z) = 2 := rfl
          rw [this]
          have e2 : ([46] ++ 10 :: Z : List UInt8).take 2 = [46, 10] := rfl
          rw [e2, if_pos (by decide), ← h]; rfl
        · left
          rw [e, dotL_eq, if_neg (by simp)]
          have : lnL ([46, 10] ++ 10 :: Z) = 2 := rfl
          rw [this]
          have e2 : ([46, 10] ++ 10 :: Z : List UInt8).take 2 = [46, 10] := rfl
          rw [e2, if_pos (by decide), ← h]; rfl
        · left
          rw [e, dotL_eq, if_neg (by simp)]
          have : lnL ([46, 13, 10] ++ 10 :: Z) = 3 := rfl
          rw [this]
          have e2 : ([46, 13, 10] ++ 10 :: Z : List UInt8).take 3 = [46, 13, 10] := rfl
          rw [e2, if_pos (by decide), ← h]; rfl
      · cases h
    · have hd0 : x.drop (lnL x) ≠ [] := fun e => by have := congrArg List.length e; rw [List.length_drop] at this; simp at this; omega
      have e1 : lnL (x ++ 10 :: Z) = lnL x := by
        have hle : lnL (x.take (lnL x) ++ x.drop (lnL x)) ≤ (x.take (lnL x)).length := by rw [split_at, take_len (by omega)]; exact Nat.le_refl _
        have := lnL_app (x.take (lnL x)) (x.drop (lnL x)) (x.drop (lnL x) ++ 10 :: Z) hle hd0
        rwa [← List.append_assoc, split_at] at this
      rw [dotL_eq, if_neg hne, e1, take_app (by omega), drop_app (by omega)]
      split at h
      · injection h with h
        injection h with _ h
        omega
      · rename_i hd
        rw [if_neg hd]
        cases hr : dotL (x.drop (lnL x)) with
        | none => rw [hr] at h; cases h
        | some p =>
          rw [hr] at h
          injection h with h
          injection h with ha hb
          have h2 : p.2 = (x.drop (lnL x)).length := by rw [List.length_drop]; omega
          rcases ih (x.drop (lnL x)) Z p.1 (by rw [List.length_drop]; omega) (by rw [hr, ← h2]) with h3 | h3
          · left
            rw [h3, Option.map_some, ← ha, ← h2, hb]
          · right
            rw [h3, Option.map_some, ← ha, ← h2, ← Nat.add_assoc, hb]
theorem multiL_nl (x Z v : List UInt8) (h : multiL x = some (v, x.length)) : multiL (x ++ 10 :: Z) = some (v, x.length) ∨ multiL (x ++ 10 :: Z) = some (v, x.length + 1) := by
  have hp := (multi_pos h).1
  have e1 := begL_app x [] (10 :: Z) (by rw [List.append_nil]; exact hp)
  rw [List.append_nil] at e1
  unfold multiL at h ⊢
  have e2 : ((x ++ 10 :: Z).drop (begL x)).head? = (x.drop (begL x)).head? := by
    have := hd_drop (x := x) (Y := []) (Z := 10 :: Z) (show begL x < x.length by omega)
    rwa [List.append_nil] at this
  rw [e1, e2, drop_app (by omega)]
  split at h
  · rename_i h10
    rw [if_pos h10]
    cases hr : dotL (x.drop (begL x + 1)) with
    | none => rw [hr] at h; cases h
    | some p =>
      rw [hr] at h
      injection h with h
      injection h with ha hb
      have h2 : p.2 = (x.drop (begL x + 1)).length := by rw [List.length_drop]; omega
      rcases dotL_nl _ (x.drop (begL x + 1)) Z p.1 (Nat.le_refl _) (by rw [hr, ← h2]) with h3 | h3
      · left; rw [h3, Option.map_some, ← ha, ← h2, hb]
      · right; rw [h3, Option.map_some, ← ha, ← h2, ← Nat.add_assoc, hb]
  · cases h
/-- a token at the end of a text -/
theorem tokenL_nl (x Z : List UInt8) (t : Tok) (h : tokenL x = some (t, x.length)) : tokenL (x ++ 10 :: Z) = some (t, x.length) ∨ tokenL (x ++ 10 :: Z) = some (t, x.length + 1) := by
  have hx := (tokenL_pos h).1
  by_cases h1 : identL x = 4 ∧ lowL (x.take 4) = textW ∧ (x.drop 4).head? = some 58
  · unfold tokenL at h
    rw [if_pos h1] at h
    cases hr : multiL (x.drop 5) with
    | none => rw [hr] at h; cases h
    | some p =>
      rw [hr] at h
      injection h with h
      injection h with ha hb
      have hb : 5 + p.2 = x.length := hb
      have h2 : p.2 = (x.drop 5).length := by rw [List.length_drop]; omega
      have hq := multi_pos hr
      have e1 : identL (x ++ 10 :: Z) = 4 := by
        have := identL_app x [] (10 :: Z) (by rw [List.append_nil, h1.1]; omega)
        rw [this, List.append_nil]; exact h1.1
      have e3 : ((x ++ 10 :: Z).drop 4).head? = some 58 := by
        have := hd_drop (x := x) (Y := []) (Z := 10 :: Z) (show 4 < x.length by omega)
        rw [this, List.append_nil]; exact h1.2.2
      unfold tokenL
      rw [if_pos ⟨e1, by rw [take_app (by omega)]; exact h1.2.1, e3⟩, drop_app (by omega)]
      rcases multiL_nl (x.drop 5) Z p.1 (by rw [hr, ← h2]) with h3 | h3
      · left; rw [h3, Option.map_some, ha, ← h2, hb]
      · right; rw [h3, Option.map_some, ha, ← h2, ← Nat.add_assoc, hb]
  · left
    by_cases h2 : 0 < identL x
    · unfold tokenL at h
      rw [if_neg h1, if_pos h2] at h
      injection h with h
      injection h with ha hb
      have e := identL_full x [] (10 :: Z) hx (by rw [List.append_nil]; exact hb) rfl
      rw [hb, List.take_of_length_le (Nat.le_refl _)] at ha
      unfold tokenL
      rw [e, if_neg, if_pos hx, take_app (Nat.le_refl _), List.take_of_length_le (Nat.le_refl _), ha]
      rintro ⟨e4, e5, e6⟩
      rw [← e4, drop_app (Nat.le_refl _), List.drop_eq_nil_of_le (Nat.le_refl _)] at e6
      simp at e6
    · unfold tokenL at h
      rw [if_neg h1, if_neg h2] at h
      have e : identL (x ++ 10 :: Z) = 0 := identL_zero x [] (10 :: Z) hx (by rw [List.append_nil]; omega)
      unfold tokenL
      rw [e, if_neg (fun hh => absurd hh.1 (by decide)), if_neg (by decide)]
      cases x with
      | nil => simp at hx
      | cons c r =>
        rw [List.cons_append]
        simp only at h ⊢
        by_cases h3 : c = 58 ∧ 0 < identL r
        · rw [if_pos h3] at h
          injection h with h
          injection h with ha hb
          rw [List.length_cons] at hb
          have hr : identL r = r.length := by omega
          have hr0 : 0 < r.length := by omega
          have e := identL_full r [] (10 :: Z) hr0 (by rw [List.append_nil]; exact hr) rfl
          rw [hr, List.take_of_length_le (Nat.le_refl _)] at ha
          rw [e, if_pos ⟨h3.1, hr0⟩, take_app (Nat.le_refl _), List.take_of_length_le (Nat.le_refl _), ha, List.length_cons, Nat.add_comm]
        · rw [if_neg h3] at h
          have h58 : c ≠ 58 ∨ c = 58 := by
            by_cases hc : c = 58
            · exact .inr hc
            · exact .inl hc
          rcases h58 with h58 | h58
          · rw [if_neg (fun hh => h58 hh.1)]
            by_cases h4 : isDig c = true
            · rw [if_pos h4] at h ⊢
              cases hr : numL (c :: r) with
              | none => rw [hr] at h; cases h
              | some p =>
                rw [hr] at h
                injection h with h
                injection h with ha hb
                have hb : p.2 = (c :: r).length := hb
                have := numL_app (c :: r) [] (10 :: Z) p.1 (by rw [List.append_nil, hr, ← hb]) rfl
                rw [List.cons_append] at this
                rw [this, Option.map_some, ha]
            · rw [if_neg h4] at h ⊢
              by_cases h5 : c = 34
              · rw [if_pos h5] at h ⊢
                cases hr : quoL r with
                | none => rw [hr] at h; cases h
                | some p =>
                  rw [hr] at h
                  injection h with h
                  injection h with ha hb
                  rw [List.length_cons] at hb
                  have hp := quo_pos _ p.1 p.2 hr
                  rw [quoL_app r [] (10 :: Z) p.1 p.2 (by rw [List.append_nil]; exact hr) (by omega) (by omega), Option.map_some, ha, hb, List.length_cons]
              · rw [if_neg h5] at h ⊢
                exact h
          · rw [h58] at h
            rw [if_neg (by decide), if_neg (by decide), if_neg (by decide)] at h
            cases h
theorem Run.more {l : List UInt8} {k : Nat} {ts : List (Tok × Nat)} {e0 : Option Nat} (h : Run l k ts e0) : e0 = none → ∀ (Z : List UInt8) ts' e, Run Z (k + l.length + 1) ts' e → Run (l ++ 10 :: Z) k (ts ++ ts') e := by
  induction h with
  | fin k => intro _ Z ts' e h; exact Run.sp (n := 1) (by decide) rfl (by simpa using h)
  | @sp l n k ts e0 h1 h2 h3 ih =>
    intro h0 Z ts' e h
    have hl := spaceL_le h2
    by_cases hd : l.drop n = []
    · have hn : n = l.length := by have := congrArg List.length hd; rw [List.length_drop] at this; simp at this; omega
      subst hn
      rw [hd] at h3
      cases h3 with
      | fin =>
        rcases spaceL_nl l Z (fun e => by rw [e] at h1; simp at h1) h2 with h4 | h4
        · exact Run.sp h1 h4 (by rw [drop_app (Nat.le_refl _), hd, List.nil_append]; exact Run.sp (n := 1) (by decide) rfl (by simpa using h))
        · refine Run.sp (by omega) h4 ?_
          show Run _ _ ts' e
          rw [show (l ++ 10 :: Z).drop (l.length + 1) = Z by rw [List.drop_append, List.drop_eq_nil_of_le (by omega)]; simp, ← Nat.add_assoc]
          exact h
      | sp h5 h6 => simp [spaceL] at h6; omega
      | tok h5 => exact absurd rfl h5
      | bad h5 => exact absurd rfl h5.1
    · have := ih h0 Z ts' e (by rw [List.length_drop]; rw [show k + n + (l.length - n) + 1 = k + l.length + 1 by omega]; exact h)
      have := Run.sp' (k := k) h1 h2 (.inl hd) this
      rwa [← List.append_assoc, split_at] at this
  | @tok l t n k ts e0 hne h1 h2 h3 ih =>
    intro h0 Z ts' e h
    have hl := (tokenL_pos h2).2
    by_cases hd : l.drop n = []
    · have hn : n = l.length := by have := congrArg List.length hd; rw [List.length_drop] at this; simp at this; omega
      subst hn
      have hs : spaceL (l ++ 10 :: Z) = some 0 := by
        have := sp0_at (Y' := 10 :: Z) h1 h2
        rwa [List.take_of_length_le (Nat.le_refl _)] at this
      rw [hd] at h3
      cases h3 with
      | fin =>
        rcases tokenL_nl l Z t h2 with h4 | h4
        · exact Run.tok (by simp) hs h4 (by rw [drop_app (Nat.le_refl _), hd, List.nil_append]; exact Run.sp (n := 1) (by decide) rfl (by simpa using h))
        · refine Run.tok (by simp) hs h4 ?_
          show Run _ _ ts' e
          rw [show (l ++ 10 :: Z).drop (l.length + 1) = Z by rw [List.drop_append, List.drop_eq_nil_of_le (by omega)]; simp, ← Nat.add_assoc]
          exact h
      | sp h5 h6 => simp [spaceL] at h6; omega
      | tok h5 => exact absurd rfl h5
      | bad h5 => exact absurd rfl h5.1
    · have := ih h0 Z ts' e (by rw [List.length_drop]; rw [show k + n + (l.length - n) + 1 = k + l.length + 1 by omega]; exact h)
      have hF : Fol (l.drop n) (l.drop n ++ 10 :: Z) := .inl (by cases hx : l.drop n with | nil => exact absurd hx hd | cons a b => rfl)
      have := Run.tok' (k := k) h1 h2 (.inl ⟨hd, hF⟩) this
      rwa [← List.append_assoc, split_at] at this
  | bad h => intro h0; cases h0

/-! white space put in -/
theorem Run.blank (m : Nat) : ∀ (q : List UInt8) (j : Nat), q.length ≤ m → ∀ x ts, Run (q ++ [120]) j ((x, j + q.length) :: ts) none → ∀ (Z : List UInt8) k ts' e, Run Z (k + q.length) ts' e → Run (q ++ Z) k ts' e := by
  induction m with
  | zero =>
    intro q j hq x ts h Z k ts' e hz
    have := List.eq_nil_of_length_eq_zero (by omega : q.length = 0)
    subst this
    exact hz
  | succ m ih =>
    intro q j hq x ts h Z k ts' e hz
    by_cases hq0 : q = []
    · subst hq0; exact hz
    generalize hT : ((x, j + q.length) :: ts : List (Tok × Nat)) = T at h
    generalize hL : q ++ [120] = L at h
    cases h with
    | fin => cases hT
    | @sp _ n _ _ _ h1 h2 h3 =>
      subst hT; subst hL
      have hle := (h3.le _ (List.mem_cons_self ..)).1
      have hn : n ≤ q.length := by have : j + n ≤ j + q.length := hle; omega
      have h4 := spaceL_app (q.take n) (q.drop n ++ [120]) (q.drop n ++ Z) (by simp) (fun e => by have := congrArg List.length e; rw [take_len hn] at this; simp at this; omega) (by rw [← List.append_assoc, split_at, take_len hn]; exact h2)
      rw [← List.append_assoc, split_at, take_len hn] at h4
      refine Run.sp h1 h4 ?_
      rw [drop_app hn] at h3 ⊢
      refine ih (q.drop n) (j + n) (by rw [List.length_drop]; omega) x ts ?_ Z (k + n) ts' e (by rw [List.length_drop, show k + n + (q.length - n) = k + q.length by omega]; exact hz)
      rw [List.length_drop, show j + n + (q.length - n) = j + q.length by omega]
      exact h3
    | tok h0 h1 h2 h3 =>
      have : 0 < q.length := List.length_pos_iff.2 hq0
      injection hT with hT _
      injection hT with _ hT
      omega
theorem blank_hd {q : List UInt8} {x : Tok} {ts : List (Tok × Nat)} (h : Run (q ++ [120]) 0 ((x, q.length) :: ts) none) : q = [] ∨ (hdW q = false ∧ q.head? ≠ some 58) := by
  cases q with
  | nil => exact .inl rfl
  | cons c r =>
    right
    generalize hl : ((x, (c :: r).length) :: ts : List (Tok × Nat)) = T at h
    generalize hL : c :: r ++ [120] = L at h
    cases h with
    | fin => cases hl
    | sp h1 h2 h3 =>
      rw [← hL, List.cons_append, spaceL_cons] at h2
      by_cases h4 : isWs c = true
      · unfold isWs at h4
        rcases of_decide_eq_true h4 with rfl | rfl | rfl | rfl <;> exact ⟨rfl, by simp⟩
      · rw [if_neg h4] at h2
        by_cases h5 : c = 35
        · subst h5; exact ⟨rfl, by simp⟩
        · rw [if_neg h5] at h2
          by_cases h6 : c = 47 ∧ (r ++ [120]).head? = some 42
          · rw [h6.1]; exact ⟨rfl, by simp⟩
          · rw [if_neg h6] at h2; injection h2 with h2; omega
    | tok h0 h1 h2 h3 =>
      injection hl with hl _
      injection hl with _ hl
      simp at hl
/-- the text with p before every token -/
def insT (p : List UInt8) : List UInt8 → Nat → List (Tok × Nat) → List UInt8
  | l, _, [] => l
  | l, k, x :: r => l.take (x.2 - k) ++ (p ++ insT p (l.drop (x.2 - k)) x.2 r)
/-- the tokens with their places behind it; j: how many have been -/
def insA (d : Nat) : Nat → List (Tok × Nat) → List (Tok × Nat)
  | _, [] => []
  | j, x :: r => (x.1, x.2 + (j + 1) * d) :: insA d (j + 1) r
theorem insT_skip (p : List UInt8) : ∀ (ts : List (Tok × Nat)) (l : List UInt8) (k n : Nat), (∀ x, ts.head? = some x → k + n ≤ x.2) → n ≤ l.length → insT p l k ts = l.take n ++ insT p (l.drop n) (k + n) ts
  | [], l, k, n, _, _ => (split_at n).symm
  | x :: r, l, k, n, h, hn => by
    have h1 := h x rfl
    unfold insT
    have e1 : x.2 - k = n + (x.2 - (k + n)) := by omega
    rw [e1, List.take_add, ← List.drop_drop, List.append_assoc]
theorem insT_nil : ∀ (ts : List (Tok × Nat)) (l : List UInt8) (k : Nat), insT [] l k ts = l
  | [], _, _ => rfl
  | x :: r, l, k => by
    unfold insT
    rw [insT_nil r, List.nil_append, split_at]
theorem insT_hd (p : List UInt8) (hp : p = [] ∨ (hdW p = false ∧ p.head? ≠ some 58)) (l : List UInt8) (k : Nat) (ts : List (Tok × Nat)) (hl : l ≠ []) : Fol l (insT p l k ts) := by
  cases ts with
  | nil => exact .inl rfl
  | cons x r =>
    cases p with
    | nil => rw [insT_nil]; exact .inl rfl
    | cons c q =>
      unfold insT
      cases l with
      | nil => exact absurd rfl hl
      | cons a b =>
        rcases Nat.eq_zero_or_pos (x.2 - k) with h0 | h0
        · rw [h0]
          rcases hp with hp | hp
          · cases hp
          · exact .inr hp
        · obtain ⟨n, hn⟩ : ∃ n, x.2 - k = n + 1 := ⟨x.2 - k - 1, by omega⟩
          rw [hn]
          exact .inl rfl
theorem Run.ins {p : List UInt8} {x : Tok} (hp : Run (p ++ [120]) 0 [(x, p.length)] none) {l : List UInt8} {k : Nat} {ts : List (Tok × Nat)} {e : Option Nat} (h : Run l k ts e) : e = none → ∀ j, Run (insT p l k ts) (k + j * p.length) (insA p.length j ts) none := by
  have hph := blank_hd hp
  induction h with
  | fin k => intro _ j; exact Run.fin _
  | @sp l n k ts e h1 h2 h3 ih =>
    intro h0 j
    have hl := spaceL_le h2
    rw [insT_skip p ts l k n (fun x hx => (h3.le x (List.mem_of_mem_head? hx)).1) hl]
    refine Run.sp' h1 h2 ?_ (by rw [Nat.add_right_comm]; exact ih h0 j)
    by_cases hd : l.drop n = []
    · right
      rw [hd] at h3 ⊢
      cases ts with
      | nil => rfl
      | cons y r => have := (h3.le y (List.mem_cons_self ..)); simp at this; omega
    · exact .inl hd
  | @tok l t n k ts e hne h1 h2 h3 ih =>
    intro h0 j
    obtain ⟨hn0, hl⟩ := tokenL_pos h2
    have e1 : insT p l k ((t, k) :: ts) = p ++ (l.take n ++ insT p (l.drop n) (k + n) ts) := by
      rw [← insT_skip p ts l k n (fun x hx => (h3.le x (List.mem_of_mem_head? hx)).1) hl]
      show l.take (k - k) ++ (p ++ insT p (l.drop (k - k)) k ts) = _
      rw [Nat.sub_self, List.take_zero, List.drop_zero, List.nil_append]
    rw [e1]
    refine Run.blank p.length p 0 (Nat.le_refl _) x [] (by rw [Nat.zero_add]; exact hp) _ _ _ _ ?_
    have e2 : k + j * p.length + p.length = k + (j + 1) * p.length := by rw [Nat.succ_mul, Nat.add_assoc]
    rw [e2]
    refine Run.tok' h1 h2 ?_ (by rw [Nat.add_right_comm]; exact ih h0 (j + 1))
    by_cases hd : l.drop n = []
    · right
      rw [hd] at h3 ⊢
      cases ts with
      | nil => rfl
      | cons y r => have := (h3.le y (List.mem_cons_self ..)); simp at this; omega
    · exact .inl ⟨hd, insT_hd p hph _ _ _ hd⟩
  | bad h => intro h0; cases h0
end Lx
