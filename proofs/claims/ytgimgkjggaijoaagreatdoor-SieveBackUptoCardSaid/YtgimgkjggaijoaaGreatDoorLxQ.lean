/- Plain: one token of a longer text; a run over a text. -/
import Derived.Test.YtgimgkjggaijoaaGreatDoorLxP
namespace Lx
open Go Pk C1

theorem begB_rng (l : List UInt8) : spanL isBl l ≤ begB l ∧ begB l ≤ l.length := by
  have h1 := spanL_le isBl l
  have h2 := spanL_le noNl (l.drop (spanL isBl l))
  rw [List.length_drop] at h2
  unfold begB
  split <;> omega
theorem begL_rng (l : List UInt8) : begB l ≤ begL l ∧ begL l ≤ l.length := by
  have h1 := begB_rng l
  unfold begL
  split
  · rename_i h
    have := h.1
    rw [List.head?_drop] at this
    have := (List.getElem?_eq_some_iff.1 this).1
    omega
  · omega
theorem hd_drop {x Y Z : List UInt8} {n : Nat} (h : n < x.length) : ((x ++ Z).drop n).head? = ((x ++ Y).drop n).head? := by
  rw [List.head?_drop, List.head?_drop, List.getElem?_append_left h, List.getElem?_append_left h]
theorem begB_app (x Y Z : List UInt8) (h : begB (x ++ Y) < x.length) : begB (x ++ Z) = begB (x ++ Y) := by
  have ha := (begB_rng (x ++ Y)).1
  have e1 := spanL_app isBl x Y Z (by omega)
  have e2 := hd_drop (x := x) (Y := Y) (Z := Z) (show spanL isBl (x ++ Y) < x.length by omega)
  have h0 : spanL isBl (x ++ Y) ≤ x.length := by omega
  unfold begB at h ⊢
  rw [e1, e2]
  by_cases h1 : ((x ++ Y).drop (spanL isBl (x ++ Y))).head? = some 35
  · rw [if_pos h1] at h ⊢
    rw [if_pos h1]
    rw [drop_app h0] at h ⊢
    rw [drop_app h0]
    rw [spanL_app noNl (x.drop (spanL isBl (x ++ Y))) Y Z (by rw [List.length_drop]; omega)]
  · rw [if_neg h1, if_neg h1]
theorem begL_app (x Y Z : List UInt8) (h : begL (x ++ Y) + 1 < x.length) : begL (x ++ Z) = begL (x ++ Y) := by
  have hb := (begL_rng (x ++ Y)).1
  have e1 := begB_app x Y Z (by omega)
  unfold begL
  rw [e1, hd_drop (Y := Y) (Z := Z) (show begB (x ++ Y) < x.length by omega), hd_drop (Y := Y) (Z := Z) (show begB (x ++ Y) + 1 < x.length by omega)]
theorem multi_pos {l : List UInt8} {v : List UInt8} {n : Nat} (h : multiL l = some (v, n)) : begL l + 1 < n ∧ n ≤ l.length := by
  unfold multiL at h
  split at h
  · cases hr : dotL (l.drop (begL l + 1)) with
    | none => rw [hr] at h; cases h
    | some p =>
      rw [hr] at h
      injection h with h
      injection h with _ h
      have := dotL_pos _ _ p.1 p.2 (Nat.le_refl _) hr
      rw [List.length_drop] at this
      omega
  · cases h
theorem multiL_app (x Y Z v : List UInt8) (n : Nat) (hY : Y ≠ []) (h : multiL (x ++ Y) = some (v, n)) (hn : n ≤ x.length) : multiL (x ++ Z) = some (v, n) := by
  have hp := (multi_pos h).1
  have e1 := begL_app x Y Z (by omega)
  unfold multiL at h ⊢
  have e2 := hd_drop (x := x) (Y := Y) (Z := Z) (show begL (x ++ Y) < x.length by omega)
  rw [e1, e2, drop_app (n := begL (x ++ Y) + 1) (by omega)]
  rw [drop_app (n := begL (x ++ Y) + 1) (by omega)] at h
  split at h
  · rename_i h10
    rw [if_pos h10]
    cases hr : dotL (x.drop (begL (x ++ Y) + 1) ++ Y) with
    | none => rw [hr] at h; cases h
    | some p =>
      rw [hr] at h
      injection h with h
      injection h with ha hb
      rw [dotL_app _ (x.drop (begL (x ++ Y) + 1)) Y Z p.1 p.2 (Nat.le_refl _) hY hr (by rw [List.length_drop]; omega)]
      rw [Option.map_some, ha, hb]
  · cases h
theorem isWd_dig {c : UInt8} (h : isWd c = false) : isDig c = false := by
  unfold isWd at h
  cases h2 : isDig c with
  | false => rfl
  | true => rw [h2] at h; simp at h
theorem isWd_let {c : UInt8} (h : isWd c = false) : isLet c = false := by
  unfold isWd at h
  cases h2 : isLet c with
  | false => rfl
  | true => rw [h2] at h; simp at h
theorem kmg_let {c : UInt8} (h : isLet c = false) : kmg c = 0 := by
  unfold kmg
  unfold isLet at h
  simp only [decide_eq_false_iff_not, not_or, not_and] at h
  rw [if_neg, if_neg, if_neg]
  all_goals (rintro (rfl | rfl) <;> simp at h)
theorem hdW_K {l : List UInt8} (h : hdW l = false) : hdK l = 0 := by
  cases l with
  | nil => rfl
  | cons c r => exact kmg_let (isWd_let h)
theorem hdW_dig {l : List UInt8} (h : hdW l = false) : hdP isDig l = false := by
  cases l with
  | nil => rfl
  | cons c r => exact isWd_dig h
theorem numL_le {l : List UInt8} {v n : Nat} (h : numL l = some (v, n)) : spanL isDig l ≤ n ∧ n ≤ spanL isDig l + 1 ∧ n ≤ l.length ∧ hdW (l.drop n) = false ∧ v ≤ most := by
  have hs := spanL_le isDig l
  unfold numL at h
  simp only at h
  by_cases h0 : 12 < spanL isDig l ∨ most < val 0 (l.take (spanL isDig l))
  · rw [if_pos h0] at h; cases h
  · rw [if_neg h0] at h
    by_cases h1 : hdK (l.drop (spanL isDig l)) = 0
    · rw [if_pos h1] at h
      by_cases h2 : hdW (l.drop (spanL isDig l)) = true
      · rw [if_pos h2] at h; cases h
      · rw [if_neg h2] at h
        injection h with h
        injection h with ha hb
        subst hb
        exact ⟨Nat.le_refl _, by omega, hs, by simpa using h2, by omega⟩
    · rw [if_neg h1] at h
      by_cases h3 : most / 1024 ^ hdK (l.drop (spanL isDig l)) < val 0 (l.take (spanL isDig l))
      · rw [if_pos h3] at h; cases h
      · rw [if_neg h3] at h
        by_cases h2 : hdW (l.drop (spanL isDig l + 1)) = true
        · rw [if_pos h2] at h; cases h
        · rw [if_neg h2] at h
          injection h with h
          injection h with ha hb
          subst hb
          have hlt : spanL isDig l < l.length := by
            rcases Nat.lt_or_ge (spanL isDig l) l.length with hh | hh
            · exact hh
            · rw [List.drop_eq_nil_of_le hh] at h1; exact absurd rfl h1
          refine ⟨by omega, Nat.le_refl _, hlt, by simpa using h2, ?_⟩
          rw [← ha]
          exact Nat.le_trans (Nat.mul_le_mul_right _ (Nat.not_lt.1 h3)) (Nat.div_mul_le_self _ _)
theorem numL_app (x Y Z : List UInt8) (v : Nat) (h : numL (x ++ Y) = some (v, x.length)) (hZ : hdW Z = false) : numL (x ++ Z) = some (v, x.length) := by
  obtain ⟨h1, h2, -, hW, -⟩ := numL_le h
  rw [drop_app (Nat.le_refl _), List.drop_eq_nil_of_le (Nat.le_refl _), List.nil_append] at hW
  unfold numL at h ⊢
  simp only at h ⊢
  rcases (show spanL isDig (x ++ Y) = x.length ∨ spanL isDig (x ++ Y) + 1 = x.length by omega) with e | e
  · have e2 := spanL_full isDig x Y Z e (hdW_dig hZ)
    rw [e, take_app (Nat.le_refl _), drop_app (Nat.le_refl _), List.drop_eq_nil_of_le (Nat.le_refl _), List.nil_append, hdW_K hW, hW] at h
    rw [e2, take_app (Nat.le_refl _), drop_app (Nat.le_refl _), List.drop_eq_nil_of_le (Nat.le_refl _), List.nil_append, hdW_K hZ, hZ]
    split at h
    · cases h
    · rename_i h0
      rw [if_neg h0]
      exact h
  · have e2 := spanL_app isDig x Y Z (by omega)
    rw [e2]
    generalize hn : spanL isDig (x ++ Y) = n at *
    have hk : hdK ((x ++ Z).drop n) = hdK ((x ++ Y).drop n) := by
      rw [drop_app (by omega), drop_app (by omega)]
      cases hd : x.drop n with
      | nil => have := congrArg List.length hd; rw [List.length_drop] at this; simp at this; omega
      | cons c r => rfl
    have hd1 : (x ++ Z).drop (n + 1) = Z := by rw [drop_app (by omega), List.drop_eq_nil_of_le (by omega), List.nil_append]
    have hd2 : (x ++ Y).drop (n + 1) = Y := by rw [drop_app (by omega), List.drop_eq_nil_of_le (by omega), List.nil_append]
    rw [take_app (by omega), hk, hd1, hZ]
    rw [take_app (by omega), hd2, hW] at h
    split at h
    · cases h
    · rename_i h0
      rw [if_neg h0]
      split at h
      · split at h
        · cases h
        · injection h with h; injection h with _ h; omega
      · rename_i hk0
        rw [if_neg hk0]
        exact h
theorem identL_le (l : List UInt8) : identL l ≤ l.length := by
  cases l with
  | nil => exact Nat.le_refl _
  | cons c r => have := spanL_le isWd r; rw [identL_cons]; rw [List.length_cons]; split <;> omega
theorem identL_app (x Y Z : List UInt8) (h : identL (x ++ Y) < x.length) : identL (x ++ Z) = identL (x ++ Y) := by
  cases x with
  | nil => simp at h
  | cons c r =>
    rw [List.cons_append] at h ⊢
    rw [List.cons_append]
    rw [identL_cons] at h ⊢
    rw [identL_cons]
    by_cases hc : isLet c = true
    · rw [if_pos hc] at h ⊢
      rw [if_pos hc, spanL_app isWd r Y Z (by rw [List.length_cons] at h; omega)]
    · rw [if_neg hc, if_neg hc]
theorem identL_full (x Y Z : List UInt8) (hx : 0 < x.length) (h : identL (x ++ Y) = x.length) (hZ : hdW Z = false) : identL (x ++ Z) = x.length := by
  cases x with
  | nil => simp at hx
  | cons c r =>
    rw [List.cons_append] at h ⊢
    rw [identL_cons] at h ⊢
    by_cases hc : isLet c = true
    · rw [if_pos hc] at h ⊢
      rw [spanL_full isWd r Y Z (by rw [List.length_cons] at h; omega) hZ, List.length_cons]
    · rw [if_neg hc] at h; simp at h
theorem identL_zero (x Y Z : List UInt8) (hx : 0 < x.length) (h : identL (x ++ Y) = 0) : identL (x ++ Z) = 0 := by
  rw [← h]; exact identL_app x Y Z (by omega)
/-- how a token may be followed: as it was, or by no part of a word and no colon -/
def Fol (Y Z : List UInt8) : Prop := Z.head? = Y.head? ∨ (hdW Z = false ∧ Z.head? ≠ some 58)
theorem hdW_head {Y Z : List UInt8} (h : Z.head? = Y.head?) : hdW Z = hdW Y := by
  cases Y <;> cases Z <;> simp at h
  · rfl
  · subst h; rfl
theorem Fol.W {Y Z : List UInt8} (h : Fol Y Z) (hY : hdW Y = false) : hdW Z = false := by
  rcases h with h | h
  · rw [hdW_head h]; exact hY
  · exact h.1
theorem Fol.C {Y Z : List UInt8} (h : Fol Y Z) (hY : Y.head? ≠ some 58) : Z.head? ≠ some 58 := by
  rcases h with h | h
  · rw [h]; exact hY
  · exact h.2
theorem identL_fullW (x Y : List UInt8) (hx : 0 < x.length) (h : identL (x ++ Y) = x.length) : hdW Y = false := by
  cases x with
  | nil => simp at hx
  | cons c r =>
    rw [List.cons_append] at h
    rw [identL_cons] at h
    by_cases hc : isLet c = true
    · rw [if_pos hc] at h
      exact spanL_fullY isWd r Y (by rw [List.length_cons] at h; omega)
    · rw [if_neg hc] at h; simp at h
theorem tokenL_app (x Y Z : List UInt8) (t : Tok) (hY : Y ≠ []) (hx : 0 < x.length) (hF : Fol Y Z) (h : tokenL (x ++ Y) = some (t, x.length)) : tokenL (x ++ Z) = some (t, x.length) := by
  unfold tokenL at h
  by_cases h1 : identL (x ++ Y) = 4 ∧ lowL ((x ++ Y).take 4) = textW ∧ ((x ++ Y).drop 4).head? = some 58
  · rw [if_pos h1] at h
    cases hr : multiL ((x ++ Y).drop 5) with
    | none => rw [hr] at h; cases h
    | some p =>
      rw [hr] at h
      injection h with h
      injection h with ha hb
      have hp := multi_pos hr
      have hb : 5 + p.2 = x.length := hb
      rw [drop_app (by omega)] at hr
      have hm := multiL_app (x.drop 5) Y Z p.1 p.2 hY hr (by rw [List.length_drop]; omega)
      unfold tokenL
      rw [if_pos ⟨by rw [identL_app x Y Z (by omega)]; exact h1.1, by rw [take_app (by omega)]; rw [take_app (by omega)] at h1; exact h1.2.1, by rw [hd_drop (Y := Y) (by omega)]; exact h1.2.2⟩]
      rw [drop_app (by omega), hm, Option.map_some, ha, hb]
  · rw [if_neg h1] at h
    by_cases h2 : 0 < identL (x ++ Y)
    · rw [if_pos h2] at h
      injection h with h
      injection h with ha hb
      have hW := identL_fullW x Y hx hb
      have e := identL_full x Y Z hx hb (hF.W hW)
      rw [hb, take_app (Nat.le_refl _)] at ha
      unfold tokenL
      rw [e, if_neg, if_pos hx, take_app (Nat.le_refl _), ha]
      rintro ⟨e4, e5, e6⟩
      rw [take_app (by omega)] at e5
      rw [← e4, drop_app (Nat.le_refl _), List.drop_eq_nil_of_le (Nat.le_refl _), List.nil_append] at e6
      refine hF.C (fun e7 => h1 ⟨by rw [hb, e4], by rw [take_app (by omega)]; exact e5, ?_⟩) e6
      rw [← e4, drop_app (Nat.le_refl _), List.drop_eq_nil_of_le (Nat.le_refl _), List.nil_append]
      exact e7
    · rw [if_neg h2] at h
      have e := identL_zero x Y Z hx (by omega)
      unfold tokenL
      rw [e, if_neg (fun hh => absurd hh.1 (by decide)), if_neg (by decide)]
      cases x with
      | nil => simp at hx
      | cons c r =>
        rw [List.cons_append] at h ⊢
        simp only at h ⊢
        by_cases h3 : c = 58 ∧ 0 < identL (r ++ Y)
        · rw [if_pos h3] at h
          injection h with h
          injection h with ha hb
          rw [List.length_cons] at hb
          have hr : identL (r ++ Y) = r.length := by omega
          have hr0 : 0 < r.length := by omega
          have hW := identL_fullW r Y hr0 hr
          have e := identL_full r Y Z hr0 hr (hF.W hW)
          rw [hr, take_app (Nat.le_refl _)] at ha
          rw [e, if_pos ⟨h3.1, hr0⟩, take_app (Nat.le_refl _), ha, List.length_cons, Nat.add_comm]
        · rw [if_neg h3] at h
          have h58 : c ≠ 58 ∨ (c = 58 ∧ ¬ 0 < identL (r ++ Y)) := by
            by_cases hc : c = 58
            · exact .inr ⟨hc, fun hh => h3 ⟨hc, hh⟩⟩
            · exact .inl hc
          rcases h58 with h58 | ⟨h58, -⟩
          · rw [if_neg (fun hh => h58 hh.1)]
            by_cases h4 : isDig c = true
            · rw [if_pos h4] at h ⊢
              cases hr : numL (c :: (r ++ Y)) with
              | none => rw [hr] at h; cases h
              | some p =>
                rw [hr] at h
                injection h with h
                injection h with ha hb
                have hb : p.2 = (c :: r).length := hb
                have hn : numL ((c :: r) ++ Y) = some (p.1, (c :: r).length) := by rw [List.cons_append, hr, ← hb]
                have hW : hdW Y = false := by
                  have := (numL_le hn).2.2.2.1
                  rwa [drop_app (Nat.le_refl _), List.drop_eq_nil_of_le (Nat.le_refl _), List.nil_append] at this
                have := numL_app (c :: r) Y Z p.1 hn (hF.W hW)
                rw [List.cons_append] at this
                rw [this, Option.map_some, ha]
            · rw [if_neg h4] at h ⊢
              by_cases h5 : c = 34
              · rw [if_pos h5] at h ⊢
                cases hr : quoL (r ++ Y) with
                | none => rw [hr] at h; cases h
                | some p =>
                  rw [hr] at h
                  injection h with h
                  injection h with ha hb
                  rw [List.length_cons] at hb
                  have hp := quo_pos _ p.1 p.2 hr
                  rw [quoL_app r Y Z p.1 p.2 hr (by omega) (by omega), Option.map_some, ha, hb, List.length_cons]
              · rw [if_neg h5] at h ⊢
                exact h
          · rw [h58] at h
            rw [if_neg (by decide), if_neg (by decide), if_neg (by decide)] at h
            cases h
theorem quo_le : ∀ (l v : List UInt8) (n : Nat), quoL l = some (v, n) → n ≤ l.length
  | [], v, n, h => by cases h
  | [c], v, n, h => by
    unfold quoL at h
    split at h
    · injection h with h; injection h with _ h; simp; omega
    · cases h
  | c :: d :: r, v, n, h => by
    unfold quoL at h
    split at h
    · injection h with h; injection h with _ h; rw [List.length_cons]; omega
    · split at h
      · cases hr : quoL r with
        | none => rw [hr] at h; cases h
        | some p =>
          rw [hr] at h; injection h with h; injection h with _ h
          have := quo_le r p.1 p.2 hr
          rw [List.length_cons, List.length_cons]; omega
      · cases hr : quoL (d :: r) with
        | none => rw [hr] at h; cases h
        | some p =>
          rw [hr] at h; injection h with h; injection h with _ h
          have := quo_le (d :: r) p.1 p.2 hr
          rw [List.length_cons]; omega
theorem tokenL_pos {l : List UInt8} {t : Tok} {n : Nat} (h : tokenL l = some (t, n)) : 0 < n ∧ n ≤ l.length := by
  have hi := identL_le l
  unfold tokenL at h
  split at h
  · cases hr : multiL (l.drop 5) with
    | none => rw [hr] at h; cases h
    | some p =>
      rw [hr] at h
      injection h with h
      injection h with _ h
      have := multi_pos hr
      rw [List.length_drop] at this
      omega
  · split at h
    · injection h with h
      injection h with _ h
      omega
    · cases l with
      | nil => cases h
      | cons c r =>
        simp only at h
        split at h
        · injection h with h
          injection h with _ h
          have := identL_le r
          rw [List.length_cons]; omega
        · split at h
          · rename_i hd
            cases hr : numL (c :: r) with
            | none => rw [hr] at h; cases h
            | some p =>
              rw [hr] at h
              injection h with h
              injection h with _ h
              have h1 := numL_le (v := p.1) (n := p.2) hr
              have h2 : 0 < spanL isDig (c :: r) := by unfold spanL; rw [if_pos hd]; omega
              omega
          · split at h
            · cases hr : quoL r with
              | none => rw [hr] at h; cases h
              | some p =>
                rw [hr] at h
                injection h with h
                injection h with _ h
                have := quo_le r p.1 p.2 hr
                rw [List.length_cons]; omega
            · split at h
              · injection h with h
                injection h with _ h
                rw [List.length_cons]; omega
              · cases h
/-- one step: white space, or a token -/
inductive St : List UInt8 → Option Tok → Nat → Prop
  | sp {l n} : 0 < n → spaceL l = some n → St l none n
  | tok {l t n} : l ≠ [] → spaceL l = some 0 → tokenL l = some (t, n) → St l (some t) n
/-- no step goes on from here -/
def Bad (l : List UInt8) : Prop := l ≠ [] ∧ (spaceL l = none ∨ (spaceL l = some 0 ∧ tokenL l = none))
inductive Run : List UInt8 → Nat → List (Tok × Nat) → Option Nat → Prop
  | fin (k) : Run [] k [] none
  | sp {l n k ts e} : 0 < n → spaceL l = some n → Run (l.drop n) (k + n) ts e → Run l k ts e
  | tok {l t n k ts e} : l ≠ [] → spaceL l = some 0 → tokenL l = some (t, n) → Run (l.drop n) (k + n) ts e → Run l k ((t, k) :: ts) e
  | bad {l k} : Bad l → Run l k [] (some k)
theorem tokenL_cons {c : UInt8} {r : List UInt8} (h : identL (c :: r) = 0) : tokenL (c :: r) = if c = 58 ∧ 0 < identL r then some (⟨2, lowL (r.take (identL r)), 0⟩, 1 + identL r)
    else if isDig c = true then (numL (c :: r)).map fun p => (⟨3, [], p.1⟩, p.2)
    else if c = 34 then (quoL r).map fun p => (⟨4, p.1, 0⟩, 1 + p.2)
    else if isMk c = true then some (⟨5, [c], 0⟩, 1) else none := by
  unfold tokenL
  rw [h, if_neg (fun hh => absurd hh.1 (by decide)), if_neg (by decide)]
theorem spaceL_le {l : List UInt8} {n : Nat} (h : spaceL l = some n) : n ≤ l.length := by
  cases l with
  | nil => injection h with h; simp; omega
  | cons c r =>
    rw [spaceL_cons] at h
    split at h
    · injection h with h; rw [List.length_cons]; omega
    · split at h
      · injection h with h; rw [← h]; exact lnL_le _
      · split at h
        · cases hr : cmL r.tail with
          | none => rw [hr] at h; cases h
          | some m =>
            rw [hr] at h
            injection h with h
            have h : m + 4 = n := h
            have := cmL_le _ m hr
            rw [List.length_tail] at this
            rw [List.length_cons]; omega
        · injection h with h; omega
theorem Run.det {l : List UInt8} {k : Nat} {ts ts' : List (Tok × Nat)} {e e' : Option Nat} (h : Run l k ts e) : Run l k ts' e' → ts = ts' ∧ e = e' := by
  induction h generalizing ts' e' with
  | fin k =>
    intro h'
    cases h' with
    | fin => exact ⟨rfl, rfl⟩
    | sp h1 h2 h3 => simp [spaceL] at h2; omega
    | tok h1 => exact absurd rfl h1
    | bad h1 => exact absurd rfl h1.1
  | sp h1 h2 h3 ih =>
    intro h'
    cases h' with
    | fin => simp [spaceL] at h2; omega
    | sp h1' h2' h3' =>
      rw [h2] at h2'
      injection h2' with h2'
      subst h2'
      exact ih h3'
    | tok _ h2' => rw [h2] at h2'; injection h2' with h2'; omega
    | bad h1' =>
      rcases h1'.2 with h | h
      · rw [h2] at h; cases h
      · have := h.1; rw [h2] at this; injection this with this; omega
  | tok h0 h1 h2 h3 ih =>
    intro h'
    cases h' with
    | fin => exact absurd rfl h0
    | sp h1' h2' h3' => rw [h1] at h2'; injection h2' with h2'; omega
    | tok _ _ h2' h3' =>
      rw [h2] at h2'
      injection h2' with h2'
      injection h2' with ha hb
      subst ha; subst hb
      obtain ⟨e1, e2⟩ := ih h3'
      exact ⟨by rw [e1], e2⟩
    | bad h1' =>
      rcases h1'.2 with h | h
      · rw [h1] at h; cases h
      · have := h.2; rw [h2] at this; cases this
  | bad h =>
    intro h'
    cases h' with
    | fin => exact absurd rfl h.1
    | sp h1' h2' h3' =>
      rcases h.2 with h | h
      · rw [h2'] at h; cases h
      · have := h.1; rw [h2'] at this; injection this with this; omega
    | tok _ h1' h2' h3' =>
      rcases h.2 with h | h
      · rw [h1'] at h; cases h
      · have := h.2; rw [h2'] at this; cases this
    | bad h1' => exact ⟨rfl, rfl⟩
end Lx
