/- Plain: laws of tokens. -/
import Derived.Test.YtilccofdphohiaaGreatDoorTkP
namespace Tk
open Go Go.RowKit Pk Su Fo

theorem clo_nil (close : UInt8) (d : Nat) : clo close d [] = none := by unfold clo; rfl
theorem clo_cons (close : UInt8) (d : Nat) (c : UInt8) (R : List UInt8) : clo close d (c :: R) =
    if c = 92 then (clo close d R.tail).map (· + 2)
    else if c = close then (if d = 1 then some 1 else (clo close (d - 1) R).map (· + 1))
    else if c = 40 ∧ close = 41 then (clo close (d + 1) R).map (· + 1)
    else (clo close d R).map (· + 1) := by
  cases R with
  | nil =>
    show clo close d [c] = _
    conv => lhs; unfold clo
    rw [show ([] : List UInt8).tail = [] from rfl, clo_nil, clo_nil, clo_nil]
    by_cases h1 : c = 92
    · rw [if_pos h1, if_pos h1]; rfl
    · rw [if_neg h1, if_neg h1]
      by_cases h2 : c = close
      · rw [if_pos h2, if_pos h2]
        by_cases h3 : d = 1
        · rw [if_pos h3, if_pos h3]
        · rw [if_neg h3, if_neg h3]; rfl
      · rw [if_neg h2, if_neg h2]
        split <;> rfl
  | cons e r => conv => lhs; unfold clo
                rfl
theorem map_some {x : Option Nat} {k m : Nat} (h : x.map (· + k) = some m) : ∃ q, x = some q ∧ m = q + k := by
  cases x with
  | none => cases h
  | some q => injection h with h; exact ⟨q, rfl, h.symm⟩
/-- what closes is found again behind a cut, and where more follows -/
theorem clo_same (close : UInt8) : ∀ (n : Nat) (l : List UInt8), l.length ≤ n → ∀ d m, clo close d l = some m → ∀ b, clo close d (l.take m ++ b) = some m
  | _, [], _, d, m, h, _ => by rw [clo_nil] at h; cases h
  | 0, _ :: _, hn, _, _, _, _ => by simp at hn
  | n + 1, c :: R, hn, d, m, h, b => by
    rw [List.length_cons] at hn
    rw [clo_cons] at h
    by_cases h1 : c = 92
    · rw [if_pos h1] at h
      obtain ⟨q, hq, rfl⟩ := map_some h
      cases R with
      | nil => rw [show ([] : List UInt8).tail = [] from rfl, clo_nil] at hq; cases hq
      | cons e r =>
        have ih := clo_same close n r (by rw [List.length_cons] at hn; omega) d q hq b
        rw [List.take_succ_cons, List.take_succ_cons, List.cons_append, List.cons_append, clo_cons, if_pos h1]
        show (clo close d (r.take q ++ b)).map (· + 2) = _
        rw [ih]; rfl
    · rw [if_neg h1] at h
      by_cases h2 : c = close
      · rw [if_pos h2] at h
        by_cases h3 : d = 1
        · rw [if_pos h3] at h
          injection h with h
          subst h
          rw [List.take_succ_cons, List.cons_append, clo_cons, if_neg h1, if_pos h2, if_pos h3]
        · rw [if_neg h3] at h
          obtain ⟨q, hq, rfl⟩ := map_some h
          have ih := clo_same close n R (by omega) _ q hq b
          rw [List.take_succ_cons, List.cons_append, clo_cons, if_neg h1, if_pos h2, if_neg h3, ih]; rfl
      · rw [if_neg h2] at h
        by_cases h4 : c = 40 ∧ close = 41
        · rw [if_pos h4] at h
          obtain ⟨q, hq, rfl⟩ := map_some h
          have ih := clo_same close n R (by omega) _ q hq b
          rw [List.take_succ_cons, List.cons_append, clo_cons, if_neg h1, if_neg h2, if_pos h4, ih]; rfl
        · rw [if_neg h4] at h
          obtain ⟨q, hq, rfl⟩ := map_some h
          have ih := clo_same close n R (by omega) _ q hq b
          rw [List.take_succ_cons, List.cons_append, clo_cons, if_neg h1, if_neg h2, if_neg h4, ih]; rfl
theorem clo_app {close : UInt8} {d m : Nat} {l : List UInt8} (h : clo close d l = some m) (b : List UInt8) : clo close d (l ++ b) = some m := by
  have := clo_same close _ l (Nat.le_refl _) d m h (l.drop m ++ b)
  rwa [← List.append_assoc, List.take_append_drop] at this
theorem clo_take {close : UInt8} {d m : Nat} {l : List UInt8} (h : clo close d l = some m) : clo close d (l.take m) = some m := by
  have := clo_same close _ l (Nat.le_refl _) d m h []
  rwa [List.append_nil] at this
theorem cls_some {k : Nat} {close c : UInt8} {r : List UInt8} {m : Nat} (h : clo close 1 r = some m) : cls k close (c :: r) = (k, m + 1) := by
  show (match clo close 1 r with | some m => (k, m + 1) | none => (7, (c :: r).length)) = _
  rw [h]
theorem cls_none {k : Nat} {close c : UInt8} {r : List UInt8} (h : clo close 1 r = none) : cls k close (c :: r) = (7, (c :: r).length) := by
  show (match clo close 1 r with | some m => (k, m + 1) | none => (7, (c :: r).length)) = _
  rw [h]
theorem take_tw (p : UInt8 → Bool) (l : List UInt8) : l.take (l.takeWhile p).length = l.takeWhile p := (List.prefix_iff_eq_take.1 (List.takeWhile_prefix p)).symm
theorem tw_tw (p : UInt8 → Bool) (l : List UInt8) : (l.takeWhile p).takeWhile p = l.takeWhile p := by
  have : ∀ x ∈ l.takeWhile p, p x = true := fun x hx => List.all_eq_true.1 (List.all_takeWhile) x hx
  have h := List.takeWhile_append_of_pos (l₂ := []) this
  rwa [List.append_nil, List.takeWhile_nil, List.append_nil] at h
theorem cls_take (k : Nat) (close c : UInt8) (r : List UInt8) : cls k close ((c :: r).take (cls k close (c :: r)).2) = cls k close (c :: r) := by
  cases h : clo close 1 r with
  | none =>
    rw [cls_none h]
    show cls k close ((c :: r).take (c :: r).length) = _
    rw [List.take_length, cls_none h]
  | some m =>
    rw [cls_some h]
    show cls k close ((c :: r).take (m + 1)) = _
    rw [List.take_succ_cons, cls_some (clo_take h)]
/-- a token's own text is that token -/
theorem fr_take {l : List UInt8} (h : l ≠ []) : fr (l.take (fr l).2) = fr l := by
  have hr := fr_rng h
  cases l with
  | nil => exact absurd rfl h
  | cons c r =>
    obtain ⟨k, hk⟩ : ∃ k, (fr (c :: r)).2 = k + 1 := ⟨(fr (c :: r)).2 - 1, by omega⟩
    have hf := fr_cons c r
    by_cases h1 : blk c = true
    · rw [if_pos h1] at hf
      have e : (c :: r).take (fr (c :: r)).2 = (c :: r).takeWhile blk := by rw [hf]; exact take_tw _ _
      rw [e, hf]
      rw [hk, List.take_succ_cons] at e
      rw [← e, fr_cons, if_pos h1, e, tw_tw]
    · rw [if_neg h1] at hf
      by_cases h2 : c = 40
      · rw [if_pos h2] at hf
        have := cls_take 3 41 c r
        rw [← hf, hk, List.take_succ_cons] at this
        rw [hk, List.take_succ_cons, fr_cons, if_neg h1, if_pos h2, this]
      · rw [if_neg h2] at hf
        by_cases h3 : c = 34
        · rw [if_pos h3] at hf
          have := cls_take 2 34 c r
          rw [← hf, hk, List.take_succ_cons] at this
          rw [hk, List.take_succ_cons, fr_cons, if_neg h1, if_neg h2, if_pos h3, this]
        · rw [if_neg h3] at hf
          by_cases h4 : c = 91
          · rw [if_pos h4] at hf
            have := cls_take 5 93 c r
            rw [← hf, hk, List.take_succ_cons] at this
            rw [hk, List.take_succ_cons, fr_cons, if_neg h1, if_neg h2, if_neg h3, if_pos h4, this]
          · rw [if_neg h4] at hf
            by_cases h5 : spec c = true
            · rw [if_pos h5] at hf
              rw [hf]
              show fr [c] = _
              rw [fr_cons, if_neg h1, if_neg h2, if_neg h3, if_neg h4, if_pos h5]
            · rw [if_neg h5] at hf
              by_cases h6 : atm c = true
              · rw [if_pos h6] at hf
                have e : (c :: r).take (fr (c :: r)).2 = (c :: r).takeWhile atm := by rw [hf]; exact take_tw _ _
                rw [e, hf]
                rw [hk, List.take_succ_cons] at e
                rw [← e, fr_cons, if_neg h1, if_neg h2, if_neg h3, if_neg h4, if_neg h5, if_pos h6, e, tw_tw]
              · rw [if_neg h6] at hf
                rw [hf]
                show fr [c] = _
                rw [fr_cons, if_neg h1, if_neg h2, if_neg h3, if_neg h4, if_neg h5, if_neg h6]
theorem tok_l (l : List UInt8) : (tok l).text.data.toList = l.take (fr l).2 := by simp [tok]
theorem sc_tok {l : List UInt8} (h : l ≠ []) : sc (tok l).text.data.toList = [tok l] := by
  have hr := fr_rng h
  have hn : (tok l).text.data.toList ≠ [] := by
    rw [tok_l]
    intro e
    have := congrArg List.length e
    rw [List.length_take, List.length_nil] at this
    omega
  have e := fr_take h
  have e2 : (l.take (fr l).2).take (fr l).2 = l.take (fr l).2 := by rw [List.take_take, Nat.min_self]
  rw [sc_cons hn, tok_l, e]
  have e3 : (l.take (fr l).2).drop (fr l).2 = [] := List.drop_eq_nil_of_le (by rw [List.length_take]; omega)
  rw [e3, sc_nil]
  unfold tok
  rw [e, e2]
theorem sc_mem : ∀ (n : Nat) (l : List UInt8), l.length ≤ n → ∀ x ∈ sc l, ∃ t, t ≠ [] ∧ x = tok t := by
  intro n
  induction n with
  | zero => intro l h x hx; have : l = [] := List.eq_nil_of_length_eq_zero (by omega); subst this; cases hx
  | succ n ih =>
    intro l h x hx
    by_cases he : l = []
    · subst he; cases hx
    · have hw := fr_rng he
      rw [sc_cons he] at hx
      rcases List.mem_cons.1 hx with rfl | hx
      · exact ⟨l, he, rfl⟩
      · exact ih _ (by rw [List.length_drop]; omega) x hx
theorem cls_kind (k : Nat) (close : UInt8) (l : List UInt8) : (cls k close l).1 = k ∨ (cls k close l).1 = 7 := by
  cases l with
  | nil => exact .inr (by unfold cls; rw [List.drop_nil, clo_nil])
  | cons c r =>
    cases h : clo close 1 r with
    | none => rw [cls_none h]; exact .inr rfl
    | some m => rw [cls_some h]; exact .inl rfl
theorem fr_kind (l : List UInt8) : 1 ≤ (fr l).1 ∧ (fr l).1 ≤ 7 := by
  cases l with
  | nil => exact ⟨by decide, by decide⟩
  | cons c r =>
    rw [fr_cons]
    split
    · exact ⟨show 1 ≤ 6 by decide, show 6 ≤ 7 by decide⟩
    · split
      · rcases cls_kind 3 41 (c :: r) with h | h <;> rw [h] <;> decide
      · split
        · rcases cls_kind 2 34 (c :: r) with h | h <;> rw [h] <;> decide
        · split
          · rcases cls_kind 5 93 (c :: r) with h | h <;> rw [h] <;> decide
          · split
            · exact ⟨show 1 ≤ 4 by decide, show 4 ≤ 7 by decide⟩
            · split
              · exact ⟨show 1 ≤ 1 by decide, show 1 ≤ 7 by decide⟩
              · exact ⟨show 1 ≤ 7 by decide, show 7 ≤ 7 by decide⟩
/-- what begins a token of a kind that goes on -/
theorem fr_blank {c : UInt8} {r : List UInt8} (h : (fr (c :: r)).1 = 6) : blk c = true := by
  by_cases h1 : blk c = true
  · exact h1
  · rw [fr_cons, if_neg h1] at h
    split at h
    · rcases cls_kind 3 41 (c :: r) with e | e <;> rw [e] at h <;> cases h
    · split at h
      · rcases cls_kind 2 34 (c :: r) with e | e <;> rw [e] at h <;> cases h
      · split at h
        · rcases cls_kind 5 93 (c :: r) with e | e <;> rw [e] at h <;> cases h
        · split at h
          · cases h
          · split at h <;> cases h
theorem fr_atom {c : UInt8} {r : List UInt8} (h : (fr (c :: r)).1 = 1) : atm c = true ∧ blk c = false := by
  by_cases h1 : blk c = true
  · rw [fr_cons, if_pos h1] at h; cases h
  · refine ⟨?_, by simpa using h1⟩
    rw [fr_cons, if_neg h1] at h
    split at h
    · rcases cls_kind 3 41 (c :: r) with e | e <;> rw [e] at h <;> cases h
    · split at h
      · rcases cls_kind 2 34 (c :: r) with e | e <;> rw [e] at h <;> cases h
      · split at h
        · rcases cls_kind 5 93 (c :: r) with e | e <;> rw [e] at h <;> cases h
        · split at h
          · cases h
          · split at h
            · assumption
            · cases h
theorem tw_next (p : UInt8 → Bool) : ∀ (l : List UInt8) (c : UInt8) (r : List UInt8), l.drop (l.takeWhile p).length = c :: r → p c = false
  | [], _, _, h => by simp at h
  | a :: l, c, r, h => by
    by_cases ha : p a = true
    · rw [List.takeWhile_cons, if_pos ha, List.length_cons, List.drop_succ_cons] at h
      exact tw_next p l c r h
    · rw [List.takeWhile_cons, if_neg ha] at h
      simp only [List.length_nil, List.drop_zero] at h
      injection h with h _
      rw [← h]; simpa using ha
/-- no two tokens of white space, nor two atoms, side by side -/
theorem fr_adj {l : List UInt8} (h : l ≠ []) (h2 : l.drop (fr l).2 ≠ []) (hk : (fr l).1 = (fr (l.drop (fr l).2)).1) : (fr l).1 ≠ 6 ∧ (fr l).1 ≠ 1 := by
  cases l with
  | nil => exact absurd rfl h
  | cons c r =>
    cases hd : (c :: r).drop (fr (c :: r)).2 with
    | nil => exact absurd hd h2
    | cons e t =>
      rw [hd] at hk
      refine ⟨fun h6 => ?_, fun h1 => ?_⟩
      · have hb := fr_blank h6
        have he := fr_blank (hk ▸ h6)
        have hf := fr_cons c r
        rw [if_pos hb] at hf
        rw [hf] at hd
        rw [tw_next blk _ _ _ hd] at he
        cases he
      · obtain ⟨ha, hb⟩ := fr_atom h1
        obtain ⟨he, -⟩ := fr_atom (hk ▸ h1)
        have hf : fr (c :: r) = (1, ((c :: r).takeWhile atm).length) := by
          have hf := fr_cons c r
          rw [if_neg (by rw [hb]; decide)] at hf
          rw [hf] at h1 ⊢
          split at h1
          · rcases cls_kind 3 41 (c :: r) with e | e <;> rw [e] at h1 <;> cases h1
          · rename_i g1
            rw [if_neg g1]
            split at h1
            · rcases cls_kind 2 34 (c :: r) with e | e <;> rw [e] at h1 <;> cases h1
            · rename_i g2
              rw [if_neg g2]
              split at h1
              · rcases cls_kind 5 93 (c :: r) with e | e <;> rw [e] at h1 <;> cases h1
              · rename_i g3
                rw [if_neg g3]
                split at h1
                · cases h1
                · rename_i g4
                  rw [if_neg g4, if_pos ha]
        rw [hf] at hd
        rw [tw_next atm _ _ _ hd] at he
        cases he
/-- what follows does not change a token that is closed -/
theorem tw_app (p : UInt8 → Bool) : ∀ (l b : List UInt8), (l.takeWhile p).length < l.length → (l ++ b).takeWhile p = l.takeWhile p
  | [], _, h => by simp at h
  | a :: l, b, h => by
    rw [List.cons_append]
    by_cases ha : p a = true
    · rw [List.takeWhile_cons, if_pos ha, List.length_cons, List.length_cons] at h
      rw [List.takeWhile_cons, if_pos ha, List.takeWhile_cons, if_pos ha, tw_app p l b (by omega)]
    · rw [List.takeWhile_cons, if_neg ha, List.takeWhile_cons, if_neg ha]
theorem cls_app (k : Nat) (close c : UInt8) (r b : List UInt8) (h : (cls k close (c :: r)).2 < (c :: r).length ∨ (cls k close (c :: r)).1 ≠ 7) : cls k close (c :: (r ++ b)) = cls k close (c :: r) := by
  cases hc : clo close 1 r with
  | none =>
    rw [cls_none hc] at h
    rcases h with h | h
    · exact absurd h (Nat.lt_irrefl _)
    · exact absurd rfl h
  | some m => rw [cls_some hc, cls_some (clo_app hc b)]
theorem fr_app {a : List UInt8} (b : List UInt8) (h : a ≠ []) (hx : (fr a).2 < a.length ∨ ((fr a).1 ≠ 1 ∧ (fr a).1 ≠ 6 ∧ (fr a).1 ≠ 7)) : fr (a ++ b) = fr a := by
  cases a with
  | nil => exact absurd rfl h
  | cons c r =>
    rw [List.cons_append, fr_cons, fr_cons]
    rw [fr_cons] at hx
    by_cases h1 : blk c = true
    · rw [if_pos h1] at hx ⊢
      rw [if_pos h1]
      rcases hx with hx | hx
      · have := tw_app blk (c :: r) b hx
        rw [List.cons_append] at this
        rw [this]
      · exact absurd rfl hx.2.1
    · rw [if_neg h1] at hx ⊢
      rw [if_neg h1]
      by_cases h2 : c = 40
      · rw [if_pos h2] at hx ⊢
        rw [if_pos h2]
        exact cls_app 3 41 c r b (hx.imp id fun h => h.2.2)
      · rw [if_neg h2] at hx ⊢
        rw [if_neg h2]
        by_cases h3 : c = 34
        · rw [if_pos h3] at hx ⊢
          rw [if_pos h3]
          exact cls_app 2 34 c r b (hx.imp id fun h => h.2.2)
        · rw [if_neg h3] at hx ⊢
          rw [if_neg h3]
          by_cases h4 : c = 91
          · rw [if_pos h4] at hx ⊢
            rw [if_pos h4]
            exact cls_app 5 93 c r b (hx.imp id fun h => h.2.2)
          · rw [if_neg h4] at hx ⊢
            rw [if_neg h4]
            by_cases h5 : spec c = true
            · rw [if_pos h5, if_pos h5]
            · rw [if_neg h5] at hx ⊢
              rw [if_neg h5]
              by_cases h6 : atm c = true
              · rw [if_pos h6] at hx ⊢
                rw [if_pos h6]
                rcases hx with hx | hx
                · have := tw_app atm (c :: r) b hx
                  rw [List.cons_append] at this
                  rw [this]
                · exact absurd rfl hx.1
              · rw [if_neg h6, if_neg h6]
theorem sc_parts : ∀ (n : Nat) (a b : List UInt8), a.length ≤ n → ∀ x, (sc a).getLast? = some x → x.kind ≠ 1 → x.kind ≠ 6 → x.kind ≠ 7 → sc (a ++ b) = sc a ++ sc b := by
  intro n
  induction n with
  | zero => intro a b h x hx; have : a = [] := List.eq_nil_of_length_eq_zero (by omega); subst this; cases hx
  | succ n ih =>
    intro a b h x hx k1 k6 k7
    by_cases he : a = []
    · subst he; cases hx
    · have hw := fr_rng he
      rw [sc_cons he] at hx ⊢
      have hne : a ++ b ≠ [] := fun e => he (List.append_eq_nil_iff.1 e).1
      by_cases hr : a.drop (fr a).2 = []
      · rw [hr, sc_nil] at hx ⊢
        have hx2 : tok a = x := by simpa using hx
        have hlen : (fr a).2 = a.length := by
          have := congrArg List.length hr
          rw [List.length_drop, List.length_nil] at this; omega
        subst hx2
        have hf := fr_app b he (.inr ⟨k1, k6, k7⟩)
        have ht : tok (a ++ b) = tok a := by
          unfold tok
          rw [hf, hlen, List.take_left, List.take_length]
        rw [sc_cons hne, ht, hf, hlen, List.drop_left]; rfl
      · have hlt : (fr a).2 < a.length := by
          by_cases hl : (fr a).2 < a.length
          · exact hl
          · exact absurd (List.drop_eq_nil_of_le (by omega)) hr
        have hf := fr_app b he (.inl hlt)
        have ht : tok (a ++ b) = tok a := by
          unfold tok
          rw [hf, List.take_append_of_le_length (by omega)]
        have hx2 : (sc (a.drop (fr a).2)).getLast? = some x := by
          rw [sc_cons hr] at hx ⊢
          rw [List.getLast?_cons_cons] at hx
          exact hx
        have := ih (a.drop (fr a).2) b (by rw [List.length_drop]; omega) x hx2 k1 k6 k7
        rw [sc_cons hne, ht, hf, List.drop_append_of_le_length (by omega), this]; rfl
/-- quoting -/
theorem clo_rep : ∀ s : List UInt8, clo 34 1 (repL s ++ [34]) = some ((repL s).length + 1)
  | [] => by decide
  | c :: s => by
    have ih := clo_rep s
    have e : repL (c :: s) = esc c ++ repL s := List.flatMap_cons ..
    rw [e, List.append_assoc]
    unfold esc
    by_cases h : c = 92 ∨ c = 34 ∨ c = 10 ∨ c = 13
    · rw [if_pos h]
      show clo 34 1 (92 :: (c :: (repL s ++ [34]))) = _
      rw [clo_cons, if_pos rfl]
      show (clo 34 1 (repL s ++ [34])).map (· + 2) = _
      rw [ih]
      simp
    · rw [if_neg h]
      show clo 34 1 (c :: (repL s ++ [34])) = _
      rw [clo_cons, if_neg (fun x => h (.inl x)), if_neg (fun x => h (.inr (.inl x))), if_neg (fun x => by cases x.2), ih]
      simp
theorem ue_rep : ∀ s : List UInt8, ue false (repL s) = s
  | [] => rfl
  | c :: s => by
    have ih := ue_rep s
    have e : repL (c :: s) = esc c ++ repL s := List.flatMap_cons ..
    rw [e]
    unfold esc
    by_cases h : c = 92 ∨ c = 34 ∨ c = 10 ∨ c = 13
    · rw [if_pos h]
      show ue false (92 :: c :: repL s) = _
      unfold ue
      rw [if_pos rfl]
      unfold ue
      rw [ih]
    · rw [if_neg h]
      show ue false (c :: repL s) = _
      unfold ue
      rw [if_neg (fun x => h (.inl x)), if_neg (fun x => by rcases x with x | x; exact h (.inr (.inr (.inl x))); exact h (.inr (.inr (.inr x)))), ih]
theorem rep_length : ∀ s : List UInt8, s.length ≤ (repL s).length ∧ (repL s).length ≤ 2 * s.length
  | [] => ⟨Nat.le_refl _, Nat.le_refl _⟩
  | c :: s => by
    obtain ⟨h1, h2⟩ := rep_length s
    have e : repL (c :: s) = esc c ++ repL s := List.flatMap_cons ..
    rw [e, List.length_append, List.length_cons]
    unfold esc
    split
    · simp only [List.length_cons, List.length_nil]; omega
    · simp only [List.length_cons, List.length_nil]; omega
def alt : List El → Bool
  | [] => false
  | [x] => x.kind == 1
  | x :: y :: r => x.kind == 1 && (y.text.data.toList == [32] && alt r)
theorem atm_not {c : UInt8} (h : atm c = true) : blk c = false ∧ c ≠ 40 ∧ c ≠ 34 ∧ c ≠ 91 ∧ spec c = false ∧ c ≠ 32 := by
  have hd : ∀ n : Nat, n < 256 → atm (UInt8.ofNat n) = true → blk (UInt8.ofNat n) = false ∧ UInt8.ofNat n ≠ 40 ∧ UInt8.ofNat n ≠ 34 ∧ UInt8.ofNat n ≠ 91 ∧ spec (UInt8.ofNat n) = false ∧ UInt8.ofNat n ≠ 32 := by decide +kernel
  have := hd c.toNat c.toNat_lt
  rw [UInt8.ofNat_toNat] at this
  exact this h
theorem fr_atoms {c : UInt8} {r : List UInt8} (h : atm c = true) : fr (c :: r) = (1, ((c :: r).takeWhile atm).length) := by
  obtain ⟨h1, h2, h3, h4, h5, -⟩ := atm_not h
  rw [fr_cons, if_neg (by rw [h1]; decide), if_neg h2, if_neg h3, if_neg h4, if_neg (by rw [h5]; decide), if_pos h]
theorem pl_split : ∀ (l : List UInt8) (w : Bool), plF w l = true → (w = true ∨ ∃ c r, l = c :: r ∧ atm c = true) ∧
    (l.drop (l.takeWhile atm).length = [] ∨ ∃ t, l.drop (l.takeWhile atm).length = 32 :: t ∧ plF false t = true)
  | [], w, h => ⟨.inl h, .inl rfl⟩
  | c :: r, w, h => by
    unfold plF at h
    by_cases hc : c = 32
    · rw [if_pos hc, Bool.and_eq_true] at h
      have ha : atm c = false := by rw [hc]; decide
      refine ⟨.inl h.1, .inr ⟨r, ?_, h.2⟩⟩
      rw [List.takeWhile_cons, if_neg (by rw [ha]; decide), hc]; rfl
    · rw [if_neg hc, Bool.and_eq_true] at h
      obtain ⟨-, i2⟩ := pl_split r true h.2
      refine ⟨.inr ⟨c, r, rfl, h.1⟩, ?_⟩
      rw [List.takeWhile_cons, if_pos h.1, List.length_cons, List.drop_succ_cons]
      exact i2
theorem sc_plain : ∀ (n : Nat) (l : List UInt8), l.length ≤ n → plainQ l = true → alt (sc l) = true := by
  intro n
  induction n with
  | zero => intro l h hp; have : l = [] := List.eq_nil_of_length_eq_zero (by omega); subst this; cases hp
  | succ n ih =>
    intro l h hp
    obtain ⟨h1, h2⟩ := pl_split l false hp
    rcases h1 with h1 | ⟨c, r, rfl, hc⟩
    · cases h1
    · have hf := fr_atoms (r := r) hc
      have hk : (tok (c :: r)).kind = 1 := by unfold tok; rw [hf]
      rw [sc_cons (by simp), hf]
      show alt (tok (c :: r) :: sc ((c :: r).drop ((c :: r).takeWhile atm).length)) = true
      rcases h2 with h2 | ⟨t, h2, h3⟩
      · rw [h2, sc_nil]
        unfold alt; rw [hk]; rfl
      · rw [h2]
        obtain ⟨g1, -⟩ := pl_split t false h3
        rcases g1 with g1 | ⟨e, t2, rfl, he⟩
        · cases g1
        · have hb := (atm_not he).1
          have hfb : fr (32 :: e :: t2) = (6, 1) := by
            rw [fr_cons, if_pos (by decide), List.takeWhile_cons, if_pos (by decide), List.takeWhile_cons, if_neg (by rw [hb]; decide)]; rfl
          have htx : (tok (32 :: e :: t2)).text.data.toList = [32] := by rw [tok_l, hfb]; rfl
          rw [sc_cons (by simp), hfb]
          show alt (tok (c :: r) :: tok (32 :: e :: t2) :: sc (e :: t2)) = true
          have hl := congrArg List.length h2
          rw [List.length_drop] at hl
          have := ih (e :: t2) (by rw [List.length_cons] at hl h ⊢; rw [List.length_cons, List.length_cons] at hl; omega) h3
          unfold alt
          rw [hk, htx, this]; rfl
theorem quote_law (s : List UInt8) (h : plainQ s = false) : fr (quoteL s) = (2, (quoteL s).length) ∧ valL 2 (quoteL s) = s ∧ (quoteL s).length ≤ 2 * s.length + 2 ∧ quoteL s ≠ s := by
  have e : quoteL s = 34 :: (repL s ++ [34]) := by unfold quoteL; rw [if_neg (by rw [h]; decide)]; rfl
  obtain ⟨l1, l2⟩ := rep_length s
  have hl : (34 :: (repL s ++ [34])).length = (repL s).length + 2 := by simp
  rw [e]
  refine ⟨?_, ?_, by omega, fun he => ?_⟩
  · rw [fr_cons, if_neg (by decide), if_neg (by decide), if_pos rfl, cls_some (clo_rep s), hl]
  · unfold valL
    rw [if_pos ⟨.inl rfl, by omega⟩, hl]
    have : ((34 :: (repL s ++ [34])).drop 1).take ((repL s).length + 2 - 2) = repL s := by
      rw [List.drop_succ_cons, List.drop_zero, Nat.add_sub_cancel]
      exact List.take_left
    rw [this, ue_rep]
  · have := congrArg List.length he
    omega
end Tk
