/- Plain: two lists joined by a comma; blanks and comments between the tokens. -/
import Derived.Test.YtilccofdphohiaaGreatDoorAdPl
namespace Ad
open Go Go.RowKit Pk Su Fo Tk

/-- a comment, a quoted string or a literal that is left open -/
def bad3 (t : El) : Bool := t.kind == 7 && (match t.text.data.toList with | c :: _ => c == 40 || c == 34 || c == 91 | [] => false)
theorem tw_app2 (p : UInt8 → Bool) : ∀ (l b : List UInt8), (∀ c r, b = c :: r → p c = false) → (l ++ b).takeWhile p = l.takeWhile p
  | [], b, h => by
    cases b with
    | nil => rfl
    | cons c r => rw [List.nil_append, List.takeWhile_cons, if_neg (by rw [h c r rfl]; decide)]; rfl
  | a :: l, b, h => by
    rw [List.cons_append, List.takeWhile_cons, List.takeWhile_cons]
    split
    · rw [tw_app2 p l b h]
    · rfl
theorem cls_bad {k : Nat} {close c : UInt8} {r : List UInt8} (hc : clo close 1 r = none) (h3 : (c == 40 || c == 34 || c == 91) = true) (hf : fr (c :: r) = cls k close (c :: r)) : bad3 (tok (c :: r)) = true := by
  unfold bad3
  have h1 : (tok (c :: r)).kind = 7 := by unfold tok; rw [hf, cls_none hc]
  have h2 : (tok (c :: r)).text.data.toList = c :: r := by rw [tok_l, hf, cls_none hc]; exact List.take_length
  rw [h1, h2]
  exact h3
theorem fr_app2 {a : List UInt8} (b : List UInt8) (h : a ≠ []) (hb : NA b) (hb2 : (fr a).1 = 6 → ∀ c r, b = c :: r → blk c = false) (hbad : bad3 (tok a) = false) : fr (a ++ b) = fr a := by
  cases a with
  | nil => exact absurd rfl h
  | cons c r =>
    have hca : ∀ k close, (c == 40 || c == 34 || c == 91) = true → fr (c :: r) = cls k close (c :: r) → cls k close (c :: (r ++ b)) = cls k close (c :: r) := fun k close h3 hf => by
      cases hc : clo close 1 r with
      | none => rw [cls_bad hc h3 hf] at hbad; cases hbad
      | some m => rw [cls_some hc, cls_some (clo_app hc b)]
    have hfr := fr_cons c r
    rw [List.cons_append, fr_cons]
    by_cases h1 : blk c = true
    · rw [if_pos h1] at hfr ⊢
      rw [hfr] at hb2 ⊢
      have := tw_app2 blk (c :: r) b (hb2 rfl)
      rw [List.cons_append] at this
      rw [this]
    · rw [if_neg h1] at hfr ⊢
      by_cases h2 : c = 40
      · rw [if_pos h2] at hfr ⊢
        rw [hfr]
        exact hca 3 41 (by rw [h2]; rfl) hfr
      · rw [if_neg h2] at hfr ⊢
        by_cases h3 : c = 34
        · rw [if_pos h3] at hfr ⊢
          rw [hfr]
          exact hca 2 34 (by rw [h3]; rfl) hfr
        · rw [if_neg h3] at hfr ⊢
          by_cases h4 : c = 91
          · rw [if_pos h4] at hfr ⊢
            rw [hfr]
            exact hca 5 93 (by rw [h4]; rfl) hfr
          · rw [if_neg h4] at hfr ⊢
            by_cases h5 : spec c = true
            · rw [if_pos h5] at hfr ⊢
              rw [hfr]
            · rw [if_neg h5] at hfr ⊢
              by_cases h6 : atm c = true
              · rw [if_pos h6] at hfr ⊢
                rw [hfr]
                have := tw_app2 atm (c :: r) b (fun x y e => hb x y e)
                rw [List.cons_append] at this
                rw [this]
              · rw [if_neg h6] at hfr ⊢
                rw [hfr]
theorem sc_comma : ∀ (n : Nat) (s b : List UInt8), s.length ≤ n → (∀ x ∈ sc s, bad3 x = false) → NA b → (∀ c r, b = c :: r → blk c = false) → sc (s ++ b) = sc s ++ sc b := by
  intro n
  induction n with
  | zero => intro s b h _ _ _; have : s = [] := List.eq_nil_of_length_eq_zero (by omega); subst this; rfl
  | succ n ih =>
    intro s b h hx hb hb2
    by_cases he : s = []
    · subst he; rfl
    · have hw := fr_rng he
      rw [sc_cons he] at hx ⊢
      have hf := fr_app2 b he hb (fun _ => hb2) (hx _ (List.mem_cons_self ..))
      have hne : s ++ b ≠ [] := fun e => he (List.append_eq_nil_iff.1 e).1
      have ht : tok (s ++ b) = tok s := by
        unfold tok
        rw [hf, List.take_append_of_le_length hw.2]
      have := ih (s.drop (fr s).2) b (by rw [List.length_drop]; omega) (fun x hxx => hx x (List.mem_cons_of_mem _ hxx)) hb hb2
      rw [sc_cons hne, ht, hf, List.drop_append_of_le_length hw.2, this]; rfl
/-- inside an angle bracket behind these tokens -/
def insE : Bool → List El → Bool
  | i, [] => i
  | i, t :: r => insE (if i = true then !isT 62 t else isT 60 t) r
theorem insE_bare : ∀ (l : List El) (i : Bool), insE i (bareE l) = insE i l
  | [], _ => rfl
  | t :: r, i => by
    rw [bareE_cons]
    split
    · rw [insE, insE, insE_bare r]
    · rename_i hk
      have hk4 : ∀ b, isT b t = false := fun b => by
        unfold isT
        have : t.kind = 6 ∨ t.kind = 3 := by
          by_cases h6 : t.kind = 6
          · exact .inl h6
          · by_cases h3 : t.kind = 3
            · exact .inr h3
            · exact absurd (by rw [beq_eq_false_iff_ne.2 h6, beq_eq_false_iff_ne.2 h3]; rfl) hk
        rcases this with h | h <;> rw [h] <;> rfl
      rw [insE, insE_bare r, hk4, hk4]
      cases i <;> rfl
theorem pcs_f (cur : List El) (t : El) (r : List El) : pcs false cur (t :: r) = if isT 60 t = true then pcs true (cur ++ [t]) r else if isT 58 t = true then pcs false [] r else if (isT 44 t || isT 59 t) = true then cur :: pcs false [] r else pcs false (cur ++ [t]) r := rfl
theorem pcs_t (cur : List El) (t : El) (r : List El) : pcs true cur (t :: r) = pcs (!isT 62 t) (cur ++ [t]) r := rfl
theorem pcs_comma : ∀ (M : List El) (i : Bool) (cur R : List El), insE i M = false → pcs i cur (M ++ El.of 4 [44] :: R) = pcs i cur M ++ pcs false [] R
  | [], true, _, _, h => by cases h
  | [], false, cur, R, _ => by
    rw [List.nil_append, pcs_f, if_neg (show ¬ isT 60 (El.of 4 [44]) = true by decide), if_neg (show ¬ isT 58 (El.of 4 [44]) = true by decide), if_pos (show (isT 44 (El.of 4 [44]) || isT 59 (El.of 4 [44])) = true by decide)]; rfl
  | t :: M, true, cur, R, h => by
    rw [insE, if_pos rfl] at h
    rw [List.cons_append, pcs_t, pcs_t, pcs_comma M _ _ R h]
  | t :: M, false, cur, R, h => by
    rw [insE, if_neg (by decide)] at h
    rw [List.cons_append, pcs_f, pcs_f]
    by_cases h1 : isT 60 t = true
    · rw [h1] at h
      rw [if_pos h1, if_pos h1, pcs_comma M true _ R h]
    · have h9 : isT 60 t = false := by simpa using h1
      rw [h9] at h
      rw [if_neg h1, if_neg h1]
      by_cases h2 : isT 58 t = true
      · rw [if_pos h2, if_pos h2, pcs_comma M false _ R h]
      · rw [if_neg h2, if_neg h2]
        by_cases h3 : (isT 44 t || isT 59 t) = true
        · rw [if_pos h3, if_pos h3, pcs_comma M false _ R h]; rfl
        · rw [if_neg h3, if_neg h3, pcs_comma M false _ R h]
/-- what the law's open says -/
def openE : Bool → List El → Bool
  | i, [] => i
  | i, t :: r => if bad3 t = true then true else openE (if i = true then !isT 62 t else isT 60 t) r
theorem openE_no : ∀ (l : List El) (i : Bool), openE i l = false → (∀ x ∈ l, bad3 x = false) ∧ insE i l = false
  | [], i, h => ⟨fun x hx => absurd hx (List.not_mem_nil), h⟩
  | t :: r, i, h => by
    rw [openE] at h
    split at h
    · cases h
    · rename_i hb
      obtain ⟨h1, h2⟩ := openE_no r _ h
      refine ⟨fun x hx => ?_, h2⟩
      rcases List.mem_cons.1 hx with rfl | hx
      · simpa using hb
      · exact h1 x hx
theorem goodL_app (A B : List (List El)) : goodL (A ++ B) = goodL A ++ goodL B := List.filterMap_append ..
theorem allL_app (A B : List (List El)) : allL (A ++ B) = (allL A && allL B) := List.all_append ..
/-- THE LAW: two lists with a comma between them -/
theorem both_adr (s t : List UInt8) (h : openE false (sc s) = false) : parseA (s ++ 44 :: t) = ((parseA s).1 ++ (parseA t).1, (parseA s).2 && (parseA t).2) := by
  obtain ⟨h1, h2⟩ := openE_no _ _ h
  have hs : sc (s ++ 44 :: t) = sc s ++ El.of 4 [44] :: sc t := by
    rw [sc_comma _ s (44 :: t) (Nat.le_refl _) h1 (NA.cons (by decide)) (fun c r e => by injection e with e1 _; rw [← e1]; decide), sc_spec (by decide) (by decide) (by decide) (by decide) (by decide)]
  have hp : piecesL (s ++ 44 :: t) = piecesL s ++ piecesL t := by
    unfold piecesL
    rw [hs, bare_app, bareE_cons, if_pos (by rfl)]
    exact pcs_comma _ _ _ _ (by rw [insE_bare]; exact h2)
  unfold parseA
  rw [hp, goodL_app, allL_app]
/-! blanks -/
def cmt : List UInt8 := [40, 120, 32, 34, 121, 41]
theorem sc_cmt (b : List UInt8) : bareE (sc (cmt ++ b)) = bareE (sc b) := by
  have h0 : clo 41 1 [120, 32, 34, 121, 41] = some 5 := by decide
  have : sc (cmt ++ b) = El.of 3 cmt :: sc b := sc_front (by decide) (by
    show fr (40 :: ([120, 32, 34, 121, 41] ++ b)) = _
    rw [fr_cons, if_neg (by decide), if_pos rfl, cls_some (clo_app h0 b)]; rfl)
  rw [this, bareE_cons]; rfl
/-- the tokens with blanks, and a comment where f says so -/
def rend (f : Nat → Bool) : Nat → List El → List UInt8
  | _, [] => []
  | i, x :: r => (if f i = true then cmt else []) ++ 32 :: (x.text.data.toList ++ rend f (i + 1) r)
def okT (x : El) : Prop := ∃ t, t ≠ [] ∧ x = tok t
/-- only the last may be left open -/
def gdT : List El → Prop
  | [] => True
  | x :: r => (r = [] ∨ bad3 x = false) ∧ okT x ∧ gdT r
theorem bad3_all {l : List UInt8} (hl : l ≠ []) (h : bad3 (tok l) = true) : l.drop (fr l).2 = [] := by
  cases l with
  | nil => exact absurd rfl hl
  | cons c r =>
    unfold bad3 at h
    rw [Bool.and_eq_true, beq_iff_eq] at h
    obtain ⟨h7, h3⟩ := h
    have hr := fr_rng (l := c :: r) (by simp)
    have ht : (tok (c :: r)).text.data.toList = c :: r.take ((fr (c :: r)).2 - 1) := by
      rw [tok_l]
      obtain ⟨k, hk⟩ : ∃ k, (fr (c :: r)).2 = k + 1 := ⟨(fr (c :: r)).2 - 1, by omega⟩
      rw [hk, List.take_succ_cons]; rfl
    rw [ht] at h3
    have h7 : (fr (c :: r)).1 = 7 := h7
    have key : ∀ k close, k ≠ 7 → fr (c :: r) = cls k close (c :: r) → (c :: r).drop (fr (c :: r)).2 = [] := fun k close hk hf => by
      cases hc : clo close 1 r with
      | none => rw [hf, cls_none hc]; exact List.drop_length
      | some m => rw [hf, cls_some hc] at h7; exact absurd h7 hk
    have hfr := fr_cons c r
    have hb : blk c = false := by
      have h3 : (c == 40 || c == 34 || c == 91) = true := h3
      rw [Bool.or_eq_true, Bool.or_eq_true, beq_iff_eq, beq_iff_eq, beq_iff_eq] at h3
      rcases h3 with (rfl | rfl) | rfl <;> decide
    rw [if_neg (by rw [hb]; decide)] at hfr
    have h3 : (c == 40 || c == 34 || c == 91) = true := h3
    by_cases g1 : c = 40
    · rw [if_pos g1] at hfr; exact key 3 41 (by decide) hfr
    · rw [if_neg g1] at hfr
      by_cases g2 : c = 34
      · rw [if_pos g2] at hfr; exact key 2 34 (by decide) hfr
      · rw [if_neg g2] at hfr
        by_cases g3 : c = 91
        · rw [if_pos g3] at hfr; exact key 5 93 (by decide) hfr
        · rw [beq_eq_false_iff_ne.2 g1, beq_eq_false_iff_ne.2 g2, beq_eq_false_iff_ne.2 g3] at h3; cases h3
theorem gd_sc : ∀ (n : Nat) (l : List UInt8), l.length ≤ n → gdT (sc l) := by
  intro n
  induction n with
  | zero => intro l h; have : l = [] := List.eq_nil_of_length_eq_zero (by omega); subst this; exact True.intro
  | succ n ih =>
    intro l h
    by_cases he : l = []
    · subst he; exact True.intro
    · have hw := fr_rng he
      have := ih (l.drop (fr l).2) (by rw [List.length_drop]; omega)
      rw [sc_cons he]
      refine ⟨?_, ⟨l, he, rfl⟩, this⟩
      cases hb : bad3 (tok l) with
      | false => exact .inr rfl
      | true => left; rw [bad3_all he hb]; rfl
theorem gd_bare : ∀ l : List El, gdT l → gdT (bareE l)
  | [], _ => True.intro
  | x :: r, h => by
    obtain ⟨h1, h2, h3⟩ := h
    have ih := gd_bare r h3
    rw [bareE_cons]
    split
    · refine ⟨?_, h2, ih⟩
      rcases h1 with h1 | h1
      · left; rw [h1]; rfl
      · exact .inr h1
    · exact ih
theorem rend_NA (f : Nat → Bool) (i : Nat) (l : List El) : NA (rend f i l) := by
  cases l with
  | nil => exact NA.nil
  | cons x r =>
    unfold rend
    split
    · exact NA.cons (by decide)
    · exact NA.cons (by decide)
theorem sc_text {x : El} {b : List UInt8} (hx : okT x) (hb : NA b) (h6 : x.kind ≠ 6) (h : b = [] ∨ bad3 x = false) : sc (x.text.data.toList ++ b) = x :: sc b := by
  obtain ⟨t, ht, rfl⟩ := hx
  have h1 := sc_tok ht
  rcases h with rfl | h
  · rw [List.append_nil, h1]; rfl
  · have hr := fr_rng ht
    have hl : (tok t).text.data.toList = t.take (fr t).2 := tok_l t
    have hne : t.take (fr t).2 ≠ [] := fun e => by have := congrArg List.length e; rw [List.length_take, List.length_nil] at this; omega
    have hft := fr_take ht
    have htk : tok (t.take (fr t).2) = tok t := by
      unfold tok
      rw [hft, List.take_take, Nat.min_self]
    have hlen : (t.take (fr t).2).length = (fr t).2 := by rw [List.length_take]; omega
    rw [hl]
    have hk : (fr t).1 ≠ 6 := h6
    have hf := fr_app2 b hne hb (fun e => absurd (by rw [hft] at e; exact e) hk) (by rw [htk]; exact h)
    rw [sc_front (k := (fr t).1) hne (by rw [hf, hft, hlen])]
    rfl
theorem bare_rend (f : Nat → Bool) : ∀ (l : List El) (i : Nat), gdT l → bareE l = l → bareE (sc (rend f i l)) = l
  | [], _, _, _ => rfl
  | x :: r, i, h, hb => by
    obtain ⟨h1, h2, h3⟩ := h
    rw [bareE_cons] at hb
    have hk : (!(x.kind == 6) && !(x.kind == 3)) = true := by
      by_cases hk : (!(x.kind == 6) && !(x.kind == 3)) = true
      · exact hk
      · rw [if_neg hk] at hb
        have := congrArg List.length hb
        have h9 : (bareE r).length ≤ r.length := List.length_filter_le _ _
        rw [List.length_cons] at this; omega
    rw [if_pos hk] at hb
    have hr : bareE r = r := by injection hb
    have ih := bare_rend f r (i + 1) h3 hr
    have h6 : x.kind ≠ 6 := fun e => by rw [e] at hk; cases hk
    have hs : bareE (sc (32 :: (x.text.data.toList ++ rend f (i + 1) r))) = x :: r := by
      rw [bare_blk (by decide), sc_text h2 (rend_NA f _ r) h6 (by rcases h1 with h1 | h1; exact .inl (by rw [h1]; rfl); exact .inr h1), bareE_cons, if_pos hk, ih]
    unfold rend
    split
    · rw [sc_cmt, hs]
    · rw [List.nil_append, hs]
/-- THE LAW: blanks and comments between the tokens -/
theorem blanks_adr (f : Nat → Bool) (s : List UInt8) : parseA (rend f 0 (bareE (sc s))) = parseA s := by
  have h : bareE (sc (rend f 0 (bareE (sc s)))) = bareE (sc s) := bare_rend f _ 0 (gd_bare _ (gd_sc _ s (Nat.le_refl _))) (by
    unfold bareE
    rw [List.filter_filter]
    congr 1
    funext x
    simp)
  have hp : piecesL (rend f 0 (bareE (sc s))) = piecesL s := by unfold piecesL; rw [h]
  unfold parseA
  rw [hp]
end Ad
