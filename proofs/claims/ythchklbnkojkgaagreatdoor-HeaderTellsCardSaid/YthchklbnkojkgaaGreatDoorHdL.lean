/- Plain: header fields: what a field's bytes are, alone and among others. -/
import Derived.Test.YthchklbnkojkgaaGreatDoorHdP
namespace Hd
open Go Go.RowKit Pk

theorem lineN_cons10 (r : List UInt8) : lineN (10 :: r) = 1 := by unfold lineN; rw [if_pos rfl]
theorem lineN_cons {c : UInt8} (h : c ≠ 10) (r : List UInt8) : lineN (c :: r) = lineN r + 1 := by
  conv => lhs; unfold lineN
  rw [if_neg h]
def ends (l : List UInt8) : Prop := l.getLast? = some 10
theorem ends_cons {c : UInt8} {l : List UInt8} (h : ends l) : ends (c :: l) := by
  unfold ends at *
  cases l with
  | nil => cases h
  | cons a r => rw [List.getLast?_cons_cons]; exact h
theorem ends_ne {l : List UInt8} (h : ends l) : l ≠ [] := fun e => by unfold ends at h; rw [e] at h; cases h
theorem ends_app {a b : List UInt8} (h : ends b) : ends (a ++ b) := by
  unfold ends at *
  rw [List.getLast?_append, h]; rfl
/-- the first line by itself -/
theorem line_take : ∀ l : List UInt8, lineN (l.take (lineN l)) = lineN l
  | [] => rfl
  | c :: r => by
    by_cases hc : c = 10
    · subst hc; rw [lineN_cons10]; rfl
    · rw [lineN_cons hc, List.take_succ_cons, lineN_cons hc, line_take r]
theorem line_ends : ∀ l : List UInt8, ends (l.take (lineN l)) ∨ lineN l = l.length
  | [] => .inr rfl
  | c :: r => by
    by_cases hc : c = 10
    · subst hc; rw [lineN_cons10]; exact .inl rfl
    · rw [lineN_cons hc, List.take_succ_cons, List.length_cons]
      rcases line_ends r with h | h
      · exact .inl (ends_cons h)
      · exact .inr (by omega)
/-- a line that ends goes no further -/
theorem line_app : ∀ (w t : List UInt8), lineN w = w.length → ends w → lineN (w ++ t) = w.length
  | [], _, _, h => by cases h
  | c :: r, t, hl, he => by
    by_cases hc : c = 10
    · subst hc
      rw [lineN_cons10, List.length_cons] at hl
      rw [List.cons_append, lineN_cons10, List.length_cons]; exact hl
    · rw [lineN_cons hc, List.length_cons] at hl
      rw [List.cons_append, lineN_cons hc, List.length_cons]
      have : ends r := by
        cases r with
        | nil => unfold ends at he; injection he with he; exact absurd he hc
        | cons a r => unfold ends at he ⊢; rwa [List.getLast?_cons_cons] at he
      rw [line_app r t (by omega) this]
theorem goes_app {w t : List UInt8} (h : w ≠ []) : goesB (w ++ t) = goesB w := by
  cases w with
  | nil => exact absurd rfl h
  | cons c r => rfl
theorem take_app_len (w t : List UInt8) : (w ++ t).take w.length = w := by simp
theorem drop_app_len (w t : List UInt8) : (w ++ t).drop w.length = t := by simp
/-- what goes on, by itself -/
theorem cont_take : ∀ (n : Nat) (l : List UInt8), l.length ≤ n → cont (l.take (cont l)) = cont l ∧ goesB (l.drop (cont l)) = false ∧ (cont l = 0 ∨ ends (l.take (cont l)) ∨ cont l = l.length) ∧ (cont l ≠ 0 → goesB (l.take (cont l)) = true)
  | n, l, hn => by
    cases hg : goesB l with
    | false =>
      rw [cont_stop hg]
      exact ⟨by rw [List.take_zero]; rfl, by rw [List.drop_zero]; exact hg, .inl rfl, fun h => absurd rfl h⟩
    | true =>
      have hne := goes_ne hg
      have hp := lineN_pos hne
      have hle := lineN_le l
      cases n with
      | zero => exact absurd (List.eq_nil_of_length_eq_zero (by omega)) hne
      | succ n =>
        have hd : (l.drop (lineN l)).length = l.length - lineN l := List.length_drop ..
        obtain ⟨i1, i2, i3, i4⟩ := cont_take n (l.drop (lineN l)) (by omega)
        have hc := cont_step hg
        have hcl := cont_le (l.drop (lineN l))
        have htk : l.take (cont l) = l.take (lineN l) ++ (l.drop (lineN l)).take (cont (l.drop (lineN l))) := by rw [hc, List.take_add]
        have hlt : (l.take (lineN l)).length = lineN l := by rw [List.length_take]; omega
        have htn : l.take (lineN l) ≠ [] := fun e => by rw [e] at hlt; simp at hlt; omega
        have hg2 : goesB (l.take (cont l)) = true := by
          rw [htk, goes_app htn]
          have := goes_app (w := l.take (lineN l)) (t := l.drop (lineN l)) htn
          rw [List.take_append_drop] at this
          rw [← this]; exact hg
        have hline : lineN (l.take (cont l)) = lineN l := by
          rcases line_ends l with h | h
          · rw [htk]
            have := line_app (l.take (lineN l)) ((l.drop (lineN l)).take (cont (l.drop (lineN l)))) (by rw [line_take, hlt]) h
            rw [this, hlt]
          · have : l.take (cont l) = l := by rw [List.take_of_length_le]; rw [hc, h]; omega
            rw [this]
        refine ⟨?_, ?_, ?_, fun _ => hg2⟩
        · rw [cont_step hg2, hline, hc]
          congr 1
          have : (l.take (cont l)).drop (lineN l) = (l.drop (lineN l)).take (cont (l.drop (lineN l))) := by
            rw [htk]
            have := drop_app_len (l.take (lineN l)) ((l.drop (lineN l)).take (cont (l.drop (lineN l))))
            rwa [hlt] at this
          rw [hc] at this
          rw [this]; exact i1
        · rw [hc, ← List.drop_drop]; exact i2
        · rw [hc] at htk ⊢
          rcases i3 with h0 | h0 | h0
          · rcases line_ends l with h | h
            · right; left
              rw [htk, h0, List.take_zero, List.append_nil]; exact h
            · right; right; omega
          · right; left
            rw [htk]; exact ends_app h0
          · right; right; omega
/-- what goes on, ahead of what does not -/
theorem cont_app : ∀ (n : Nat) (c t : List UInt8), c.length ≤ n → cont c = c.length → (c = [] ∨ ends c) → goesB t = false → cont (c ++ t) = c.length
  | n, c, t, hn, hc, he, ht => by
    by_cases h0 : c = []
    · subst h0; rw [List.nil_append, cont_stop ht]; rfl
    · have he : ends c := he.resolve_left h0
      have hlen := List.length_pos_iff.2 h0
      have hg : goesB c = true := by
        cases hg : goesB c with
        | true => rfl
        | false => rw [cont_stop hg] at hc; omega
      have hstep := cont_step hg
      have hp := lineN_pos h0
      have hle := lineN_le c
      cases n with
      | zero => omega
      | succ n =>
        have hd : (c.drop (lineN c)).length = c.length - lineN c := List.length_drop ..
        have hlt : (c.take (lineN c)).length = lineN c := by rw [List.length_take]; omega
        have hl : lineN (c ++ t) = lineN c := by
          have hh : c = c.take (lineN c) ++ c.drop (lineN c) := (List.take_append_drop _ _).symm
          rcases line_ends c with h | h
          · conv => lhs; rw [hh, List.append_assoc]
            rw [line_app _ _ (by rw [line_take, hlt]) h, hlt]
          · rw [line_app c t h he, h]
        rw [cont_step (by rw [goes_app h0]; exact hg), hl]
        have hdr : (c ++ t).drop (lineN c) = c.drop (lineN c) ++ t := List.drop_append_of_le_length hle
        rw [hdr, cont_app n (c.drop (lineN c)) t (by omega) (by rw [hd]; omega) ?_ ht, hd]
        · omega
        · by_cases hz : c.drop (lineN c) = []
          · exact .inl hz
          · right
            unfold ends at *
            rw [List.getLast?_drop, if_neg (by rw [List.drop_eq_nil_iff] at hz; omega)]
            exact he
/-- a field's bytes -/
structure Head (h : List UInt8) : Prop where
  ne : h ≠ []
  len : headN h = h.length
  full : emptyB h = false
theorem head_line {h : List UInt8} (hh : headN h = h.length) (he : ends h) : lineN h = h.length ∨ ends (h.take (lineN h)) := by
  rcases line_ends h with h1 | h1
  · exact .inr h1
  · exact .inl h1
/-- a field that ends, ahead of what does not go on -/
theorem head_app {h t : List UInt8} (hh : Head h) (he : ends h) (ht : goesB t = false) : headN (h ++ t) = h.length ∧ emptyB (h ++ t) = false ∧ (h ++ t).take (headN (h ++ t)) = h ∧ (h ++ t).drop (headN (h ++ t)) = t := by
  have hle := lineN_le h
  have hl : lineN (h ++ t) = lineN h := by
    have hlt : (h.take (lineN h)).length = lineN h := by rw [List.length_take]; omega
    have h2 : h = h.take (lineN h) ++ h.drop (lineN h) := (List.take_append_drop _ _).symm
    rcases line_ends h with h1 | h1
    · conv => lhs; rw [h2, List.append_assoc]
      rw [line_app _ _ (by rw [line_take, hlt]) h1, hlt]
    · rw [line_app h t h1 he, h1]
  have hd : (h.drop (lineN h)).length = h.length - lineN h := List.length_drop ..
  have hn : headN (h ++ t) = h.length := by
    have hlen := hh.len
    unfold headN at hlen ⊢
    rw [hl, List.drop_append_of_le_length hle, cont_app _ (h.drop (lineN h)) t (Nat.le_refl _) (by omega) ?_ ht, hd]
    · omega
    · by_cases hz : h.drop (lineN h) = []
      · exact .inl hz
      · right
        unfold ends at *
        rw [List.getLast?_drop, if_neg (by rw [List.drop_eq_nil_iff] at hz; omega)]
        exact he
  refine ⟨hn, ?_, by rw [hn, take_app_len], by rw [hn, drop_app_len]⟩
  have := hh.full
  unfold emptyB at this ⊢
  rw [hl, List.take_append_of_le_length hle]
  exact this
theorem head_par {h t : List UInt8} (hh : Head h) (he : ends h) (ht : goesB t = false) : parS (h ++ t) = fieldL h :: parS t ∧ endS (h ++ t) = h.length + endS t := by
  obtain ⟨h1, h2, h3, h4⟩ := head_app hh he ht
  have hne : h ++ t ≠ [] := fun e => hh.ne (List.append_eq_nil_iff.1 e).1
  obtain ⟨p1, p2⟩ := par_cons hne h2
  rw [h3, h4] at p1
  rw [h4, h1] at p2
  exact ⟨p1, p2⟩
theorem head_one {h : List UInt8} (hh : Head h) : parS h = [fieldL h] ∧ endS h = h.length := by
  obtain ⟨p1, p2⟩ := par_cons hh.ne hh.full
  have e1 : h.take (headN h) = h := by rw [hh.len, List.take_length]
  have e2 : h.drop (headN h) = [] := by rw [hh.len, List.drop_length]
  rw [e1, e2] at p1
  rw [e2, hh.len] at p2
  exact ⟨p1, by rw [p2]; rfl⟩
/-- the first field of a text -/
theorem head_of {l : List UInt8} (hne : l ≠ []) (he : emptyB l = false) : Head (l.take (headN l)) ∧ (headN l = l.length ∨ ends (l.take (headN l))) ∧ goesB (l.drop (headN l)) = false := by
  have hp := headN_pos hne
  have hle := headN_le l
  have hll := lineN_le l
  have hlp := lineN_pos hne
  obtain ⟨c1, c2, c3, c4⟩ := cont_take _ (l.drop (lineN l)) (Nat.le_refl _)
  have hd : (l.drop (lineN l)).length = l.length - lineN l := List.length_drop ..
  have hlt : (l.take (lineN l)).length = lineN l := by rw [List.length_take]; omega
  have htk : l.take (headN l) = l.take (lineN l) ++ (l.drop (lineN l)).take (cont (l.drop (lineN l))) := by unfold headN; rw [List.take_add]
  have hlen : (l.take (headN l)).length = headN l := by rw [List.length_take]; omega
  have hline : lineN (l.take (headN l)) = lineN l := by
    rcases line_ends l with h | h
    · rw [htk, line_app _ _ (by rw [line_take, hlt]) h, hlt]
    · have : l.take (headN l) = l := by
        rw [List.take_of_length_le]
        unfold headN; omega
      rw [this]
  have hdr : (l.take (headN l)).drop (lineN l) = (l.drop (lineN l)).take (cont (l.drop (lineN l))) := by
    rw [htk]
    have := drop_app_len (l.take (lineN l)) ((l.drop (lineN l)).take (cont (l.drop (lineN l))))
    rwa [hlt] at this
  refine ⟨⟨fun e => ?_, ?_, ?_⟩, ?_, ?_⟩
  · rw [e] at hlen; simp at hlen; omega
  · rw [hlen]
    have : headN (l.take (headN l)) = lineN (l.take (headN l)) + cont ((l.take (headN l)).drop (lineN (l.take (headN l)))) := rfl
    rw [this, hline, hdr, c1]; rfl
  · unfold emptyB at he ⊢
    rw [hline]
    have : (l.take (headN l)).take (lineN l) = l.take (lineN l) := by
      rw [htk]
      have := take_app_len (l.take (lineN l)) ((l.drop (lineN l)).take (cont (l.drop (lineN l))))
      rwa [hlt] at this
    rw [this]; exact he
  · by_cases h0 : cont (l.drop (lineN l)) = 0
    · rcases line_ends l with h | h
      · right
        rw [htk, h0, List.take_zero, List.append_nil]; exact h
      · left; unfold headN; omega
    · rcases c3 with h | h | h
      · exact absurd h h0
      · right; rw [htk]; exact ends_app h
      · left; unfold headN; omega
  · unfold headN
    rw [← List.drop_drop]; exact c2
/-! the law on what Parse returns -/
def joinL (m : List Fld) : List UInt8 := m.flatMap fun x => x.raw.data.toList
theorem toB_data (l : List UInt8) : (toB l).data.toList = l := by simp [toB]
theorem raw_of (h : List UInt8) : (fieldL h).raw = toB h := by
  unfold fieldL; split <;> rfl
/-- what lies between the fields and the body -/
theorem whole_any : ∀ (n : Nat) (l : List UInt8), l.length ≤ n →
    ∃ j r, joinL (parS l) = j ∧ l = j ++ r ∧ endS l = j.length + (if emptyB r = true ∧ r ≠ [] then lineN r else 0) ∧ (r = [] ∨ (emptyB r = true ∧ r ≠ [])) ∧
      (∀ x ∈ parS l, ∃ h, Head h ∧ x = fieldL h) ∧ parS j = parS l ∧ endS j = j.length ∧ (r = [] ∨ j = [] ∨ ends j)
  | n, l, hn => by
    by_cases hne : l = []
    · subst hne
      exact ⟨[], [], rfl, rfl, rfl, .inl rfl, (fun x hx => by cases hx), rfl, rfl, .inl rfl⟩
    · cases he : emptyB l with
      | true =>
        obtain ⟨p1, p2⟩ := par_empty hne he
        refine ⟨[], l, by rw [p1]; rfl, rfl, by rw [p2, if_pos ⟨he, hne⟩, List.length_nil, Nat.zero_add], .inr ⟨he, hne⟩, (fun x hx => by rw [p1] at hx; cases hx), by rw [p1]; rfl, rfl, .inr (.inl rfl)⟩
      | false =>
        obtain ⟨hh, hend, hgo⟩ := head_of hne he
        obtain ⟨p1, p2⟩ := par_cons hne he
        have hp := headN_pos hne
        have hle := headN_le l
        have hlen : (l.take (headN l)).length = headN l := by rw [List.length_take]; omega
        have hpos := List.length_pos_iff.2 hne
        cases n with
        | zero => omega
        | succ n =>
          obtain ⟨j, r, i1, i2, i3, i4, i5, i6, i7, i8⟩ := whole_any n (l.drop (headN l)) (by rw [List.length_drop]; omega)
          have hl : l = l.take (headN l) ++ (j ++ r) := by rw [← i2, List.take_append_drop]
          have hjg : goesB j = false := by
            by_cases hj : j = []
            · rw [hj]; rfl
            · rw [i2, goes_app hj] at hgo; exact hgo
          have hje : j = [] ∨ ends (l.take (headN l)) := by
            rcases hend with h | h
            · left
              have : l.drop (headN l) = [] := by rw [h, List.drop_length]
              rw [this] at i2
              exact (List.append_eq_nil_iff.1 i2.symm).1
            · exact .inr h
          have hpj : parS (l.take (headN l) ++ j) = fieldL (l.take (headN l)) :: parS j ∧ endS (l.take (headN l) ++ j) = (l.take (headN l)).length + endS j := by
            rcases hje with h | h
            · rw [h, List.append_nil]
              obtain ⟨q1, q2⟩ := head_one hh
              exact ⟨q1, q2⟩
            · exact head_par hh h hjg
          refine ⟨l.take (headN l) ++ j, r, ?_, by rw [List.append_assoc]; exact hl, ?_, i4, ?_, ?_, ?_, ?_⟩
          · rw [p1]
            unfold joinL at i1 ⊢
            rw [List.flatMap_cons, i1, raw_of, toB_data]
          · rw [p2, i3, List.length_append, hlen]; omega
          · intro x hx
            rw [p1] at hx
            rcases List.mem_cons.1 hx with rfl | hx
            · exact ⟨_, hh, rfl⟩
            · exact i5 x hx
          · rw [hpj.1, i6, p1]
          · rw [hpj.2, i7, List.length_append]
          · rcases i8 with h | h | h
            · exact .inl h
            · rcases hend with h2 | h2
              · left
                have : l.drop (headN l) = [] := by rw [h2, List.drop_length]
                rw [this] at i2
                exact (List.append_eq_nil_iff.1 i2.symm).2
              · right; right; rw [h, List.append_nil]; exact h2
            · right; right; exact ends_app h
end Hd
