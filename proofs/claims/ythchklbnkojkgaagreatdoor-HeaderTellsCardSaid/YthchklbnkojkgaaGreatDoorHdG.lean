/- Plain: header fields: a line that goes on. -/
import Derived.Test.YthchklbnkojkgaaGreatDoorHdU
namespace Hd
open Go Go.RowKit Pk

/-- what goes on, ahead of more -/
theorem cont_app2 : ∀ (n : Nat) (c t : List UInt8), c.length ≤ n → cont c = c.length → (c = [] ∨ ends c) → cont (c ++ t) = c.length + cont t
  | n, c, t, hn, hc, he => by
    by_cases h0 : c = []
    · subst h0; rw [List.nil_append, List.length_nil, Nat.zero_add]
    · have he : ends c := he.resolve_left h0
      have hlen := List.length_pos_iff.2 h0
      have hg : goesB c = true := by
        cases hg : goesB c with
        | true => rfl
        | false => rw [cont_stop hg] at hc; omega
      have hstep := cont_step hg
      have hp := lineN_pos h0
      have hle := lineN_le c
      cases n with
      | zero => omega
      | succ n =>
        have hd : (c.drop (lineN c)).length = c.length - lineN c := List.length_drop ..
        have hlt : (c.take (lineN c)).length = lineN c := by rw [List.length_take]; omega
        have hl : lineN (c ++ t) = lineN c := by
          have hh : c = c.take (lineN c) ++ c.drop (lineN c) := (List.take_append_drop _ _).symm
          rcases line_ends c with h | h
          · conv => lhs; rw [hh, List.append_assoc]
            rw [line_app _ _ (by rw [line_take, hlt]) h, hlt]
          · rw [line_app c t h he, h]
        rw [cont_step (by rw [goes_app h0]; exact hg), hl]
        have hdr : (c ++ t).drop (lineN c) = c.drop (lineN c) ++ t := List.drop_append_of_le_length hle
        rw [hdr, cont_app2 n (c.drop (lineN c)) t (by omega) (by rw [hd]; omega) ?_, hd]
        · omega
        · by_cases hz : c.drop (lineN c) = []
          · exact .inl hz
          · right
            unfold ends at *
            rw [List.getLast?_drop, if_neg (by rw [List.drop_eq_nil_iff] at hz; omega)]
            exact he
/-- a line that starts with a blank becomes part of the field before it -/
theorem head_more {h x : List UInt8} (hh : Head h) (he : ends h) (hx : lineN x = x.length) (hg : goesB x = true) (hxe : ends x) :
    Head (h ++ x) ∧ ends (h ++ x) ∧ (fieldL (h ++ x)).name = (fieldL h).name := by
  have hle := lineN_le h
  have hl : lineN (h ++ x) = lineN h := by
    have hlt : (h.take (lineN h)).length = lineN h := by rw [List.length_take]; omega
    have h2 : h = h.take (lineN h) ++ h.drop (lineN h) := (List.take_append_drop _ _).symm
    rcases line_ends h with h1 | h1
    · conv => lhs; rw [h2, List.append_assoc]
      rw [line_app _ _ (by rw [line_take, hlt]) h1, hlt]
    · rw [line_app h x h1 he, h1]
  have hd : (h.drop (lineN h)).length = h.length - lineN h := List.length_drop ..
  have hcx : cont x = x.length := by
    rw [cont_step hg, hx, List.drop_length]; rfl
  have htk : (h ++ x).take (lineN h) = h.take (lineN h) := List.take_append_of_le_length hle
  refine ⟨⟨fun e => hh.ne (List.append_eq_nil_iff.1 e).1, ?_, ?_⟩, ends_app hxe, ?_⟩
  · have hlen := hh.len
    unfold headN at hlen ⊢
    rw [hl, List.drop_append_of_le_length hle, cont_app2 _ (h.drop (lineN h)) x (Nat.le_refl _) (by omega) ?_, hd, hcx, List.length_append]
    · omega
    · by_cases hz : h.drop (lineN h) = []
      · exact .inl hz
      · right
        unfold ends at *
        rw [List.getLast?_drop, if_neg (by rw [List.drop_eq_nil_iff] at hz; omega)]
        exact he
  · have := hh.full
    unfold emptyB at this ⊢
    rw [hl, htk]; exact this
  · have e1 : nameL (h ++ x) = nameL h := by unfold nameL; rw [hl, htk]
    have e2 : colonB (h ++ x) = colonB h := by unfold colonB; rw [hl, htk]
    unfold fieldL
    rw [e1, e2]
    split <;> rfl
theorem putF_le : ∀ (f n : Nat) (b : Bool) (v : List UInt8), (putF f n b v).length ≤ 3 * v.length
  | 0, _, _, _ => Nat.zero_le _
  | f + 1, n, b, v => by
    by_cases hne : v = []
    · subst hne; rw [putF_nil]; exact Nat.le_refl _
    · obtain ⟨p1, p2⟩ := pieceN_rng hne
      rw [putF_ne hne]
      split
      · have ih := putF_le f (pieceN v) false (v.drop (pieceN v))
        rw [List.length_drop] at ih
        simp only [List.length_append, List.length_cons, List.length_nil, List.length_take]; omega
      · have ih := putF_le f (n + pieceN v) false (v.drop (pieceN v))
        rw [List.length_drop] at ih
        simp only [List.length_append, List.length_take]; omega
theorem clean_le (v : List UInt8) : (cleanL v).length ≤ v.length := by
  obtain ⟨a, b, h, -⟩ := trim_split (v.map spc)
  have := congrArg List.length h
  simp only [List.length_append, List.length_map] at this
  show (trimB (v.map spc)).length ≤ _
  omega
theorem put_le (n v : List UInt8) : (putL n v).length ≤ n.length + 4 + 3 * v.length := by
  unfold putL
  split
  · have h1 := putF_le (cleanL v).length (n.length + 2) true (cleanL v)
    have h2 := clean_le v
    simp only [List.length_append, List.length_cons, List.length_nil]; omega
  · simp
theorem goes_shape {name more behind : List UInt8} (value : List UInt8) (hn : Named name) (hm : ∀ c ∈ more, c ≠ 10) (hb : goesB behind = false) :
    ∃ f : Fld, parS (putL name value ++ ([32] ++ more ++ [13, 10]) ++ behind) = f :: parS behind ∧ endS (putL name value ++ ([32] ++ more ++ [13, 10]) ++ behind) = (putL name value).length + more.length + 3 + endS behind ∧
      f.raw = toB (putL name value ++ ([32] ++ more ++ [13, 10])) ∧ f.name = toB name := by
  obtain ⟨hh, he, b, f, hu, e, hf⟩ := put_head value hn
  have hxl : lineN ([32] ++ more ++ [13, 10]) = ([32] ++ more ++ [13, 10]).length := by
    have h1 : ∀ c ∈ [32] ++ more ++ [13], c ≠ 10 := fun c hc => by
      rcases List.mem_append.1 hc with h1 | h1
      · rcases List.mem_append.1 h1 with h2 | h2
        · simp only [List.mem_cons, List.not_mem_nil, or_false] at h2; subst h2; decide
        · exact hm c h2
      · simp only [List.mem_cons, List.not_mem_nil, or_false] at h1; subst h1; decide
    have := line_end ([32] ++ more ++ [13]) h1
    rw [show [32] ++ more ++ [13, 10] = [32] ++ more ++ [13] ++ [10] by simp, this]
    simp
  obtain ⟨h1, h2, h3⟩ := head_more hh he hxl rfl (ends_crlf _)
  obtain ⟨p1, p2⟩ := head_par h1 h2 hb
  refine ⟨_, p1, ?_, raw_of _, ?_⟩
  · rw [p2]
    simp only [List.length_append, List.length_cons, List.length_nil]; omega
  · rw [h3, hf]
end Hd
