/- Plain: header fields: what stands on the lines that Put folds. -/
import Derived.Test.YthchklbnkojkgaaGreatDoorHdR
namespace Hd
open Go Go.RowKit Pk

theorem pieceF_one : ∀ (c : UInt8) (r : List UInt8), pieceF c (r.take (pieceF c r)) = pieceF c r
  | _, [] => rfl
  | c, d :: r => by
    by_cases hb : (blk d && !blk c) = true
    · have e : pieceF c (d :: r) = 0 := by unfold pieceF; rw [if_pos hb]
      rw [e, List.take_zero]; rfl
    · have e : ∀ t, pieceF c (d :: t) = pieceF d t + 1 := fun t => by
        conv => lhs; unfold pieceF
        rw [if_neg hb]
      rw [e, List.take_succ_cons, e, pieceF_one d r]
/-- a piece is one piece -/
theorem piece_one {v : List UInt8} (h : v ≠ []) : pieceN (v.take (pieceN v)) = (v.take (pieceN v)).length := by
  have hr := pieceN_rng h
  rw [List.length_take, Nat.min_eq_left hr.2]
  cases v with
  | nil => exact absurd rfl h
  | cons c r =>
    have e : ∀ t, pieceN (c :: t) = pieceF c t + 1 := fun _ => rfl
    rw [e, List.take_succ_cons, e, pieceF_one]
/-- the text's last byte is no blank -/
def firm (v : List UInt8) : Prop := ∀ x, v.getLast? = some x → blk x = false
theorem pieceF_solid : ∀ (c : UInt8) (r : List UInt8), firm (c :: r) → ∃ x ∈ (c :: r).take (pieceF c r + 1), blk x = false
  | c, [], h => ⟨c, by simp [pieceF], h c rfl⟩
  | c, d :: r, h => by
    by_cases hb : (blk d && !blk c) = true
    · refine ⟨c, ?_, ?_⟩
      · rw [List.take_succ_cons]; exact List.mem_cons_self ..
      · rw [Bool.and_eq_true] at hb
        simpa using hb.2
    · have e : pieceF c (d :: r) = pieceF d r + 1 := by
        conv => lhs; unfold pieceF
        rw [if_neg hb]
      obtain ⟨x, hx, hb⟩ := pieceF_solid d r (fun x hx => h x (by rw [List.getLast?_cons_cons]; exact hx))
      exact ⟨x, by rw [e, List.take_succ_cons]; exact List.mem_cons_of_mem _ hx, hb⟩
theorem piece_solid {v : List UInt8} (h : v ≠ []) (hs : firm v) : ∃ x ∈ v.take (pieceN v), blk x = false := by
  cases v with
  | nil => exact absurd rfl h
  | cons c r => exact pieceF_solid c r hs
theorem firm_drop {v : List UInt8} (k : Nat) (h : firm v) : firm (v.drop k) := fun x hx => by
  rw [List.getLast?_drop] at hx
  split at hx
  · cases hx
  · exact h x hx
/-- what may stand on a line that goes on -/
structure OnLine (b : List UInt8) : Prop where
  len : b.length ≤ 78 ∨ pieceN b = b.length
  full : ∃ x ∈ b, blk x = false
theorem lineN_crlf {c : List UInt8} (hc : noNl c) (t : List UInt8) : lineN (c ++ [13, 10] ++ t) = c.length + 2 := by
  rw [List.append_assoc, no_line c _ (fun x hx => (hc x hx).1)]
  have : lineN ([13, 10] ++ t) = 2 := by
    show lineN (13 :: 10 :: t) = 2
    rw [lineN_cons (by decide), lineN_cons10]
  rw [this]
theorem lines_crlf {c : List UInt8} (hc : noNl c) (t : List UInt8) : linesL (c ++ [13, 10] ++ t) = (c ++ [13, 10]) :: linesL t := by
  have hl : c.length + 2 = (c ++ [13, 10]).length := by simp
  rw [lines_cons (by simp), lineN_crlf hc, hl, List.take_left, List.drop_left]
theorem putF_lines : ∀ (f n : Nat) (b : Bool) (v c : List UInt8), v.length ≤ f → noNl v → firm v → noNl c →
    ∃ t ls, linesL (c ++ putF f n b v ++ [13, 10]) = (c ++ t ++ [13, 10]) :: ls ∧ noNl t ∧ (∀ x ∈ ls, ∃ d, x = d ++ [13, 10] ∧ noNl d ∧ OnLine d) ∧ (b = false → n = c.length → OnLine c → OnLine (c ++ t))
  | f, n, b, v, c, hf, hv, hs, hc => by
    by_cases hne : v = []
    · subst hne
      refine ⟨[], [], ?_, (fun _ h => by cases h), (fun _ h => by cases h), fun _ _ h => by rw [List.append_nil]; exact h⟩
      rw [putF_nil, List.append_nil]
      have := lines_crlf hc []
      rw [List.append_nil, lines_nil] at this
      exact this
    · obtain ⟨p1, p2⟩ := pieceN_rng hne
      cases f with
      | zero => exact absurd (List.eq_nil_of_length_eq_zero (by omega)) hne
      | succ f =>
        have ht : noNl (v.take (pieceN v)) := noNl_sub hv (fun c hc => List.mem_of_mem_take hc)
        have hd : noNl (v.drop (pieceN v)) := noNl_sub hv (fun c hc => List.mem_of_mem_drop hc)
        have hl : (v.drop (pieceN v)).length ≤ f := by rw [List.length_drop]; omega
        have hlen : (v.take (pieceN v)).length = pieceN v := by rw [List.length_take, Nat.min_eq_left p2]
        have hso := piece_solid hne hs
        rw [putF_ne hne]
        split
        · rename_i hcut
          obtain ⟨t, ls, e, h1, h2, h3⟩ := putF_lines f (pieceN v) false (v.drop (pieceN v)) (v.take (pieceN v)) hl hd (firm_drop _ hs) ht
          refine ⟨[], (v.take (pieceN v) ++ t ++ [13, 10]) :: ls, ?_, (fun _ h => by cases h), ?_, fun _ _ h => by rw [List.append_nil]; exact h⟩
          · rw [← e, List.append_nil, ← lines_crlf hc]
            congr 1
            simp only [List.append_assoc]
          · intro x hx
            rcases List.mem_cons.1 hx with rfl | hx
            · exact ⟨_, rfl, noNl_app ht h1, h3 rfl hlen.symm ⟨.inr (piece_one hne), hso⟩⟩
            · exact h2 x hx
        · rename_i hcut
          obtain ⟨t, ls, e, h1, h2, h3⟩ := putF_lines f (n + pieceN v) false (v.drop (pieceN v)) (c ++ v.take (pieceN v)) hl hd (firm_drop _ hs) (noNl_app hc ht)
          refine ⟨v.take (pieceN v) ++ t, ls, ?_, noNl_app ht h1, h2, ?_⟩
          · rw [← List.append_assoc, ← List.append_assoc, e]
          · intro hb hn hcl
            rw [← List.append_assoc]
            refine h3 rfl (by rw [List.length_append, hlen, hn]) ⟨.inl ?_, ?_⟩
            · rw [List.length_append, hlen, ← hn]
              have : ¬ 78 < n + pieceN v := fun h => hcut ⟨hb, h⟩
              omega
            · obtain ⟨x, hx, hb⟩ := hcl.full
              exact ⟨x, List.mem_append_left _ hx, hb⟩
theorem clean_firm (s : List UInt8) : firm (cleanL s) := by
  obtain ⟨a, b, -, -, -, h⟩ := trim_split (s.map spc)
  intro x hx
  have h2 := h.2
  have hx2 : (trimB (s.map spc)).getLast? = some x := hx
  rw [hx2] at h2
  cases hb : blk x with
  | false => rfl
  | true => exact absurd (by rw [Option.map_some, hb]) h2
/-- the lines of what Put lays -/
theorem put_lines {name : List UInt8} (value : List UInt8) (h : Named name) : ∃ x ls, linesL (putL name value) = x :: ls ∧ ∀ y ∈ ls, ∃ d, y = d ++ [13, 10] ∧ noNl d ∧ OnLine d := by
  have hno : noNl (name ++ [58, 32]) := noNl_app h.no (fun c hc => by
    simp only [List.mem_cons, List.not_mem_nil, or_false] at hc
    rcases hc with rfl | rfl <;> exact ⟨by decide, by decide⟩)
  obtain ⟨t, ls, e, -, h2, -⟩ := putF_lines (cleanL value).length (name.length + 2) true (cleanL value) (name ++ [58, 32]) (Nat.le_refl _) (clean_no value) (clean_firm value) hno
  exact ⟨_, ls, by unfold putL; rw [if_pos (right_named.2 h)]; exact e, h2⟩
theorem trim_full {b : List UInt8} (h : ∃ x ∈ b, blk x = false) : trimB b ≠ [] := by
  obtain ⟨x, hx, hb⟩ := h
  obtain ⟨p, q, e, hp, hq, -⟩ := trim_split b
  intro h0
  rw [h0, List.append_nil] at e
  rw [e] at hx
  rcases List.mem_append.1 hx with h1 | h1
  · have := hp x h1; rw [hb] at this; cases this
  · have := hq x h1; rw [hb] at this; cases this
end Hd
