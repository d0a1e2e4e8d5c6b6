/- Plain: tokens written out with white space and comments between them. -/
import Derived.Test.YtgimgkjggaijoaaGreatDoorSvPl
import Derived.Test.YtgimgkjggaijoaaGreatDoorLxK
namespace Sv
open Go Lx C1

/-- a token in its source form, as the law writes it -/
def numB (n : Nat) : List UInt8 := if 999999999999 < n then Lib.itoa ((n : Int) / 1024) ++ [107] else Lib.itoa n
def wordT (t : Tok) : List UInt8 := if t.k = 2 then 58 :: t.t else if t.k = 3 then numB t.n else if t.k = 4 then textL t.t else t.t
theorem wr_numB {u : Nat} (h : numOk (u : Int)) : Wr (numB u) ⟨3, [], u⟩ := by
  obtain ⟨h0, h1⟩ := h
  unfold numB
  by_cases hb : 999999999999 < u
  · rw [if_pos hb]
    have h2 : (u : Int) ≤ 1099511627776 ∧ (u : Int) % 1024 = 0 := by
      rcases h1 with h1 | h1
      · omega
      · exact h1
    have e1 : ((u : Int) / 1024) = ((u / 1024 : Nat) : Int) := by omega
    rw [e1, Lib.itoa_nonneg]
    have := read_k (u := u / 1024) (c := 107) (by omega) rfl
    have e2 : u / 1024 * 1024 = u := by omega
    rw [e2] at this
    exact this
  · rw [if_neg hb, Lib.itoa_nonneg]
    exact wr_num (by omega)
theorem wr_word {t : Tok} (h : TokW t) : Wr (wordT t) t := by
  cases h with
  | name l h => exact wr_name h
  | tag l h => exact wr_tag h
  | num u h => exact wr_numB h
  | text l => exact wr_text l
  | mark c h => exact wr_mark h
/-- white space that may stand between tokens -/
def GapOk (g : List UInt8) : Prop := gd g ∧ g ≠ [] ∧ LxA true g []
theorem gap_run {g : List UInt8} (h : GapOk g) {Z : List UInt8} {k : Nat} {ts : List (Tok × Nat)} {e : Option Nat} (hr : Run Z (k + g.length) ts e) : Run (g ++ Z) k ts e := by
  obtain ⟨tp, h1, h2⟩ := h.2.2 Z k ts e (.inl rfl) hr
  have : tp = [] := List.map_eq_nil_iff.1 h1
  subst this
  exact h2
theorem word_run {w : List UInt8} {t : Tok} (h : Wr w t) {Z : List UInt8} {k : Nat} {ts : List (Tok × Nat)} {e : Option Nat} (hZ : gd Z) (hr : Run Z (k + w.length) ts e) : Run (w ++ Z) k ((t, k) :: ts) e := by
  have h0 : 0 < w.length := List.length_pos_iff.2 h.1
  refine Run.tok (by simp [h.1]) ?_ (tokenL_app w (32 :: []) Z t (by simp) h0 (.inr hZ) (h.2 []).2) ?_
  · refine spaceL_tok w (32 :: []) Z h.1 (fun e => tok_hd (h.2 []).2 ?_) (h.2 []).1
    cases w with
    | nil => exact absurd rfl h.1
    | cons c r => exact e
  · rw [drop_app (Nat.le_refl _), List.drop_eq_nil_of_le (Nat.le_refl _), List.nil_append]; exact hr
/-- what is written so far: its tokens with their places -/
def Loose (s : List UInt8) (ts : List (Tok × Nat)) : Prop := ∀ Z ts' e, Run Z s.length ts' e → Run (s ++ Z) 0 (ts ++ ts') e
theorem loose_gap {g : List UInt8} (h : GapOk g) : Loose g [] := fun Z ts' e hr => gap_run h (by rw [Nat.zero_add]; exact hr)
theorem loose_snoc {s g : List UInt8} {ts : List (Tok × Nat)} {t : Tok} (hs : Loose s ts) (hg : GapOk g) (ht : TokW t) : Loose (s ++ wordT t ++ g) (ts ++ [(t, s.length)]) := by
  intro Z ts' e hr
  rw [List.append_assoc, List.append_assoc, List.append_assoc]
  refine hs _ _ _ ?_
  refine word_run (wr_word ht) (gd_app hg.1 hg.2.1) (gap_run hg ?_)
  rw [List.length_append, List.length_append] at hr
  exact hr
theorem loose_run {s : List UInt8} {ts : List (Tok × Nat)} (h : Loose s ts) : Run s 0 ts none := by
  have := h [] [] none (Run.fin _)
  rwa [List.append_nil, List.append_nil] at this
/-! the four kinds -/
theorem gap0 : GapOk [32] := ⟨gd_sp _, by simp, LxA.blank rfl⟩
theorem gap1 : GapOk [13, 10, 9] := ⟨⟨rfl, by simp⟩, by simp, LxA.nl rfl (LxA.nl rfl (LxA.blank rfl))⟩
theorem gap2 : GapOk [32, 35, 32, 110, 111, 59, 32, 123, 10] := by
  refine ⟨gd_sp _, by simp, LxA.nl rfl ?_⟩
  intro Z k ts' e _ hr
  exact ⟨[], rfl, Run.sp (n := 8) (by decide) rfl hr⟩
theorem gap3 : GapOk [47, 42, 32, 120, 59, 32, 42, 47] := by
  refine ⟨⟨rfl, by simp⟩, by simp, ?_⟩
  intro Z k ts' e _ hr
  exact ⟨[], rfl, Run.sp (n := 8) (by decide) rfl hr⟩
/-- the text and the places, written out -/
def looseL (g : List UInt8) : List UInt8 → List (Tok × Nat) → List UInt8
  | s, [] => s
  | s, x :: r => looseL g (s ++ wordT x.1 ++ g) r
def looseA (g : List UInt8) : List UInt8 → List (Tok × Nat) → List (Tok × Nat)
  | _, [] => []
  | s, x :: r => (x.1, s.length) :: looseA g (s ++ wordT x.1 ++ g) r
theorem loose_all {g : List UInt8} (hg : GapOk g) : ∀ (ts : List (Tok × Nat)) (s : List UInt8) (pre : List (Tok × Nat)), (∀ x ∈ ts, TokW x.1) → Loose s pre → Loose (looseL g s ts) (pre ++ looseA g s ts)
  | [], s, pre, _, h => by show Loose s (pre ++ []); rw [List.append_nil]; exact h
  | x :: r, s, pre, hx, h => by
    have := loose_all hg r (s ++ wordT x.1 ++ g) (pre ++ [(x.1, s.length)]) (fun y hy => hx y (by simp [hy])) (loose_snoc h hg (hx x (by simp)))
    rw [List.append_assoc pre] at this
    exact this
theorem looseA_len (g : List UInt8) : ∀ (ts : List (Tok × Nat)) (s : List UInt8), (looseA g s ts).length = ts.length
  | [], _ => rfl
  | x :: r, s => by show (looseA g _ r).length + 1 = _; rw [looseA_len g r]; rfl
theorem looseA_tok (g : List UInt8) : ∀ (ts : List (Tok × Nat)) (s : List UInt8), (looseA g s ts).map (·.1) = ts.map (·.1)
  | [], _ => rfl
  | x :: r, s => by show x.1 :: (looseA g _ r).map (·.1) = _; rw [looseA_tok g r]; rfl
/-- a place and where it went -/
def Moved (ps qs : List Nat) (E E' : Nat) (x y : Int) : Prop := (∃ i, ∃ h1 : i < ps.length, ∃ h2 : i < qs.length, x = (ps[i] : Nat) ∧ y = (qs[i] : Nat)) ∨ (x = (E : Nat) ∧ y = (E' : Nat))
theorem al_moved (E E' : Nat) : ∀ (ts us : List (Tok × Nat)), ts.map (·.1) = us.map (·.1) → Al (Moved (ts.map (·.2)) (us.map (·.2)) E E') (ts.map lexOf) (us.map lexOf) := by
  have key : ∀ (ts us : List (Tok × Nat)) (P : Int → Int → Prop), ts.map (·.1) = us.map (·.1) → (∀ i (h1 : i < ts.length) (h2 : i < us.length), P (ts[i].2 : Nat) (us[i].2 : Nat)) → Al P (ts.map lexOf) (us.map lexOf) := by
    intro ts
    induction ts with
    | nil =>
      intro us P h _
      have : us = [] := List.map_eq_nil_iff.1 h.symm
      subst this
      exact .nil
    | cons x r ih =>
      intro us P h hP
      cases us with
      | nil => cases h
      | cons y q =>
        rw [List.map_cons, List.map_cons] at h
        injection h with h1 h2
        refine .cons (by show ((x.1.k : Nat) : Int) = y.1.k; rw [h1]) (by show (⟨x.1.t.toArray⟩ : ByteArray) = ⟨y.1.t.toArray⟩; rw [h1]) (by show ((x.1.n : Nat) : Int) = y.1.n; rw [h1]) (hP 0 (by simp) (by simp)) (ih q P h2 fun i h3 h4 => ?_)
        exact hP (i + 1) (by simpa using h3) (by simpa using h4)
  intro ts us h
  refine key ts us _ h fun i h1 h2 => .inl ⟨i, by simpa using h1, by simpa using h2, ?_, ?_⟩
  · rw [List.getElem_map]
  · rw [List.getElem_map]
end Sv
