/- Plain: the fields of an ASCII text. -/
import Derived.Test.YtlgnhngbmciaoaaDoorKit
import Derived.Lib.FieldsP
import Derived.Laws.RangeString
namespace Dt
open Go Go.RowKit Pk

/-- fields, byte by byte; st: the field under way -/
def fb (p : Nat → Bool) : Option (List UInt8) → List UInt8 → List (List UInt8)
  | none, [] => []
  | some c, [] => [c]
  | st, x :: r => if p x.toNat = true then (match st with | some c => c :: fb p none r | none => fb p none r) else fb p (some (st.getD [] ++ [x])) r
theorem fb_cons (p : Nat → Bool) (st : Option (List UInt8)) (x : UInt8) (r : List UInt8) : fb p st (x :: r) = if p x.toNat = true then (match st with | some c => c :: fb p none r | none => fb p none r) else fb p (some (st.getD [] ++ [x])) r := by cases st <;> rfl
def outF (s : ByteArray) (x : List (Nat × Nat) × Option Nat) : List (List UInt8) := ((Lib.closeSpans s x).map fun y => s.extract y.1 y.2).map (·.data.toList)
theorem extS (s : ByteArray) {f k : Nat} (h : f ≤ k) (hk : k < s.size) : (s.extract f (k + 1)).data.toList = (s.extract f k).data.toList ++ [s[k]] := by
  have hl : s.data.toList.length = s.size := rfl
  rw [ByteArray.data_extract, Array.toList_extract, ByteArray.data_extract, Array.toList_extract, List.extract_eq_take_drop, List.extract_eq_take_drop]
  have e : k + 1 - f = k - f + 1 := by omega
  rw [e, List.take_add_one]
  congr 1
  rw [List.getElem?_drop, show f + (k - f) = k by omega, List.getElem?_eq_getElem (by omega)]
  rfl
theorem ext0 (s : ByteArray) (k : Nat) : (s.extract k k).data.toList = [] := by
  have h : (s.extract k k).data.toList.length = (s.extract k k).size := rfl
  exact List.eq_nil_of_length_eq_zero (by rw [h, ByteArray.size_extract]; omega)
theorem spans_fb (p : Nat → Bool) (s : ByteArray) (ha : ∀ (k : Nat) (h : k < s.size), s[k].toNat < 128) : ∀ (f pos : Nat) (st : Option Nat) (acc : List (Nat × Nat)), s.size - pos ≤ f → pos ≤ s.size → (∀ a, st = some a → a ≤ pos) →
    outF s (Lib.spansFromP p s f pos st acc) = (acc.map fun y => (s.extract y.1 y.2).data.toList) ++ fb p (st.map fun a => (s.extract a pos).data.toList) (tl s pos)
  | f, pos, st, acc, hf, hp, hs => by
    by_cases hlt : pos < s.size
    · obtain ⟨f, rfl⟩ : ∃ g, f = g + 1 := ⟨f - 1, by omega⟩
      have hd := decode_ascii s pos hlt (ha pos hlt)
      unfold Lib.spansFromP
      rw [if_pos hlt, hd, tl_cons s pos hlt]
      by_cases hb : p s[pos].toNat = true
      · rw [if_pos hb]
        cases st with
        | none =>
          simp only [Option.map_none]
          rw [spans_fb p s ha f (pos + 1) none acc (by omega) (by omega) (fun _ h => by cases h)]
          rw [fb_cons, if_pos hb]
          rfl
        | some a =>
          simp only [Option.map_some]
          rw [spans_fb p s ha f (pos + 1) none _ (by omega) (by omega) (fun _ h => by cases h)]
          rw [fb_cons, if_pos hb, List.map_append, List.append_assoc]
          rfl
      · rw [if_neg hb]
        cases st with
        | none =>
          simp only [Option.map_none]
          rw [spans_fb p s ha f (pos + 1) (some pos) acc (by omega) (by omega) (fun _ h => by injection h with h; omega)]
          rw [fb_cons, if_neg hb]
          simp only [Option.map_some, Option.getD_none, List.nil_append]
          rw [extS s (Nat.le_refl _) hlt, ext0, List.nil_append]
        | some a =>
          have hap := hs a rfl
          simp only [Option.map_some]
          rw [spans_fb p s ha f (pos + 1) (some a) acc (by omega) (by omega) (fun _ h => by injection h with h; omega)]
          rw [fb_cons, if_neg hb]
          simp only [Option.map_some, Option.getD_some]
          rw [extS s hap hlt]
    · rw [Lib.spansFromP_end _ _ _ _ _ _ hlt, tl_end s pos (by omega)]
      unfold outF Lib.closeSpans
      cases st with
      | none => simp [fb, List.map_map]
      | some a =>
        have : pos = s.size := by omega
        subst this
        simp [fb, List.map_map]
/-- the fields of an ASCII text -/
theorem fields_asc (p : Nat → Bool) (l : List UInt8) (h : ∀ c ∈ l, c.toNat < 128) : (Lib.goFieldsP p ⟨l.toArray⟩).map (·.data.toList) = fb p none l := by
  have hl : (⟨l.toArray⟩ : ByteArray).data.toList = l := by simp
  have := spans_fb p ⟨l.toArray⟩ (fun k hk => h _ (by
    have : (⟨l.toArray⟩ : ByteArray)[k] ∈ (⟨l.toArray⟩ : ByteArray).data.toList := List.getElem_mem (l := (⟨l.toArray⟩ : ByteArray).data.toList) (n := k) hk
    rwa [hl] at this)) (⟨l.toArray⟩ : ByteArray).size 0 none [] (by omega) (by omega) (fun _ h => by cases h)
  rw [tl_zero, hl] at this
  simpa [outF, Lib.goFieldsP, Lib.spansOfP] using this
theorem fb_word (p : Nat → Bool) : ∀ (x : List UInt8) (st : Option (List UInt8)) (r : List UInt8), (∀ c ∈ x, p c.toNat = false) → x ≠ [] → fb p st (x ++ r) = fb p (some (st.getD [] ++ x)) r
  | [], _, _, _, h => absurd rfl h
  | [c], st, r, h, _ => by
    have hc := h c (List.mem_cons_self ..)
    rw [List.cons_append, List.nil_append, fb_cons, if_neg (by rw [hc]; decide)]
  | c :: d :: x, st, r, h, _ => by
    have hc := h c (List.mem_cons_self ..)
    rw [List.cons_append, fb_cons, if_neg (by rw [hc]; decide), fb_word p (d :: x) _ r (fun e he => h e (List.mem_cons_of_mem _ he)) (by simp)]
    simp
/-- a word, then a blank -/
theorem fb_next (p : Nat → Bool) (x r : List UInt8) (b : UInt8) (hx : ∀ c ∈ x, p c.toNat = false) (hn : x ≠ []) (hb : p b.toNat = true) : fb p none (x ++ b :: r) = x :: fb p none r := by
  rw [fb_word p x none (b :: r) hx hn, fb_cons, if_pos hb]; rfl
theorem fb_skip (p : Nat → Bool) (r : List UInt8) (b : UInt8) (hb : p b.toNat = true) : fb p none (b :: r) = fb p none r := by rw [fb_cons, if_pos hb]
theorem fb_last (p : Nat → Bool) (x : List UInt8) (hx : ∀ c ∈ x, p c.toNat = false) (hn : x ≠ []) : fb p none x = [x] := by
  have := fb_word p x none [] hx hn
  rw [List.append_nil] at this
  rw [this]; rfl
end Dt
