/- Plain: tokens, in the words of the walks of the program and of the reference. -/
import Derived.Test.YtilccofdphohiaaGreatDoorTkL
namespace Tk
open Go Go.RowKit Pk Su Fo

theorem tl_tail (s : ByteArray) (k : Nat) : (tl s k).tail = tl s (k + 1) := by unfold tl; rw [List.tail_drop]
def cloX (close : UInt8) (s : ByteArray) : Option Nat := (clo close 1 (tl s 1)).map (· + 1)
def CloIs (close : UInt8) (d k : Nat) (s : ByteArray) : Prop := (clo close d (tl s k)).map (· + k) = cloX close s
theorem clo_start (close : UInt8) (s : ByteArray) : CloIs close 1 1 s := rfl
theorem map_two (o : Option Nat) (a k : Nat) : (o.map (· + a)).map (· + k) = o.map (· + (k + a)) := by
  cases o with
  | none => rfl
  | some x => show some (x + a + k) = some (x + (k + a)); congr 1; omega
theorem clo_step {close : UInt8} {d k : Nat} {s : ByteArray} (h : CloIs close d k s) (hk : k < s.size) :
    (s[k] = 92 → CloIs close d (k + 1 + 1) s) ∧
    (s[k] ≠ 92 → s[k] = close → d = 1 → cloX close s = some (k + 1)) ∧
    (s[k] ≠ 92 → s[k] = close → d ≠ 1 → CloIs close (d - 1) (k + 1) s) ∧
    (s[k] ≠ 92 → s[k] ≠ close → s[k] = 40 → close = 41 → CloIs close (d + 1) (k + 1) s) ∧
    (s[k] ≠ 92 → s[k] ≠ close → (s[k] ≠ 40 ∨ close ≠ 41) → CloIs close d (k + 1) s) := by
  unfold CloIs at *
  rw [tl_cons s k hk, clo_cons, tl_tail] at h
  refine ⟨fun h1 => ?_, fun h1 h2 h3 => ?_, fun h1 h2 h3 => ?_, fun h1 h2 h3 h4 => ?_, fun h1 h2 h3 => ?_⟩
  · rw [if_pos h1, map_two] at h; exact h
  · rw [if_neg h1, if_pos h2, if_pos h3] at h; rw [← h]; show some (1 + k) = some (k + 1); congr 1; omega
  · rw [if_neg h1, if_pos h2, if_neg h3, map_two] at h; exact h
  · rw [if_neg h1, if_neg h2, if_pos ⟨h3, h4⟩, map_two] at h; exact h
  · rw [if_neg h1, if_neg h2, if_neg (fun e => by rcases h3 with h3 | h3; exact h3 e.1; exact h3 e.2), map_two] at h; exact h
theorem clo_end {close : UInt8} {d k : Nat} {s : ByteArray} (h : CloIs close d k s) (hk : ¬ k < s.size) : cloX close s = none := by
  unfold CloIs at h
  rw [tl_end s k (by omega), clo_nil] at h; exact h.symm
/-- the first token's kind and length at a string -/
def frS (s : ByteArray) : Nat × Nat := fr s.data.toList
theorem data_cons (s : ByteArray) (h : 0 < s.size) : s.data.toList = s[0] :: tl s 1 := by rw [← tl_zero s, tl_cons s 0 h]
theorem cls_X (k : Nat) (close : UInt8) (s : ByteArray) (h : 0 < s.size) : cls k close s.data.toList = match cloX close s with | some m => (k, m) | none => (7, s.size) := by
  unfold cls cloX
  rw [data_cons s h, List.drop_succ_cons, List.drop_zero]
  cases clo close 1 (tl s 1) with
  | none =>
    show (7, _) = (7, _)
    rw [← data_cons s h]; rfl
  | some m => rfl
theorem cloX_le {close : UInt8} {s : ByteArray} {m : Nat} (h : cloX close s = some m) : 1 ≤ m ∧ m ≤ s.size := by
  unfold cloX at h
  cases hc : clo close 1 (tl s 1) with
  | none => rw [hc] at h; cases h
  | some q =>
    rw [hc] at h
    injection h with h
    have := clo_le close _ (tl s 1) (Nat.le_refl _) 1 q hc
    rw [tl_length] at this
    have h : q + 1 = m := h
    omega
theorem fr_cases (s : ByteArray) (h : 0 < s.size) :
    (blk s[0] = true ∧ frS s = (6, (s.data.toList.takeWhile blk).length)) ∨
    (blk s[0] = false ∧ s[0] = 40 ∧ frS s = cls 3 41 s.data.toList) ∨
    (blk s[0] = false ∧ s[0] = 34 ∧ frS s = cls 2 34 s.data.toList) ∨
    (blk s[0] = false ∧ s[0] = 91 ∧ frS s = cls 5 93 s.data.toList) ∨
    (blk s[0] = false ∧ s[0] ≠ 40 ∧ s[0] ≠ 34 ∧ s[0] ≠ 91 ∧ spec s[0] = true ∧ frS s = (4, 1)) ∨
    (blk s[0] = false ∧ s[0] ≠ 40 ∧ s[0] ≠ 34 ∧ s[0] ≠ 91 ∧ spec s[0] = false ∧ atm s[0] = true ∧ frS s = (1, (s.data.toList.takeWhile atm).length)) ∨
    (blk s[0] = false ∧ s[0] ≠ 40 ∧ s[0] ≠ 34 ∧ s[0] ≠ 91 ∧ spec s[0] = false ∧ atm s[0] = false ∧ frS s = (7, 1)) := by
  have e : frS s = fr (s[0] :: tl s 1) := by unfold frS; rw [← data_cons s h]
  rw [fr_cons, ← data_cons s h] at e
  cases h1 : blk s[0] with
  | true => rw [if_pos h1] at e; exact .inl ⟨rfl, e⟩
  | false =>
    rw [if_neg (by rw [h1]; decide)] at e
    by_cases h2 : s[0] = 40
    · rw [if_pos h2] at e; exact .inr (.inl ⟨rfl, h2, e⟩)
    · rw [if_neg h2] at e
      by_cases h3 : s[0] = 34
      · rw [if_pos h3] at e; exact .inr (.inr (.inl ⟨rfl, h3, e⟩))
      · rw [if_neg h3] at e
        by_cases h4 : s[0] = 91
        · rw [if_pos h4] at e; exact .inr (.inr (.inr (.inl ⟨rfl, h4, e⟩)))
        · rw [if_neg h4] at e
          cases h5 : spec s[0] with
          | true => rw [if_pos h5] at e; exact .inr (.inr (.inr (.inr (.inl ⟨rfl, h2, h3, h4, rfl, e⟩))))
          | false =>
            rw [if_neg (by rw [h5]; decide)] at e
            cases h6 : atm s[0] with
            | true => rw [if_pos h6] at e; exact .inr (.inr (.inr (.inr (.inr (.inl ⟨rfl, h2, h3, h4, rfl, rfl, e⟩)))))
            | false => rw [if_neg (by rw [h6]; decide)] at e; exact .inr (.inr (.inr (.inr (.inr (.inr ⟨rfl, h2, h3, h4, rfl, rfl, e⟩)))))
/-- the reference's test of a plain text -/
def is32 : Option UInt8 → Bool
  | none => false
  | some c => !(c == 32)
def hd32 : List UInt8 → Bool
  | [] => false
  | c :: _ => !(c == 32)
def okF : Option UInt8 → List UInt8 → Bool
  | _, [] => true
  | p, c :: r => (atm c || (c == 32 && (is32 p && hd32 r))) && okF (some c) r
theorem plF_ok : ∀ (l : List UInt8) (p : Option UInt8), plF (is32 p) l = (okF p l && (!l.isEmpty || is32 p))
  | [], p => by simp [plF, okF]
  | c :: r, p => by
    have ih := plF_ok r (some c)
    unfold plF okF
    by_cases hc : c = 32
    · subst hc
      have ha : atm 32 = false := by decide
      rw [if_pos rfl, ha]
      have i1 : is32 (some 32) = false := rfl
      rw [i1] at ih
      rw [ih]
      cases r with
      | nil => simp [okF, hd32]
      | cons a t =>
        by_cases h2 : a = 32
        · subst h2
          have : okF (some 32) (32 :: t) = false := by unfold okF; rw [ha]; rfl
          rw [this]; simp
        · have : hd32 (a :: t) = true := by simp [hd32, h2]
          rw [this]; simp
    · rw [if_neg hc]
      have i1 : is32 (some c) = true := by simp [is32, hc]
      rw [i1] at ih
      rw [ih]
      have : (c == 32) = false := beq_eq_false_iff_ne.2 hc
      rw [this]; simp
theorem plainQ_ok (l : List UInt8) : plainQ l = (!l.isEmpty && okF none l) := by
  have := plF_ok l none
  unfold plainQ
  rw [show is32 none = false from rfl] at this
  rw [this]
  simp [Bool.and_comm]
def prev (s : ByteArray) : Nat → Option UInt8
  | 0 => none
  | k + 1 => s.data.toList[k]?
def OkIs (s : ByteArray) (b : Bool) (k : Nat) : Prop := (b && okF (prev s k) (tl s k)) = plainQ s.data.toList
theorem ok_start (s : ByteArray) : OkIs s (!s.data.toList.isEmpty) 0 := by
  unfold OkIs
  rw [plainQ_ok, tl_zero]; rfl
/-- whether byte k fits -/
def okAt (s : ByteArray) (k : Nat) (h : k < s.size) : Bool := atm s[k] || (s[k] == 32 && (is32 (prev s k) && hd32 (tl s (k + 1))))
theorem ok_step {s : ByteArray} {b : Bool} {k : Nat} (h : OkIs s b k) (hk : k < s.size) : OkIs s (b && okAt s k hk) (k + 1) := by
  unfold OkIs at *
  rw [← h, tl_cons s k hk]
  have e : prev s (k + 1) = some s[k] := by
    show s.data.toList[k]? = _
    rw [List.getElem?_eq_getElem (by show k < s.size; exact hk)]; rfl
  rw [e]
  conv => rhs; unfold okF
  unfold okAt
  rw [Bool.and_assoc]
theorem ok_end {s : ByteArray} {b : Bool} {k : Nat} (h : OkIs s b k) (hk : ¬ k < s.size) : plainQ s.data.toList = b := by
  unfold OkIs at h
  rw [tl_end s k (by omega)] at h
  unfold okF at h
  rw [← h, Bool.and_true]
end Tk
