/- Plain: UTF-8 on lists of bytes. Plain: strings gone through rune by rune. -/
import Derived.Test.YtjoipgekmnnlpaaGreatDoorKit
import Derived.Lib.RuneBytes
namespace U8
open Go Pk

def at' (l : List UInt8) (k : Nat) : Nat := (l.getD k 0).toNat
def cont (l : List UInt8) (k : Nat) : Bool := decide (k < l.length) && (at' l k / 64 == 2)
/-- the rune at the head, and its width (65533 and 1 where none stands there) -/
def dec (l : List UInt8) : Nat × Nat :=
  if at' l 0 < 0x80 then (at' l 0, 1)
  else if (at' l 0 / 32 == 6 && cont l 1) = true then
    if at' l 0 % 32 * 64 + at' l 1 % 64 ≥ 0x80 then (at' l 0 % 32 * 64 + at' l 1 % 64, 2) else (65533, 1)
  else if (at' l 0 / 16 == 14 && cont l 1 && cont l 2) = true then
    if (decide (at' l 0 % 16 * 4096 + at' l 1 % 64 * 64 + at' l 2 % 64 ≥ 0x800) && Utf8.valid ((at' l 0 % 16 * 4096 + at' l 1 % 64 * 64 + at' l 2 % 64 : Nat) : Int)) = true then (at' l 0 % 16 * 4096 + at' l 1 % 64 * 64 + at' l 2 % 64, 3) else (65533, 1)
  else if (at' l 0 / 8 == 30 && cont l 1 && cont l 2 && cont l 3) = true then
    if (decide (at' l 0 % 8 * 262144 + at' l 1 % 64 * 4096 + at' l 2 % 64 * 64 + at' l 3 % 64 ≥ 0x10000) && Utf8.valid ((at' l 0 % 8 * 262144 + at' l 1 % 64 * 4096 + at' l 2 % 64 * 64 + at' l 3 % 64 : Nat) : Int)) = true then (at' l 0 % 8 * 262144 + at' l 1 % 64 * 4096 + at' l 2 % 64 * 64 + at' l 3 % 64, 4) else (65533, 1)
  else (65533, 1)
theorem at_lt (l : List UInt8) (k : Nat) : at' l k < 256 := UInt8.toNat_lt _
theorem get_eq (s : ByteArray) (i k : Nat) : (s.get! (i + k)).toNat = at' (tl s i) k := by
  unfold at' tl
  rw [List.getD_eq_getElem?_getD, List.getElem?_drop]
  show (s.data[i + k]!).toNat = _
  rw [getElem!_def]
  rw [Array.getElem?_toList]
  cases s.data[i + k]? <;> rfl
theorem dec_eq (s : ByteArray) (i : Nat) : Utf8.decode s i = dec (tl s i) := by
  have hc : ∀ k, (decide (i + k < s.size) && (at' (tl s i) k / 64 == 2)) = cont (tl s i) k := by
    intro k
    unfold cont
    rw [tl_length]
    congr 1
    by_cases h : i + k < s.size
    · rw [decide_eq_true h, decide_eq_true (by omega)]
    · rw [decide_eq_false h, decide_eq_false (by omega)]
  unfold Utf8.decode dec
  simp only [get_eq, Utf8.runeError, hc]
theorem enc_two (n : Nat) (h0 : 128 ≤ n) (h1 : n < 2048) : Lib.encodeRune (n : Int) = [UInt8.ofNat (192 + n / 64), UInt8.ofNat (128 + n % 64)] := by
  unfold Lib.encodeRune
  rw [Lib.encodeRuneZ_two (by omega) (by omega)]
  simp only [List.map_cons, List.map_nil]
  congr 2
theorem enc_one (n : Nat) (h1 : n < 128) : Lib.encodeRune (n : Int) = [UInt8.ofNat n] := by
  unfold Lib.encodeRune
  rw [Lib.encodeRuneZ_one (by omega) (by omega)]
  rfl
theorem enc_three (n : Nat) (h : (2048 ≤ n ∧ n < 55296) ∨ (57343 < n ∧ n ≤ 65535)) : Lib.encodeRune (n : Int) = [UInt8.ofNat (224 + n / 4096), UInt8.ofNat (128 + n / 64 % 64), UInt8.ofNat (128 + n % 64)] := by
  unfold Lib.encodeRune
  rw [Lib.encodeRuneZ_three (by omega)]
  simp only [List.map_cons, List.map_nil]
  congr 3
theorem enc_four (n : Nat) (h0 : 65536 ≤ n) (h1 : n ≤ 1114111) : Lib.encodeRune (n : Int) = [UInt8.ofNat (240 + n / 262144), UInt8.ofNat (128 + n / 4096 % 64), UInt8.ofNat (128 + n / 64 % 64), UInt8.ofNat (128 + n % 64)] := by
  unfold Lib.encodeRune
  rw [Lib.encodeRuneZ_four (by omega) (by omega)]
  simp only [List.map_cons, List.map_nil]
  congr 4
/-- a code point -/
def Sca (n : Nat) : Prop := n < 55296 ∨ (57343 < n ∧ n ≤ 1114111)
theorem valid_iff (n : Nat) : Utf8.valid (n : Int) = true ↔ Sca n := by
  unfold Utf8.valid Sca
  simp only [Bool.or_eq_true, Bool.and_eq_true, decide_eq_true_eq]
  omega
theorem at_cons0 (a : UInt8) (r : List UInt8) : at' (a :: r) 0 = a.toNat := rfl
theorem at_cons (a : UInt8) (r : List UInt8) (k : Nat) : at' (a :: r) (k + 1) = at' r k := rfl
theorem cont_cons (a : UInt8) (r : List UInt8) (k : Nat) : cont (a :: r) (k + 1) = cont r k := by
  unfold cont; rw [at_cons]; simp
theorem cont_zero (a : UInt8) (r : List UInt8) : cont (a :: r) 0 = (a.toNat / 64 == 2) := by unfold cont; rw [at_cons0]; simp
theorem cont_nil (k : Nat) : cont [] k = false := by unfold cont; simp
/-- decoding what was encoded -/
theorem dec_enc (n : Nat) (h : Sca n) (x : List UInt8) : dec (Lib.encodeRune (n : Int) ++ x) = (n, (Lib.encodeRune (n : Int)).length) := by
  unfold Sca at h
  by_cases h1 : n < 128
  · rw [enc_one n h1]
    unfold dec
    rw [List.singleton_append, at_cons0, if_pos (by simp; omega)]
    simp; omega
  · by_cases h2 : n < 2048
    · rw [enc_two n (by omega) h2]
      have e0 : (UInt8.ofNat (192 + n / 64)).toNat = 192 + n / 64 := by rw [UInt8.toNat_ofNat']; omega
      have e1 : (UInt8.ofNat (128 + n % 64)).toNat = 128 + n % 64 := by rw [UInt8.toNat_ofNat']; omega
      unfold dec
      simp only [List.cons_append, List.nil_append, at_cons0, at_cons, cont_cons, cont_zero, e0, e1]
      rw [if_neg (by omega), if_pos (by simp; omega), if_pos (by omega)]
      simp; omega
    · by_cases h3 : n < 65536
      · rw [enc_three n (by omega)]
        have e0 : (UInt8.ofNat (224 + n / 4096)).toNat = 224 + n / 4096 := by rw [UInt8.toNat_ofNat']; omega
        have e1 : (UInt8.ofNat (128 + n / 64 % 64)).toNat = 128 + n / 64 % 64 := by rw [UInt8.toNat_ofNat']; omega
        have e2 : (UInt8.ofNat (128 + n % 64)).toNat = 128 + n % 64 := by rw [UInt8.toNat_ofNat']; omega
        have e : (224 + n / 4096) % 16 * 4096 + (128 + n / 64 % 64) % 64 * 64 + (128 + n % 64) % 64 = n := by omega
        unfold dec
        simp only [List.cons_append, List.nil_append, at_cons0, at_cons, cont_cons, cont_zero, e0, e1, e2, e]
        rw [if_neg (by omega), if_neg (by simp; omega), if_pos (by simp; omega), if_pos (by rw [Bool.and_eq_true, decide_eq_true_eq, valid_iff]; unfold Sca; omega)]
        rfl
      · rw [enc_four n (by omega) (by omega)]
        have e0 : (UInt8.ofNat (240 + n / 262144)).toNat = 240 + n / 262144 := by rw [UInt8.toNat_ofNat']; omega
        have e1 : (UInt8.ofNat (128 + n / 4096 % 64)).toNat = 128 + n / 4096 % 64 := by rw [UInt8.toNat_ofNat']; omega
        have e2 : (UInt8.ofNat (128 + n / 64 % 64)).toNat = 128 + n / 64 % 64 := by rw [UInt8.toNat_ofNat']; omega
        have e3 : (UInt8.ofNat (128 + n % 64)).toNat = 128 + n % 64 := by rw [UInt8.toNat_ofNat']; omega
        have e : (240 + n / 262144) % 8 * 262144 + (128 + n / 4096 % 64) % 64 * 4096 + (128 + n / 64 % 64) % 64 * 64 + (128 + n % 64) % 64 = n := by omega
        unfold dec
        simp only [List.cons_append, List.nil_append, at_cons0, at_cons, cont_cons, cont_zero, e0, e1, e2, e3, e]
        rw [if_neg (by omega), if_neg (by simp; omega), if_neg (by simp; omega), if_pos (by simp; omega), if_pos (by rw [Bool.and_eq_true, decide_eq_true_eq, valid_iff]; unfold Sca; omega)]
        rfl
/-- does a code point stand at the head? -/
def Okay (l : List UInt8) : Prop := at' l 0 < 128 ∨ 1 < (dec l).2
instance (l : List UInt8) : Decidable (Okay l) := by unfold Okay; infer_instance
theorem b_of {b : UInt8} {n : Nat} (h : b.toNat = n) : b = UInt8.ofNat n := by subst h; simp
/-- encoding what was decoded -/
theorem enc_dec (l : List UInt8) (hl : l ≠ []) (h : Okay l) : Sca (dec l).1 ∧ Lib.encodeRune ((dec l).1 : Int) = l.take (dec l).2 := by
  obtain ⟨a, r, rfl⟩ : ∃ a r, l = a :: r := by cases l with
    | nil => exact absurd rfl hl
    | cons a r => exact ⟨a, r, rfl⟩
  have ha := a.toNat_lt
  unfold Okay at h
  by_cases h0 : at' (a :: r) 0 < 128
  · have e : dec (a :: r) = (a.toNat, 1) := by unfold dec; rw [if_pos (by omega)]; rfl
    rw [at_cons0] at h0
    rw [e]
    exact ⟨.inl (by show a.toNat < _; omega), by show Lib.encodeRune (a.toNat : Int) = [a]; rw [enc_one _ h0]; simp⟩
  · have h : 1 < (dec (a :: r)).2 := h.resolve_left h0
    rw [at_cons0] at h0
    by_cases c2 : (at' (a :: r) 0 / 32 == 6 && cont (a :: r) 1) = true
    · by_cases d2 : at' (a :: r) 0 % 32 * 64 + at' (a :: r) 1 % 64 ≥ 0x80
      · have e : dec (a :: r) = (at' (a :: r) 0 % 32 * 64 + at' (a :: r) 1 % 64, 2) := by unfold dec; rw [if_neg (by rw [at_cons0]; omega), if_pos c2, if_pos d2]
        cases r with
        | nil => rw [cont_cons, cont_nil] at c2; simp at c2
        | cons b r =>
          have hb := b.toNat_lt
          rw [cont_cons, cont_zero, at_cons0] at c2
          simp only [Bool.and_eq_true, beq_iff_eq] at c2
          rw [at_cons, at_cons0, at_cons0] at d2 e
          rw [e]
          refine ⟨.inl (by show _ < 55296; omega), ?_⟩
          show Lib.encodeRune ((a.toNat % 32 * 64 + b.toNat % 64 : Nat) : Int) = [a, b]
          rw [enc_two _ (by omega) (by omega), b_of (b := a) (n := 192 + (a.toNat % 32 * 64 + b.toNat % 64) / 64) (by omega), b_of (b := b) (n := 128 + (a.toNat % 32 * 64 + b.toNat % 64) % 64) (by omega)]
          have ea : (UInt8.ofNat (192 + (a.toNat % 32 * 64 + b.toNat % 64) / 64)) = a := (b_of (by omega)).symm
          have eb : (UInt8.ofNat (128 + (a.toNat % 32 * 64 + b.toNat % 64) % 64)) = b := (b_of (by omega)).symm
          simp only [ea, eb]
      · have e : dec (a :: r) = (65533, 1) := by unfold dec; rw [if_neg (by rw [at_cons0]; omega), if_pos c2, if_neg d2]
        rw [e] at h; simp at h
    · by_cases c3 : (at' (a :: r) 0 / 16 == 14 && cont (a :: r) 1 && cont (a :: r) 2) = true
      · by_cases d3 : (decide (at' (a :: r) 0 % 16 * 4096 + at' (a :: r) 1 % 64 * 64 + at' (a :: r) 2 % 64 ≥ 0x800) && Utf8.valid ((at' (a :: r) 0 % 16 * 4096 + at' (a :: r) 1 % 64 * 64 + at' (a :: r) 2 % 64 : Nat) : Int)) = true
        · have e : dec (a :: r) = (at' (a :: r) 0 % 16 * 4096 + at' (a :: r) 1 % 64 * 64 + at' (a :: r) 2 % 64, 3) := by unfold dec; rw [if_neg (by rw [at_cons0]; omega), if_neg c2, if_pos c3, if_pos d3]
          rcases r with _ | ⟨b, _ | ⟨c, r⟩⟩
          · rw [cont_cons, cont_nil] at c3; simp at c3
          · rw [cont_cons, cont_cons, cont_cons, cont_nil] at c3; simp at c3
          · have hb := b.toNat_lt
            have hc := c.toNat_lt
            rw [cont_cons, cont_cons, cont_cons, cont_zero, cont_zero, at_cons0] at c3
            rw [Bool.and_eq_true, decide_eq_true_eq, valid_iff] at d3
            simp only [Bool.and_eq_true, beq_iff_eq] at c3
            simp only [at_cons, at_cons0] at d3 e
            obtain ⟨d3, d4⟩ := d3
            obtain ⟨N, hN⟩ : ∃ N, N = a.toNat % 16 * 4096 + b.toNat % 64 * 64 + c.toNat % 64 := ⟨_, rfl⟩
            rw [← hN] at d3 d4 e
            rw [e]
            refine ⟨d4, ?_⟩
            show Lib.encodeRune (N : Int) = [a, b, c]
            unfold Sca at d4
            have ea : (UInt8.ofNat (224 + N / 4096)) = a := (b_of (by omega)).symm
            have eb : (UInt8.ofNat (128 + N / 64 % 64)) = b := (b_of (by omega)).symm
            have ec : (UInt8.ofNat (128 + N % 64)) = c := (b_of (by omega)).symm
            rw [enc_three _ (by omega), ea, eb, ec]
        · have e : dec (a :: r) = (65533, 1) := by unfold dec; rw [if_neg (by rw [at_cons0]; omega), if_neg c2, if_pos c3, if_neg d3]
          rw [e] at h; simp at h
      · by_cases c4 : (at' (a :: r) 0 / 8 == 30 && cont (a :: r) 1 && cont (a :: r) 2 && cont (a :: r) 3) = true
        · by_cases d4 : (decide (at' (a :: r) 0 % 8 * 262144 + at' (a :: r) 1 % 64 * 4096 + at' (a :: r) 2 % 64 * 64 + at' (a :: r) 3 % 64 ≥ 0x10000) && Utf8.valid ((at' (a :: r) 0 % 8 * 262144 + at' (a :: r) 1 % 64 * 4096 + at' (a :: r) 2 % 64 * 64 + at' (a :: r) 3 % 64 : Nat) : Int)) = true
          · have e : dec (a :: r) = (at' (a :: r) 0 % 8 * 262144 + at' (a :: r) 1 % 64 * 4096 + at' (a :: r) 2 % 64 * 64 + at' (a :: r) 3 % 64, 4) := by unfold dec; rw [if_neg (by rw [at_cons0]; omega), if_neg c2, if_neg c3, if_pos c4, if_pos d4]
            rcases r with _ | ⟨b, _ | ⟨c, _ | ⟨d, r⟩⟩⟩
            · rw [cont_cons, cont_nil] at c4; simp at c4
            · rw [cont_cons, cont_cons, cont_cons, cont_nil] at c4; simp at c4
            · rw [cont_cons, cont_cons, cont_cons, cont_cons, cont_cons, cont_cons, cont_nil] at c4; simp at c4
            · have hb := b.toNat_lt
              have hc := c.toNat_lt
              have hd := d.toNat_lt
              rw [cont_cons, cont_cons, cont_cons, cont_cons, cont_cons, cont_cons, cont_zero, cont_zero, cont_zero, at_cons0] at c4
              rw [Bool.and_eq_true, decide_eq_true_eq, valid_iff] at d4
              simp only [Bool.and_eq_true, beq_iff_eq] at c4
              simp only [at_cons, at_cons0] at d4 e
              obtain ⟨d4, d5⟩ := d4
              obtain ⟨N, hN⟩ : ∃ N, N = a.toNat % 8 * 262144 + b.toNat % 64 * 4096 + c.toNat % 64 * 64 + d.toNat % 64 := ⟨_, rfl⟩
              rw [← hN] at d4 d5 e
              rw [e]
              refine ⟨d5, ?_⟩
              show Lib.encodeRune (N : Int) = [a, b, c, d]
              unfold Sca at d5
              have ea : (UInt8.ofNat (240 + N / 262144)) = a := (b_of (by omega)).symm
              have eb : (UInt8.ofNat (128 + N / 4096 % 64)) = b := (b_of (by omega)).symm
              have ec : (UInt8.ofNat (128 + N / 64 % 64)) = c := (b_of (by omega)).symm
              have ed : (UInt8.ofNat (128 + N % 64)) = d := (b_of (by omega)).symm
              rw [enc_four _ (by omega) (by omega), ea, eb, ec, ed]
          · have e : dec (a :: r) = (65533, 1) := by unfold dec; rw [if_neg (by rw [at_cons0]; omega), if_neg c2, if_neg c3, if_pos c4, if_neg d4]
            rw [e] at h; simp at h
        · have e : dec (a :: r) = (65533, 1) := by unfold dec; rw [if_neg (by rw [at_cons0]; omega), if_neg c2, if_neg c3, if_neg c4]
          rw [e] at h; simp at h
theorem dec_bad (l : List UInt8) (h : ¬ Okay l) : dec l = (65533, 1) := by
  unfold Okay at h
  have h0 : ¬ at' l 0 < 128 := fun c => h (.inl c)
  have h1 : ¬ 1 < (dec l).2 := fun c => h (.inr c)
  unfold dec at h1 ⊢
  rw [if_neg (by omega)] at h1 ⊢
  by_cases c2 : (at' l 0 / 32 == 6 && cont l 1) = true
  · rw [if_pos c2] at h1 ⊢
    split at h1
    · simp at h1
    · rename_i d; rw [if_neg d]
  · rw [if_neg c2] at h1 ⊢
    by_cases c3 : (at' l 0 / 16 == 14 && cont l 1 && cont l 2) = true
    · rw [if_pos c3] at h1 ⊢
      split at h1
      · simp at h1
      · rename_i d; rw [if_neg d]
    · rw [if_neg c3] at h1 ⊢
      by_cases c4 : (at' l 0 / 8 == 30 && cont l 1 && cont l 2 && cont l 3) = true
      · rw [if_pos c4] at h1 ⊢
        split at h1
        · simp at h1
        · rename_i d; rw [if_neg d]
      · rw [if_neg c4]
theorem enc_len (n : Nat) : 1 ≤ (Lib.encodeRune (n : Int)).length ∧ (Lib.encodeRune (n : Int)).length ≤ 4 := by
  unfold Lib.encodeRune Lib.encodeRuneZ
  repeat' split
  all_goals simp
theorem dec_width (l : List UInt8) (hl : l ≠ []) : 1 ≤ (dec l).2 ∧ (dec l).2 ≤ 4 ∧ (dec l).2 ≤ l.length := by
  have hpos : 0 < l.length := List.length_pos_iff.2 hl
  by_cases h : Okay l
  · have hw : (dec l).2 = 1 ∨ (dec l).2 = 2 ∨ (dec l).2 = 3 ∨ (dec l).2 = 4 := by
      unfold dec; repeat' split
      all_goals simp
    refine ⟨by omega, by omega, ?_⟩
    have h1 := (enc_dec l hl h).1
    have h2 := (enc_dec l hl h).2
    have h3 := dec_enc (dec l).1 h1 (l.drop (dec l).2)
    rw [h2, List.take_append_drop] at h3
    have h4 := congrArg Prod.snd h3
    simp only [List.length_take] at h4
    omega
  · rw [dec_bad l h]; exact ⟨by simp, by simp, hpos⟩
theorem dec_rune (l : List UInt8) (hl : l ≠ []) : Sca (dec l).1 := by
  by_cases h : Okay l
  · exact (enc_dec l hl h).1
  · rw [dec_bad l h]; exact .inr (by simp)
/-- where a code point's encoding stands at the head, it is decoded -/
theorem dec_of (l : List UInt8) (n : Nat) (h : Sca n) (k : Nat) (he : Lib.encodeRune (n : Int) = l.take k) : dec l = (n, (Lib.encodeRune (n : Int)).length) := by
  have := dec_enc n h (l.drop k)
  rwa [he, List.take_append_drop, ← he] at this
end U8
namespace U8
open Go Go.RowKit Pk

/-- what g gives at each rune or invalid byte, one behind the other -/
def walkF {α : Type} (g : List UInt8 → List α) : Nat → List UInt8 → List α
  | 0, _ => []
  | f + 1, l => if l.isEmpty = true then [] else g l ++ walkF g f (l.drop (dec l).2)
def walk {α : Type} (g : List UInt8 → List α) (l : List UInt8) : List α := walkF g l.length l
theorem walkF_more {α : Type} (g : List UInt8 → List α) : ∀ (f : Nat) (l : List UInt8), l.length ≤ f → walkF g f l = walk g l := by
  intro f
  induction f using Nat.strongRecOn with
  | _ f ih =>
    intro l hl
    cases l with
    | nil => cases f <;> rfl
    | cons a r =>
      cases f with
      | zero => simp at hl
      | succ f =>
        have hw := dec_width (a :: r) (by simp)
        unfold walk
        rw [List.length_cons, walkF, walkF]
        rw [if_neg (by simp), if_neg (by simp)]
        congr 1
        have hd : ((a :: r).drop (dec (a :: r)).2).length ≤ r.length := by rw [List.length_drop, List.length_cons]; omega
        simp only [List.length_cons] at hl
        rw [ih f (by omega) _ (by omega)]
        by_cases he : r.length = f
        · rw [he, ih f (by omega) _ (by omega)]
        · rw [ih r.length (by omega) _ hd]
theorem walk_nil {α : Type} (g : List UInt8 → List α) : walk g [] = [] := rfl
theorem walk_cons {α : Type} (g : List UInt8 → List α) (l : List UInt8) (h : l ≠ []) : walk g l = g l ++ walk g (l.drop (dec l).2) := by
  cases l with
  | nil => exact absurd rfl h
  | cons a r =>
    have hw := dec_width (a :: r) (by simp)
    conv => lhs; unfold walk
    rw [List.length_cons, walkF, if_neg (by simp), walkF_more]
    rw [List.length_drop, List.length_cons]; omega
theorem walk_enc {α : Type} (g : List UInt8 → List α) (n : Nat) (h : Sca n) (x : List UInt8) : walk g (Lib.encodeRune (n : Int) ++ x) = g (Lib.encodeRune (n : Int) ++ x) ++ walk g x := by
  have hne : Lib.encodeRune (n : Int) ++ x ≠ [] := by
    intro e
    have := (enc_len n).1
    rw [List.append_eq_nil_iff] at e
    rw [e.1] at this; simp at this
  rw [walk_cons g _ hne, dec_enc n h]
  simp
theorem walk_length {α : Type} (g : List UInt8 → List α) (c : Nat) (hg : ∀ l, l ≠ [] → (g l).length ≤ c * (dec l).2) : ∀ (n : Nat) (l : List UInt8), l.length ≤ n → (walk g l).length ≤ c * l.length := by
  intro n
  induction n with
  | zero => intro l h; have : l = [] := List.eq_nil_of_length_eq_zero (by omega); subst this; simp [walk_nil]
  | succ n ih =>
    intro l h
    by_cases he : l = []
    · subst he; simp [walk_nil]
    · have hw := dec_width l he
      rw [walk_cons g l he, List.length_append]
      have h1 := hg l he
      have h2 := ih (l.drop (dec l).2) (by rw [List.length_drop]; omega)
      rw [List.length_drop, Nat.mul_sub] at h2
      have h3 : c * (dec l).2 ≤ c * l.length := Nat.mul_le_mul_left _ hw.2.2
      omega
/-! along a string -/
theorem tl_drop (s : ByteArray) (p k : Nat) : (tl s p).drop k = tl s (p + k) := by unfold tl; rw [List.drop_drop]
theorem tl_ne {s : ByteArray} {p : Nat} (h : p < s.size) : tl s p ≠ [] := by
  intro e
  have := tl_length s p
  rw [e] at this; simp at this; omega
theorem walk_step {α : Type} {g : List UInt8 → List α} {s : ByteArray} {p : Nat} {acc X : List α} (h : Hid (acc ++ walk g (tl s p) = X)) (hp : p < s.size) : Hid (acc ++ g (tl s p) ++ walk g (tl s (p + (dec (tl s p)).2)) = X) := by
  have e := h.out
  rw [walk_cons g _ (tl_ne hp), tl_drop] at e
  show _ = _
  rw [← e, List.append_assoc]
theorem walk_end {α : Type} {g : List UInt8 → List α} {s : ByteArray} {p : Nat} {acc X : List α} (h : Hid (acc ++ walk g (tl s p) = X)) (hp : ¬ p < s.size) : acc = X := by
  have e := h.out
  rw [tl_end s p (by omega), walk_nil] at e
  simpa using e
theorem width_le {s : ByteArray} {p : Nat} (hp : p < s.size) : 1 ≤ (dec (tl s p)).2 ∧ (dec (tl s p)).2 ≤ 4 ∧ p + (dec (tl s p)).2 ≤ s.size := by
  have := dec_width (tl s p) (tl_ne hp)
  rw [tl_length] at this
  omega
/-- the units, the runes, the repaired string -/
def units (l : List UInt8) : List (List UInt8) := walk (fun l => [l.take (dec l).2]) l
def runes (l : List UInt8) : List Nat := walk (fun l => [(dec l).1]) l
def encH (l : List UInt8) : List UInt8 := Lib.encodeRune ((dec l).1 : Int)
def repairL (l : List UInt8) : List UInt8 := walk encH l
theorem encH_len (l : List UInt8) (h : l ≠ []) : (encH l).length ≤ 3 * (dec l).2 := by
  unfold encH
  by_cases ho : Okay l
  · rw [(enc_dec l h ho).2, List.length_take]; omega
  · rw [dec_bad l ho]; decide
theorem repairL_length (l : List UInt8) : (repairL l).length ≤ 3 * l.length := walk_length encH 3 encH_len _ l (Nat.le_refl _)
theorem runes_length (l : List UInt8) : (runes l).length ≤ l.length := by
  have := walk_length (fun l => [(dec l).1]) 1 (fun l h => by have := dec_width l h; simp; omega) _ l (Nat.le_refl _)
  unfold runes; omega
theorem runes_Sca : ∀ (n : Nat) (l : List UInt8), l.length ≤ n → ∀ r ∈ runes l, Sca r := by
  intro n
  induction n with
  | zero => intro l h; have : l = [] := List.eq_nil_of_length_eq_zero (by omega); subst this; intro r hr; cases hr
  | succ n ih =>
    intro l h r hr
    by_cases he : l = []
    · subst he; cases hr
    · have hw := dec_width l he
      unfold runes at hr
      rw [walk_cons _ l he] at hr
      rcases List.mem_append.1 hr with hr | hr
      · rw [List.mem_singleton] at hr; subst hr; exact dec_rune l he
      · exact ih (l.drop (dec l).2) (by rw [List.length_drop]; omega) r hr
/-- code points encoded one behind the other -/
def encs (ns : List Nat) : List UInt8 := ns.flatMap fun (n : Nat) => Lib.encodeRune (n : Int)
theorem repair_encs : ∀ (n : Nat) (l : List UInt8), l.length ≤ n → repairL l = encs (runes l) := by
  intro n
  induction n with
  | zero => intro l h; have : l = [] := List.eq_nil_of_length_eq_zero (by omega); subst this; rfl
  | succ n ih =>
    intro l h
    by_cases he : l = []
    · subst he; rfl
    · have hw := dec_width l he
      have := ih (l.drop (dec l).2) (by rw [List.length_drop]; omega)
      unfold repairL runes at *
      rw [walk_cons _ l he, walk_cons _ l he, this]
      simp [encs, encH]
theorem walk_encs {α : Type} (g : List UInt8 → List α) (hg : ∀ n, Sca n → ∀ x, g (Lib.encodeRune (n : Int) ++ x) = g (Lib.encodeRune (n : Int))) : ∀ ns : List Nat, (∀ n ∈ ns, Sca n) → walk g (encs ns) = ns.flatMap fun (n : Nat) => g (Lib.encodeRune (n : Int))
  | [], _ => rfl
  | n :: ns, h => by
    have hn := h n (by simp)
    have e : encs (n :: ns) = Lib.encodeRune (n : Int) ++ encs ns := rfl
    rw [e, walk_enc g n hn, hg n hn, walk_encs g hg ns (fun m hm => h m (by simp [hm]))]
    rfl
theorem runes_encs (ns : List Nat) (h : ∀ n ∈ ns, Sca n) : runes (encs ns) = ns := by
  unfold runes
  rw [walk_encs _ (fun n hn x => by have h1 := dec_enc n hn x; have h2 := dec_enc n hn []; rw [List.append_nil] at h2; rw [h1, h2]) ns h]
  induction ns with
  | nil => rfl
  | cons n ns ih =>
    have h2 := dec_enc n (h n (by simp)) []
    rw [List.append_nil] at h2
    rw [List.flatMap_cons, ih (fun m hm => h m (by simp [hm])), h2]
    rfl
theorem runes_repair (l : List UInt8) : runes (repairL l) = runes l := by
  rw [repair_encs _ l (Nat.le_refl _), runes_encs _ (runes_Sca _ l (Nat.le_refl _))]
theorem repair_repair (l : List UInt8) : repairL (repairL l) = repairL l := by
  rw [repair_encs _ (repairL l) (Nat.le_refl _), runes_repair, ← repair_encs _ l (Nat.le_refl _)]
end U8
