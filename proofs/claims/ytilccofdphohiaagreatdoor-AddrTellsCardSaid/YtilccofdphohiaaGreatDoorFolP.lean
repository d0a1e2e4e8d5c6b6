/- Plain: the lower case of a rune. Plain: folding. -/
import Derived.Test.YtilccofdphohiaaGreatDoorUtx
import Derived.Lib.Strings
namespace Fo
open Go Pk U8

def spanL : List (Int × Int × Int × Int) := [(65, 90, 1, 32), (192, 214, 1, 32), (216, 222, 1, 32), (256, 303, 2, 1), (306, 311, 2, 1), (313, 328, 2, 1), (330, 375, 2, 1), (376, 376, 1, -121), (377, 382, 2, 1), (902, 902, 1, 38), (904, 906, 1, 37), (908, 908, 1, 64), (910, 911, 1, 63), (913, 929, 1, 32), (931, 939, 1, 32), (1024, 1039, 1, 80), (1040, 1071, 1, 32)]
def sp (i : Nat) : Int × Int × Int × Int := spanL.getD i (0, 0, 1, 0)
def spLo (i : Nat) : Int := (sp i).1
def spHi (i : Nat) : Int := (sp i).2.1
def spSt (i : Nat) : Int := (sp i).2.2.1
def spMo (i : Nat) : Int := (sp i).2.2.2
def lowF : List (Int × Int × Int × Int) → Int → Int
  | [], r => r
  | (lo, hi, st, mo) :: rest, r => if hi < r then lowF rest r else if lo ≤ r ∧ (r - lo) % st = 0 then r + mo else r
/-- the lower case of a rune -/
def lowI (r : Int) : Int := lowF spanL r
theorem sp_bd : ∀ i : Nat, i < 17 → 0 < spLo i ∧ spLo i ≤ spHi i ∧ spHi i < 2000 ∧ 0 < spSt i ∧ spSt i ≤ 2 ∧ -200 ≤ spMo i ∧ spMo i ≤ 200 := by decide +kernel
theorem sp_mono : ∀ i : Nat, i < 17 → ∀ j : Nat, j < 17 → i ≤ j → spHi i ≤ spHi j := by decide +kernel
theorem lowF_drop (r : Int) : ∀ (i : Nat), i ≤ 17 → (∀ k, k < i → spHi k < r) → lowF spanL r = lowF (spanL.drop i) r := by
  intro i
  induction i with
  | zero => intro _ _; rfl
  | succ i ih =>
    intro hi hk
    rw [ih (by omega) (fun k hk' => hk k (by omega))]
    have hlt : i < spanL.length := by show i < 17; omega
    rw [List.drop_eq_getElem_cons hlt]
    have e : spanL[i] = sp i := by unfold sp; rw [List.getD_eq_getElem?_getD, List.getElem?_eq_getElem hlt]; rfl
    rw [e]
    have := hk i (by omega)
    unfold spHi at this
    obtain ⟨⟨a, b, c, d⟩, hsp⟩ : ∃ x, sp i = x := ⟨_, rfl⟩
    rw [hsp] at this
    rw [hsp, lowF, if_pos this]
theorem lowI_found {r : Int} {i : Nat} (hi : i < 17) (h1 : ∀ k, k < i → spHi k < r) (h2 : ¬ spHi i < r) : lowI r = if spLo i ≤ r ∧ (r - spLo i) % spSt i = 0 then r + spMo i else r := by
  unfold lowI
  rw [lowF_drop r i (by omega) h1]
  have hlt : i < spanL.length := by show i < 17; omega
  rw [List.drop_eq_getElem_cons hlt]
  have e : spanL[i] = sp i := by unfold sp; rw [List.getD_eq_getElem?_getD, List.getElem?_eq_getElem hlt]; rfl
  rw [e]
  unfold spHi at h2
  unfold spLo spSt spMo
  obtain ⟨⟨a, b, c, d⟩, hsp⟩ : ∃ x, sp i = x := ⟨_, rfl⟩
  rw [hsp] at h2
  rw [hsp, lowF, if_neg h2]
theorem lowI_end {r : Int} (h1 : ∀ k, k < 17 → spHi k < r) : lowI r = r := by
  unfold lowI
  rw [lowF_drop r 17 (by omega) h1]
  rfl
end Fo
namespace Fo
open Go Go.RowKit Pk U8

/-- what folding writes for the rune or byte at the head -/
def foldH (l : List UInt8) : List UInt8 := if Okay l then Lib.encodeRune (lowI ((dec l).1 : Int)) else l.take 1
def foldL (l : List UInt8) : List UInt8 := walk foldH l
theorem lowI_small {r : Int} (h : 1200 ≤ r) : lowI r = r := lowI_end fun k hk => by
  have : ∀ k : Nat, k < 17 → spHi k < 1200 := by decide +kernel
  have := this k hk
  omega
theorem lowI_range : ∀ n : Nat, n < 1200 → 0 ≤ lowI (n : Int) ∧ lowI (n : Int) < 1200 ∧ (n < 128 → lowI (n : Int) < 128) ∧ (128 ≤ n → 128 ≤ lowI (n : Int)) := by decide +kernel
theorem lowI_nat (n : Nat) : ∃ m : Nat, lowI (n : Int) = (m : Int) ∧ (Sca n → Sca m) ∧ (n < 128 ↔ m < 128) ∧ (n < 2048 ↔ m < 2048) ∧ (n < 65536 ↔ m < 65536) := by
  by_cases h : n < 1200
  · obtain ⟨h1, h2, h3, h4⟩ := lowI_range n h
    refine ⟨(lowI (n : Int)).toNat, by omega, fun _ => .inl (by omega), by omega, by omega, by omega⟩
  · exact ⟨n, lowI_small (by omega), id, Iff.rfl, Iff.rfl, Iff.rfl⟩
theorem enc_len_eq {n m : Nat} (hn : Sca n) (hm : Sca m) (h1 : n < 128 ↔ m < 128) (h2 : n < 2048 ↔ m < 2048) (h3 : n < 65536 ↔ m < 65536) : (Lib.encodeRune (n : Int)).length = (Lib.encodeRune (m : Int)).length := by
  unfold Sca at hn hm
  by_cases a : n < 128
  · rw [enc_one n a, enc_one m (h1.1 a)]; rfl
  · by_cases b : n < 2048
    · rw [enc_two n (by omega) b, enc_two m (by omega) (h2.1 b)]; rfl
    · by_cases c : n < 65536
      · rw [enc_three n (by omega), enc_three m (by omega)]; rfl
      · rw [enc_four n (by omega) (by omega), enc_four m (by omega) (by omega)]; rfl
theorem foldH_len (l : List UInt8) (h : l ≠ []) : (foldH l).length = (dec l).2 := by
  unfold foldH
  split
  · rename_i ho
    have hs := (enc_dec l h ho).1
    have he := (enc_dec l h ho).2
    obtain ⟨m, hm, h1, h2, h3, h4⟩ := lowI_nat (dec l).1
    rw [hm, ← enc_len_eq hs (h1 hs) h2 h3 h4, he, List.length_take]
    have := dec_width l h
    omega
  · rename_i ho
    rw [dec_bad l ho, List.length_take]
    have : 0 < l.length := List.length_pos_iff.2 h
    show min 1 l.length = 1
    omega
theorem foldL_length (l : List UInt8) : (foldL l).length ≤ l.length := by
  have := walk_length foldH 1 (fun l h => by rw [foldH_len l h]; omega) _ l (Nat.le_refl _)
  unfold foldL; omega
def bad3 : List UInt8 := [239, 191, 189]
theorem enc_bad : Lib.encodeRune (65533 : Int) = bad3 := by decide
theorem pre_bad (l : List UInt8) (hl : l ≠ []) (hr : (dec l).1 = 65533) : Lib.hasPrefix l bad3 = decide (Okay l) := by
  unfold Lib.hasPrefix
  by_cases ho : Okay l
  · rw [decide_eq_true ho]
    have he := (enc_dec l hl ho).2
    rw [hr] at he
    have he' : bad3 = l.take (dec l).2 := enc_bad.symm.trans he
    rw [List.isPrefixOf_iff_prefix, he']
    exact List.take_prefix _ _
  · rw [decide_eq_false ho, ← Bool.not_eq_true, List.isPrefixOf_iff_prefix]
    rintro ⟨t, rfl⟩
    apply ho
    have : dec (bad3 ++ t) = (65533, (Lib.encodeRune (65533 : Int)).length) := by
      rw [← enc_bad]; exact dec_enc 65533 (.inr (by omega)) t
    right; rw [this, enc_bad]; decide
theorem foldH_ok {l : List UInt8} (ho : Okay l) : foldH l = Lib.encodeRune (lowI ((dec l).1 : Int)) := by unfold foldH; rw [if_pos ho]
theorem foldH_bad {l : List UInt8} (ho : ¬ Okay l) : foldH l = l.take 1 := by unfold foldH; rw [if_neg ho]
theorem lowI_bd (n : Nat) (h : n ≤ 1114111) : 0 ≤ lowI (n : Int) ∧ lowI (n : Int) ≤ 1114111 := by
  by_cases h' : n < 1200
  · obtain ⟨h1, h2, -, -⟩ := lowI_range n h'; omega
  · rw [lowI_small (by omega)]; omega
end Fo
