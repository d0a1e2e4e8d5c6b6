/- Plain: the units of a string, one at a time; folding unit by unit. -/
import Derived.Test.YtilccofdphohiaaGreatDoorP30
import Derived.Test.YtilccofdphohiaaGreatDoorKitX
import Derived.Test.YtilccofdphohiaaGreatDoorSubPP
namespace Fo
open Go Go.RowKit Lib Pk U8 Su

/-- the units as strings -/
def unitG (l : List UInt8) : List ByteArray := [⟨(l.take (dec l).2).toArray⟩]
def unitsB (l : List UInt8) : List ByteArray := walk unitG l
/-- what is known of a unit -/
structure IsUnit (u : ByteArray) : Prop where
  pos : 0 < u.size
  wid : (dec u.data.toList).2 = u.size
theorem take_dec {l : List UInt8} (h : l ≠ []) : (l.take (dec l).2).length = (dec l).2 := by
  have := dec_width l h
  rw [List.length_take]; omega
theorem dec_take {l : List UInt8} (h : l ≠ []) : dec (l.take (dec l).2) = dec l := by
  by_cases ho : Okay l
  · obtain ⟨h1, h2⟩ := enc_dec l h ho
    have h3 := dec_enc (dec l).1 h1 []
    have hl := take_dec h
    rw [List.append_nil, h2, hl] at h3
    exact h3
  · have hd := dec_bad l ho
    rw [hd]
    refine dec_bad _ fun ho2 => ?_
    have hw := dec_width (l.take 1) (by cases l with | nil => exact absurd rfl h | cons a r => simp)
    have hlen : (l.take 1).length ≤ 1 := by rw [List.length_take]; omega
    rcases ho2 with h1 | h1
    · refine ho (.inl ?_)
      cases l with
      | nil => exact absurd rfl h
      | cons a r => exact h1
    · have e : (65533, 1).2 = 1 := rfl
      rw [e] at h1; omega
theorem okay_take {l : List UInt8} (h : l ≠ []) : Okay (l.take (dec l).2) ↔ Okay l := by
  have hw := dec_width l h
  unfold Okay
  rw [dec_take h]
  cases l with
  | nil => exact absurd rfl h
  | cons a r =>
    obtain ⟨k, hk⟩ : ∃ k, (dec (a :: r)).2 = k + 1 := ⟨(dec (a :: r)).2 - 1, by omega⟩
    rw [hk, List.take_succ_cons, at_cons0, at_cons0]
theorem foldH_take {l : List UInt8} (h : l ≠ []) : foldH (l.take (dec l).2) = foldH l := by
  unfold foldH
  by_cases ho : Okay l
  · rw [if_pos ho, if_pos ((okay_take h).2 ho), dec_take h]
  · rw [if_neg ho, if_neg (fun x => ho ((okay_take h).1 x)), dec_bad l ho, List.take_take]
    rfl
theorem unit_of {l : List UInt8} (h : l ≠ []) : IsUnit ⟨(l.take (dec l).2).toArray⟩ := by
  have hw := dec_width l h
  have hl := take_dec h
  refine ⟨?_, ?_⟩
  · show 0 < (l.take (dec l).2).toArray.size
    simp only [List.size_toArray]; omega
  · show (dec (l.take (dec l).2).toArray.toList).2 = (l.take (dec l).2).toArray.size
    simp only [List.size_toArray]
    rw [dec_take h, hl]
theorem units_mem : ∀ (n : Nat) (l : List UInt8), l.length ≤ n → ∀ u ∈ unitsB l, IsUnit u := by
  intro n
  induction n with
  | zero => intro l h u hu; have : l = [] := List.eq_nil_of_length_eq_zero (by omega); subst this; cases hu
  | succ n ih =>
    intro l h u hu
    by_cases he : l = []
    · subst he; cases hu
    · have hw := dec_width l he
      unfold unitsB at hu
      rw [walk_cons _ l he, List.mem_append] at hu
      rcases hu with hu | hu
      · unfold unitG at hu
        rw [List.mem_singleton] at hu
        subst hu
        exact unit_of he
      · exact ih _ (by rw [List.length_drop]; omega) u hu
theorem units_length (l : List UInt8) : (unitsB l).length ≤ l.length := by
  have := walk_length unitG 1 (fun l h => by have := dec_width l h; unfold unitG; rw [List.length_singleton]; omega) _ l (Nat.le_refl _)
  unfold unitsB; omega
/-- folding unit by unit -/
def foldU (us : List ByteArray) : List UInt8 := us.flatMap fun u => foldH u.data.toList
theorem foldU_units : ∀ (n : Nat) (l : List UInt8), l.length ≤ n → foldU (unitsB l) = foldL l := by
  intro n
  induction n with
  | zero => intro l h; have : l = [] := List.eq_nil_of_length_eq_zero (by omega); subst this; rfl
  | succ n ih =>
    intro l h
    by_cases he : l = []
    · subst he; rfl
    · have hw := dec_width l he
      have := ih (l.drop (dec l).2) (by rw [List.length_drop]; omega)
      unfold unitsB foldL at *
      rw [walk_cons _ l he, walk_cons _ l he, ← this]
      unfold foldU unitG
      rw [List.flatMap_append, List.flatMap_singleton, foldH_take he]
theorem foldU_step {us : List ByteArray} {k : Nat} {acc X d : List UInt8} (h : Hid (acc ++ foldU (us.drop k) = X)) (hk : k < us.length) (hd : foldH us[k].data.toList = d) : Hid (acc ++ d ++ foldU (us.drop (k + 1)) = X) := by
  have e := h.out
  rw [List.drop_eq_getElem_cons hk] at e
  show _ = _
  rw [← e, ← hd]
  unfold foldU
  rw [List.flatMap_cons, List.append_assoc]
theorem foldU_end {us : List ByteArray} {k : Nat} {acc X : List UInt8} (h : Hid (acc ++ foldU (us.drop k) = X)) (hk : ¬ k < us.length) : acc = X := by
  have e := h.out
  rw [List.drop_eq_nil_of_le (by omega)] at e
  simpa [foldU] using e
theorem ba_take (s : ByteArray) (p n : Nat) : (s.extract p (p + n)) = ⟨((tl s p).take n).toArray⟩ := by
  have h : (s.extract p (p + n)).data.toList = (tl s p).take n := by
    rw [ext_listS]; unfold tl; rw [show p + n - p = n by omega]
  have h2 : (s.extract p (p + n)).data = ((tl s p).take n).toArray := by rw [← h]
  exact ByteArray.ext h2
theorem unitG_tl (s : ByteArray) (p : Nat) : unitG (tl s p) = [s.extract p (p + (dec (tl s p)).2)] := by
  unfold unitG; rw [ba_take]
theorem one_of {u : ByteArray} (h : u.size = 1) : u.data.toList = [u[0]] := by
  rw [← tl_zero, tl_cons u 0 (by omega), tl_end u 1 (by omega)]
theorem fold_one {u : ByteArray} (hu : IsUnit u) (h : u.size = 1) : foldH u.data.toList = if u[0].toNat < 128 then [UInt8.ofNat (lowN u[0].toNat)] else [u[0]] := by
  have e := one_of h
  have hw := hu.wid
  rw [e] at hw ⊢
  have ha : at' [u[0]] 0 = u[0].toNat := rfl
  by_cases hc : u[0].toNat < 128
  · rw [if_pos hc]
    have h1 := foldH_enc (n := u[0].toNat) (.inl (by omega)) []
    rw [List.append_nil, enc_one _ hc, enc_one _ ((lowN_128 _).1 hc)] at h1
    simpa using h1
  · rw [if_neg hc, foldH_bad]
    · rfl
    · intro ho
      rcases ho with ho | ho
      · rw [ha] at ho; exact hc ho
      · omega
theorem unit_enc {u : ByteArray} (hu : IsUnit u) (h : 1 < u.size) : Sca (dec u.data.toList).1 ∧ Lib.encodeRune ((dec u.data.toList).1 : Int) = u.data.toList := by
  have hw := hu.wid
  have hne : u.data.toList ≠ [] := fun e => by
    have : u.data.toList.length = u.size := rfl
    rw [e] at this; simp at this; omega
  obtain ⟨h1, h2⟩ := enc_dec u.data.toList hne (.inr (by omega))
  refine ⟨h1, ?_⟩
  rw [h2, hw]
  exact List.take_of_length_le (Nat.le_refl _)
theorem enc_len1 {n : Nat} (h : (Lib.encodeRune (n : Int)).length = 2) (hs : Sca n) : 128 ≤ n ∧ n < 2048 := by
  unfold Sca at hs
  by_cases a : n < 128
  · rw [enc_one n a] at h; simp at h
  · by_cases b : n < 2048
    · omega
    · by_cases c : n < 65536
      · rw [enc_three n (by omega)] at h; simp at h
      · rw [enc_four n (by omega) (by omega)] at h; simp at h
theorem enc_len3 {n : Nat} (h : 2 < (Lib.encodeRune (n : Int)).length) : 2048 ≤ n := by
  by_cases a : n < 128
  · rw [enc_one n a] at h; simp at h
  · by_cases b : n < 2048
    · rw [enc_two n (by omega) b] at h; simp at h
    · omega
theorem fold_two {u : ByteArray} (hu : IsUnit u) (h : u.size = 2) (V : Nat) (hV : V = at' u.data.toList 0 % 32 * 64 + at' u.data.toList 1 % 64) :
    128 ≤ V ∧ V < 2048 ∧ 128 ≤ lowN V ∧ lowN V < 2048 ∧ foldH u.data.toList = [UInt8.ofNat (192 + lowN V / 64), UInt8.ofNat (128 + lowN V % 64)] := by
  obtain ⟨h1, h2⟩ := unit_enc hu (by omega)
  have hl : (Lib.encodeRune ((dec u.data.toList).1 : Int)).length = 2 := by rw [h2]; exact h
  obtain ⟨h3, h4⟩ := enc_len1 hl h1
  have hf := foldH_enc h1 []
  rw [List.append_nil, h2] at hf
  have hl2 := lowN_len h1
  obtain ⟨h5, h6⟩ := enc_len1 (hl2 ▸ hl) (lowN_sca h1)
  have e : V = (dec u.data.toList).1 := by
    rw [hV]
    generalize (dec u.data.toList).1 = n at *
    rw [enc_two n h3 h4] at h2
    rw [← h2]
    simp only [at', List.getD_cons_zero, List.getD_cons_succ, UInt8.toNat_ofNat']
    omega
  rw [e]
  refine ⟨h3, h4, h5, h6, ?_⟩
  rw [hf, enc_two _ h5 h6]
theorem fold_more {u : ByteArray} (hu : IsUnit u) (h : 2 < u.size) : foldH u.data.toList = u.data.toList := by
  obtain ⟨h1, h2⟩ := unit_enc hu (by omega)
  have hl : 2 < (Lib.encodeRune ((dec u.data.toList).1 : Int)).length := by rw [h2]; exact h
  have h3 := enc_len3 hl
  have hf := foldH_enc h1 []
  rw [List.append_nil, h2] at hf
  rw [hf, lowN_cast, lowI_small (by omega), h2]
end Fo
