/- Plain: the front of a text, as the reference finds it. -/
import Derived.Test.YtafmldooephmaaaDoorWdA
import Derived.Test.YtafmldooephmaaaDoorSubP2
namespace Wd
open Go Pk U8 Cs

theorem tw_eq {p : UInt8 → Bool} {s : ByteArray} {i j : Nat} (hD : (tl s i).dropWhile p = tl s j) (hij : i ≤ j) (hj : j ≤ s.size) : (tl s i).takeWhile p = (s.extract i j).data.toList := by
  obtain ⟨h1, -⟩ := tw_split p (tl s i)
  have hl := congrArg List.length h1
  rw [List.length_append, hD, tl_length, tl_length] at hl
  rw [Su.ext_listS]
  have e : s.data.toList.drop i = tl s i := rfl
  rw [e]
  have hlen : ((tl s i).takeWhile p).length = j - i := by omega
  conv => rhs; rw [h1]
  rw [List.take_append_of_le_length (by omega), List.take_of_length_le (by omega)]
theorem fr_pre {s : ByteArray} (h : ¬ s.data.toList.take 2 = [61, 63]) : frontT s.data.toList = ([], 0) := by
  refine frontT_none ?_
  unfold frontS
  rw [if_neg h]
theorem drop_tl (s : ByteArray) (i j : Nat) : (tl s i).drop j = tl s (i + j) := by unfold tl; rw [List.drop_drop]
theorem hd_tl {s : ByteArray} {i : Nat} (h : i < s.size) : (tl s i).head? = some s[i] := by rw [tl_cons s i h]; rfl
theorem hd_tl' {s : ByteArray} {i : Nat} (h : ¬ i < s.size) : (tl s i).head? = none := by rw [tl_end s i (by omega)]; rfl
/-- the state of the search behind the character set -/
structure At1 (s : ByteArray) (k : Nat) : Prop where
  pre : s.data.toList.take 2 = [61, 63]
  dw : (tl s 2).dropWhile csC = tl s k
  lo : 2 ≤ k
  hi : k ≤ s.size
theorem drop2 (s : ByteArray) : s.data.toList.drop 2 = tl s 2 := rfl
theorem At1.eq {s : ByteArray} {k : Nat} (h : At1 s k) : frontS s.data.toList = (if (s.extract 2 k).data.toList = [] then none else if (tl s k).head? = some 63 ∧ (tl s (k + 2)).head? = some 63 then
      if ((tl s (k + 3)).dropWhile txC).take 2 = [63, 61] then
        if howOK ((tl s (k + 1)).headD 0) = true then some ((s.extract 2 k).data.toList, (tl s (k + 1)).headD 0, (tl s (k + 3)).takeWhile txC) else none
      else none
    else none) := by
  unfold frontS
  rw [if_pos h.pre, drop2, tw_eq h.dw h.lo h.hi, h.dw, drop_tl, drop_tl, drop_tl]
theorem At1.none {s : ByteArray} {k : Nat} (h : At1 s k) (hx : k = 2 ∨ s.size < k + 3 ∨ ∃ hk : k + 2 < s.size, s[k] ≠ 63 ∨ s[k + 2] ≠ 63) : frontT s.data.toList = ([], 0) := by
  refine frontT_none ?_
  rw [h.eq]
  rcases hx with rfl | hx | ⟨hk, hx⟩
  · rw [if_pos (by rw [Su.ext_listS]; simp)]
  · split
    · rfl
    · rw [if_neg]
      intro ⟨h1, h2⟩
      rw [hd_tl' (by omega)] at h2
      cases h2
  · split
    · rfl
    · rw [if_neg]
      intro ⟨h1, h2⟩
      rw [hd_tl (by omega)] at h1
      rw [hd_tl (by omega)] at h2
      injection h1 with h1
      injection h2 with h2
      rcases hx with hx | hx
      · exact hx h1
      · exact hx h2
structure At2 (s : ByteArray) (k t : Nat) : Prop where
  one : At1 s k
  k2 : k ≠ 2
  hk : k + 2 < s.size
  q1 : s[k]'(by omega) = 63
  q2 : s[k + 2]'(by omega) = 63
  dw : (tl s (k + 3)).dropWhile txC = tl s t
  lo : k + 3 ≤ t
  hi : t ≤ s.size
theorem At2.eq {s : ByteArray} {k t : Nat} (h : At2 s k t) : frontS s.data.toList = (if (tl s t).take 2 = [63, 61] then
        if howOK (s[k + 1]'(by have := h.hk; omega)) = true then some ((s.extract 2 k).data.toList, s[k + 1]'(by have := h.hk; omega), (s.extract (k + 3) t).data.toList) else none
      else none) := by
  have hk := h.hk
  rw [h.one.eq, if_neg, if_pos, h.dw, tw_eq h.dw h.lo h.hi, tl_cons s (k + 1) (by omega)]
  · rfl
  · rw [hd_tl (by omega), hd_tl (by omega), h.q1, h.q2]
    exact ⟨rfl, rfl⟩
  · intro e
    have := congrArg List.length e
    rw [Su.ext_listS, List.length_take, List.length_drop, show s.data.toList.length = s.size from rfl] at this
    have h1 := h.k2
    have h2 := h.one.lo
    simp only [List.length_nil] at this
    omega
theorem At2.none {s : ByteArray} {k t : Nat} (h : At2 s k t) (hx : ¬ (tl s t).take 2 = [63, 61] ∨ howOK (s[k + 1]'(by have := h.hk; omega)) = false) : frontT s.data.toList = ([], 0) := by
  refine frontT_none ?_
  rw [h.eq]
  rcases hx with hx | hx
  · rw [if_neg hx]
  · split
    · rw [hx, if_neg (by decide)]
    · rfl
theorem At2.some {s : ByteArray} {k t : Nat} (h : At2 s k t) (hx : (tl s t).take 2 = [63, 61]) (hh : howOK (s[k + 1]'(by have := h.hk; omega)) = true) :
    frontT s.data.toList = (decCS (s.extract 2 k).data.toList (readL (s[k + 1]'(by have := h.hk; omega)) (s.extract (k + 3) t).data.toList), t + 2) := by
  have e := h.eq
  rw [if_pos hx, if_pos hh] at e
  rw [frontT_some e]
  have l1 : (s.extract 2 k).data.toList.length = k - 2 := by
    have h2 := h.one.hi
    rw [Su.ext_listS, List.length_take, List.length_drop, show s.data.toList.length = s.size from rfl]; omega
  have l2 : (s.extract (k + 3) t).data.toList.length = t - (k + 3) := by
    have h2 := h.hi
    rw [Su.ext_listS, List.length_take, List.length_drop, show s.data.toList.length = s.size from rfl]; omega
  rw [l1, l2]
  have h1 := h.one.lo
  have h2 := h.lo
  congr 1
  omega
theorem take2_tl (s : ByteArray) (t : Nat) (h : t + 2 ≤ s.size) : (tl s t).take 2 = (s.extract t (t + 2)).data.toList := by
  rw [Su.ext_listS, show t + 2 - t = 2 by omega]; rfl
theorem take2_short (s : ByteArray) (t : Nat) (h : ¬ t + 2 ≤ s.size) : ¬ (tl s t).take 2 = [63, 61] := by
  intro e
  have := congrArg List.length e
  rw [List.length_take, tl_length] at this
  simp at this
  omega
end Wd
