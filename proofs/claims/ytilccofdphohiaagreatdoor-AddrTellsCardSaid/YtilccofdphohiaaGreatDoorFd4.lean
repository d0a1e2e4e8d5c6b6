/- Plain: patterns: elements, chunks, the match. -/
import Derived.Test.YtilccofdphohiaaGreatDoorUnitP
namespace Fo
open Go Go.RowKit Pk U8 Su

structure El where
  kind : Nat
  text : ByteArray
def parseL : List ByteArray → List El
  | [] => []
  | [u] => if u.toList = [42] then [⟨2, ⟨#[]⟩⟩] else if u.toList = [63] then [⟨1, ⟨#[]⟩⟩] else [⟨0, u⟩]
  | u :: v :: r => if u.toList = [42] then ⟨2, ⟨#[]⟩⟩ :: parseL (v :: r) else if u.toList = [63] then ⟨1, ⟨#[]⟩⟩ :: parseL (v :: r) else if u.toList = [92] then ⟨0, v⟩ :: parseL r else ⟨0, u⟩ :: parseL (v :: r)
theorem parse_length : ∀ l : List ByteArray, (parseL l).length ≤ l.length
  | [] => by simp [parseL]
  | [u] => by unfold parseL; split <;> (try split) <;> simp
  | u :: v :: r => by
    have h1 := parse_length (v :: r)
    have h2 := parse_length r
    unfold parseL
    split
    · simp only [List.length_cons] at *; omega
    · split
      · simp only [List.length_cons] at *; omega
      · split
        · simp only [List.length_cons] at *; omega
        · simp only [List.length_cons] at *; omega
/-- the chunks between the stars -/
def chunkL : List El → List El → List (List El)
  | cur, [] => [cur]
  | cur, m :: r => if m.kind = 2 then cur :: chunkL [] r else chunkL (cur ++ [m]) r
def hasP : List El → List ByteArray → Bool
  | [], _ => true
  | _ :: _, [] => false
  | x :: m, u :: l => (decide (x.kind ≠ 0) || (x.text.toList == u.toList)) && hasP m l
theorem hasP_len : ∀ (m : List El) (l : List ByteArray), hasP m l = true → m.length ≤ l.length
  | [], _, _ => by simp
  | _ :: _, [], h => by cases h
  | x :: m, u :: l, h => by
    unfold hasP at h
    rw [Bool.and_eq_true] at h
    have := hasP_len m l h.2
    simp only [List.length_cons]; omega
theorem hasP_short {m : List El} {l : List ByteArray} (h : l.length < m.length) : hasP m l = false := by
  cases hp : hasP m l with
  | false => rfl
  | true => have := hasP_len m l hp; omega
/-- the first place from p on where the chunk stands, or the end -/
def seekF (F : List ByteArray) (m : List El) : Nat → Nat → Nat
  | 0, p => p
  | f + 1, p => if p < F.length then (if hasP m (F.drop p) = true then p else seekF F m f (p + 1)) else p
def seek (F : List ByteArray) (m : List El) (p : Nat) : Nat := seekF F m (F.length - p) p
theorem seek_stop {F : List ByteArray} {m : List El} {p : Nat} (h : hasP m (F.drop p) = true ∨ ¬ p < F.length) : seek F m p = p := by
  unfold seek
  cases hk : F.length - p with
  | zero => rfl
  | succ k =>
    unfold seekF
    rcases h with h | h
    · rw [if_pos h]; split <;> rfl
    · omega
theorem seek_step {F : List ByteArray} {m : List El} {p : Nat} (h1 : p < F.length) (h2 : hasP m (F.drop p) = false) : seek F m p = seek F m (p + 1) := by
  unfold seek
  obtain ⟨k, hk⟩ : ∃ k, F.length - p = k + 1 := ⟨F.length - p - 1, by omega⟩
  rw [hk]
  conv => lhs; unfold seekF
  rw [if_pos h1, if_neg (by rw [h2]; decide), show F.length - (p + 1) = k by omega]
theorem seek_le {F : List ByteArray} {m : List El} : ∀ (n p : Nat), F.length - p ≤ n → p ≤ F.length → p ≤ seek F m p ∧ seek F m p ≤ F.length := by
  intro n
  induction n with
  | zero => intro p h1 h2; rw [seek_stop (.inr (by omega))]; omega
  | succ n ih =>
    intro p h1 h2
    by_cases hp : p < F.length
    · cases hh : hasP m (F.drop p) with
      | true => rw [seek_stop (.inl hh)]; omega
      | false =>
        rw [seek_step hp hh]
        have := ih (p + 1) (by omega) (by omega)
        omega
    · rw [seek_stop (.inr hp)]; omega
/-- what the single wildcards of a chunk take -/
def anyL : List El → List ByteArray → List ByteArray
  | [], _ => []
  | x :: m, us => (if x.kind = 1 then us.take 1 else []) ++ anyL m (us.drop 1)
def catL (us : List ByteArray) : List UInt8 := us.flatMap fun u => u.data.toList
def catB (us : List ByteArray) : ByteArray := ⟨(catL us).toArray⟩
/-- where chunk k of n is tried -/
def place (F : List ByteArray) (n k : Nat) (m : List El) (p : Nat) : Nat :=
  if 0 < k ∧ k + 1 = n then max p (F.length - m.length) else if 0 < k then seek F m p else p
def globF (F U : List ByteArray) (n : Nat) : Nat → List (List El) → Nat → List ByteArray → Option (List ByteArray)
  | _, [], _, out => some out
  | k, m :: r, p, out =>
    if k = 0 ∧ n = 1 ∧ m.length ≠ F.length then none
    else if hasP m (F.drop (place F n k m p)) = false then none
    else globF F U n (k + 1) r (place F n k m p + m.length)
      (out ++ (if 0 < k then [catB ((U.drop p).take (place F n k m p - p))] else []) ++ anyL m (U.drop (place F n k m p)))
theorem chunk_mem_len : ∀ (P cur : List El), ∀ m ∈ chunkL cur P, m.length ≤ cur.length + P.length
  | [], cur, m, h => by
    have : m = cur := by simpa [chunkL] using h
    rw [this]; simp
  | x :: r, cur, m, h => by
    unfold chunkL at h
    split at h
    · rcases List.mem_cons.1 h with rfl | h
      · simp
      · have := chunk_mem_len r [] m h
        simp only [List.length_nil, List.length_cons] at *; omega
    · have := chunk_mem_len r (cur ++ [x]) m h
      rw [List.length_append, List.length_singleton] at this
      rw [List.length_cons]; omega
theorem place_le {F : List ByteArray} {n k p : Nat} {m : List El} (hp : p ≤ F.length) : p ≤ place F n k m p ∧ place F n k m p ≤ F.length := by
  unfold place
  split
  · omega
  · split
    · exact seek_le _ p (Nat.le_refl _) hp
    · omega
theorem glob_step {F U : List ByteArray} {n k p : Nat} {MS : List (List El)} {out : List ByteArray} {R : Option (List ByteArray)} (h : globF F U n k (MS.drop k) p out = R) (hk : k < MS.length) :
    (k = 0 → n = 1 → MS[k].length ≠ F.length → R = none) ∧
    (¬ (k = 0 ∧ n = 1 ∧ MS[k].length ≠ F.length) → hasP MS[k] (F.drop (place F n k MS[k] p)) = false → R = none) ∧
    (¬ (k = 0 ∧ n = 1 ∧ MS[k].length ≠ F.length) → hasP MS[k] (F.drop (place F n k MS[k] p)) = true →
      globF F U n (k + 1) (MS.drop (k + 1)) (place F n k MS[k] p + MS[k].length) (out ++ (if 0 < k then [catB ((U.drop p).take (place F n k MS[k] p - p))] else []) ++ anyL MS[k] (U.drop (place F n k MS[k] p))) = R) := by
  rw [List.drop_eq_getElem_cons hk] at h
  unfold globF at h
  refine ⟨fun h1 h2 h3 => ?_, fun h1 h2 => ?_, fun h1 h2 => ?_⟩
  · rw [if_pos ⟨h1, h2, h3⟩] at h; exact h.symm
  · rw [if_neg h1, if_pos h2] at h; exact h.symm
  · rw [if_neg h1, if_neg (by rw [h2]; decide)] at h; exact h
theorem glob_end {F U : List ByteArray} {n k p : Nat} {MS : List (List El)} {out : List ByteArray} {R : Option (List ByteArray)} (h : globF F U n k (MS.drop k) p out = R) (hk : ¬ k < MS.length) : R = some out := by
  rw [List.drop_eq_nil_of_le (by omega)] at h
  exact h.symm
end Fo
