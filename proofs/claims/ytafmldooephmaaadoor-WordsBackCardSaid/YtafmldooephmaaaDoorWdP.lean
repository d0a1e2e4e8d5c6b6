/- Plain: encoded words: what stands at the front; decoding a text. -/
import Derived.Test.YtafmldooephmaaaDoorCsP
import Derived.Test.YtafmldooephmaaaDoorSpec6b
namespace Wd
open Go Pk U8 Cs

def vis (c : UInt8) : Bool := decide (32 < c.toNat) && decide (c.toNat < 127)
def csC (c : UInt8) : Bool := vis c && c != 63 && c != 61
def txC (c : UInt8) : Bool := vis c && c != 63
def howOK (c : UInt8) : Bool := c == 66 || c == 98 || c == 81 || c == 113
/-- character set, encoding, text of the encoded word at the front -/
def frontS (l : List UInt8) : Option (List UInt8 × UInt8 × List UInt8) :=
  if l.take 2 = [61, 63] then
    if (l.drop 2).takeWhile csC = [] then none
    else if ((l.drop 2).dropWhile csC).head? = some 63 ∧ (((l.drop 2).dropWhile csC).drop 2).head? = some 63 then
      if ((((l.drop 2).dropWhile csC).drop 3).dropWhile txC).take 2 = [63, 61] then
        if howOK ((((l.drop 2).dropWhile csC).drop 1).headD 0) = true then some ((l.drop 2).takeWhile csC, (((l.drop 2).dropWhile csC).drop 1).headD 0, (((l.drop 2).dropWhile csC).drop 3).takeWhile txC) else none
      else none
    else none
  else none
theorem take2 {l : List UInt8} {a b : UInt8} (h : l.take 2 = [a, b]) : l = a :: b :: l.drop 2 := by
  match l, h with
  | c :: d :: r, h =>
    simp at h
    obtain ⟨rfl, rfl⟩ := h
    simp
theorem three {l : List UInt8} {a b : UInt8} (h1 : l.head? = some a) (h2 : (l.drop 2).head? = some b) : l = a :: (l.drop 1).headD 0 :: b :: l.drop 3 := by
  match l, h1, h2 with
  | c :: d :: e :: r, h1, h2 =>
    simp at h1 h2
    subst h1; subst h2
    rfl
theorem tw_stop {p : UInt8 → Bool} : ∀ (a : List UInt8) (x : UInt8) (b : List UInt8), (∀ c ∈ a, p c = true) → p x = false → (a ++ x :: b).takeWhile p = a ∧ (a ++ x :: b).dropWhile p = x :: b
  | [], x, b, _, hx => by simp [hx]
  | c :: a, x, b, h, hx => by
    obtain ⟨h1, h2⟩ := tw_stop a x b (fun d hd => h d (by simp [hd])) hx
    have hc := h c (by simp)
    rw [List.cons_append, List.takeWhile_cons_of_pos hc, List.dropWhile_cons_of_pos hc, h1, h2]
    exact ⟨rfl, rfl⟩
theorem tw_split (p : UInt8 → Bool) : ∀ l : List UInt8, l = l.takeWhile p ++ l.dropWhile p ∧ (∀ c ∈ l.takeWhile p, p c = true)
  | [] => ⟨rfl, fun c h => by cases h⟩
  | c :: r => by
    obtain ⟨h1, h2⟩ := tw_split p r
    cases hc : p c with
    | true =>
      rw [List.takeWhile_cons_of_pos hc, List.dropWhile_cons_of_pos hc, List.cons_append, ← h1]
      refine ⟨rfl, fun d hd => ?_⟩
      rcases List.mem_cons.1 hd with rfl | hd
      · exact hc
      · exact h2 d hd
    | false =>
      rw [List.takeWhile_cons_of_neg (by simp [hc]), List.dropWhile_cons_of_neg (by simp [hc])]
      exact ⟨rfl, fun d hd => by cases hd⟩
/-- an encoded word, laid out -/
structure Word (l cs : List UInt8) (how : UInt8) (tx z : List UInt8) : Prop where
  eq : l = [61, 63] ++ cs ++ [63, how, 63] ++ tx ++ [63, 61] ++ z
  ne : cs ≠ []
  cs : ∀ c ∈ cs, csC c = true
  how : howOK how = true
  tx : ∀ c ∈ tx, txC c = true
theorem front_word {l cs tx : List UInt8} {how : UInt8} (h : frontS l = some (cs, how, tx)) : ∃ z, Word l cs how tx z := by
  unfold frontS at h
  split at h
  · rename_i h1
    have e1 := take2 h1
    obtain ⟨s1, s2⟩ := tw_split csC (l.drop 2)
    generalize l.drop 2 = r at *
    split at h
    · cases h
    · rename_i hne
      split at h
      · rename_i h2
        have e2 := three h2.1 h2.2
        obtain ⟨s3, s4⟩ := tw_split txC ((r.dropWhile csC).drop 3)
        generalize (r.dropWhile csC).drop 3 = r2 at *
        split at h
        · rename_i h3
          have e3 := take2 h3
          split at h
          · rename_i hh
            injection h with h
            injection h with g1 h
            injection h with g2 g3
            rw [g2] at e2 hh
            rw [g1] at s1 s2 hne
            rw [g3] at s3 s4
            generalize (r2.dropWhile txC).drop 2 = z at e3
            rw [e3] at s3
            rw [e2] at s1
            refine ⟨z, ?_, hne, s2, hh, s4⟩
            rw [e1, s1, s3]
            simp
          · cases h
        · cases h
      · cases h
  · cases h
theorem csC_63 : csC 63 = false := by decide
theorem txC_63 : txC 63 = false := by decide
theorem word_front {l cs tx z : List UInt8} {how : UInt8} (h : Word l cs how tx z) : frontS l = some (cs, how, tx) := by
  obtain ⟨h1, h2, h3, h4, h5⟩ := h
  have e : l = 61 :: 63 :: (cs ++ 63 :: (how :: 63 :: (tx ++ 63 :: 61 :: z))) := by rw [h1]; simp
  obtain ⟨a1, a2⟩ := tw_stop cs 63 (how :: 63 :: (tx ++ 63 :: 61 :: z)) h3 csC_63
  obtain ⟨b1, b2⟩ := tw_stop tx 63 (61 :: z) h5 txC_63
  rw [e]
  unfold frontS
  simp only [List.take_succ_cons, List.take_zero, List.drop_succ_cons, List.drop_zero, if_true, a1, a2, List.head?_cons, List.headD_cons, b1, b2, and_self]
  rw [if_neg h2, if_pos h4]
theorem front_other {l : List UInt8} (h : ∀ r, l ≠ 61 :: 63 :: r) : frontS l = none := by
  cases hf : frontS l with
  | none => rfl
  | some p =>
    obtain ⟨cs, how, tx⟩ := p
    obtain ⟨z, hw⟩ := front_word hf
    refine absurd ?_ (h (cs ++ [63, how, 63] ++ tx ++ [63, 61] ++ z))
    rw [hw.eq]; simp
/-- cut at the first three question marks -/
structure Parts (r p0 p1 p2 p3 : List UInt8) : Prop where
  eq : r = p0 ++ 63 :: (p1 ++ 63 :: (p2 ++ 63 :: p3))
  n0 : (63 : UInt8) ∉ p0
  n1 : (63 : UInt8) ∉ p1
  n2 : (63 : UInt8) ∉ p2
theorem first63 : ∀ {a b x y : List UInt8}, a ++ 63 :: x = b ++ 63 :: y → (63 : UInt8) ∉ a → (63 : UInt8) ∉ b → a = b ∧ x = y
  | [], [], x, y, h, _, _ => by simpa using h
  | [], d :: b, x, y, h, _, hb => by
    rw [List.nil_append, List.cons_append] at h
    injection h with h1 h2
    exact absurd (by simp [h1]) hb
  | c :: a, [], x, y, h, ha, _ => by
    rw [List.nil_append, List.cons_append] at h
    injection h with h1 h2
    exact absurd (by simp [h1]) ha
  | c :: a, d :: b, x, y, h, ha, hb => by
    rw [List.cons_append, List.cons_append] at h
    injection h with h1 h2
    obtain ⟨h3, h4⟩ := first63 h2 (fun e => ha (by simp [e])) (fun e => hb (by simp [e]))
    exact ⟨by rw [h1, h3], h4⟩
theorem csC_ne {c : UInt8} (h : csC c = true) : c ≠ 63 ∧ c ≠ 61 ∧ vis c = true := by
  unfold csC at h
  simp only [Bool.and_eq_true, bne_iff_ne] at h
  exact ⟨h.1.2, h.2, h.1.1⟩
theorem txC_ne {c : UInt8} (h : txC c = true) : c ≠ 63 ∧ vis c = true := by
  unfold txC at h
  simp only [Bool.and_eq_true, bne_iff_ne] at h
  exact ⟨h.2, h.1⟩
theorem csC_of {c : UInt8} (h1 : c ≠ 63) (h2 : c ≠ 61) (h3 : vis c = true) : csC c = true := by unfold csC; simp [h1, h2, h3]
theorem txC_of {c : UInt8} (h1 : c ≠ 63) (h3 : vis c = true) : txC c = true := by unfold txC; simp [h1, h3]
theorem howOK_cases {c : UInt8} (h : howOK c = true) : c = 66 ∨ c = 98 ∨ c = 81 ∨ c = 113 := by
  unfold howOK at h
  simp only [Bool.or_eq_true, beq_iff_eq] at h
  rcases h with ((h | h) | h) | h <;> simp [h]
theorem word_parts {r cs tx z : List UInt8} {how : UInt8} (h : Word (61 :: 63 :: r) cs how tx z) : Parts r cs [how] tx (61 :: z) := by
  refine ⟨?_, fun e => (csC_ne (h.cs _ e)).1 rfl, fun e => ?_, fun e => (txC_ne (h.tx _ e)).1 rfl⟩
  · have e := h.eq
    simp at e
    rw [e]; simp
  · have e2 : (63 : UInt8) = how := by simpa using e
    have := h.how
    rw [← e2] at this
    cases this
theorem parts_eq {r a0 a1 a2 a3 b0 b1 b2 b3 : List UInt8} (h : Parts r a0 a1 a2 a3) (g : Parts r b0 b1 b2 b3) : a0 = b0 ∧ a1 = b1 ∧ a2 = b2 ∧ a3 = b3 := by
  obtain ⟨e1, e2⟩ := first63 (h.eq.symm.trans g.eq) h.n0 g.n0
  obtain ⟨e3, e4⟩ := first63 e2 h.n1 g.n1
  obtain ⟨e5, e6⟩ := first63 e4 h.n2 g.n2
  exact ⟨e1, e3, e5, e6⟩
theorem front_parts {r p0 p1 p2 p3 : List UInt8} (h : Parts r p0 p1 p2 p3) {cs tx : List UInt8} {how : UInt8} (hf : frontS (61 :: 63 :: r) = some (cs, how, tx)) :
    p0 = cs ∧ p1 = [how] ∧ p2 = tx ∧ (∃ z, p3 = 61 :: z) ∧ cs ≠ [] ∧ (∀ c ∈ cs, csC c = true) ∧ howOK how = true ∧ ∀ c ∈ tx, txC c = true := by
  obtain ⟨z, hw⟩ := front_word hf
  obtain ⟨e0, e1, e2, e3⟩ := parts_eq h (word_parts hw)
  exact ⟨e0, e1, e2, ⟨z, e3⟩, hw.ne, hw.cs, hw.how, hw.tx⟩
theorem vis_63 : vis 63 = true := by decide
theorem vis_61 : vis 61 = true := by decide
theorem vis_how {c : UInt8} (h : howOK c = true) : vis c = true := by
  rcases howOK_cases h with rfl | rfl | rfl | rfl <;> decide
/-- all bytes of the word are visible -/
theorem word_vis {l cs tx z : List UInt8} {how : UInt8} (h : Word l cs how tx z) : ∀ c ∈ l.take (7 + cs.length + tx.length), vis c = true := by
  intro c hc
  have e : l.take (7 + cs.length + tx.length) = [61, 63] ++ cs ++ [63, how, 63] ++ tx ++ [63, 61] := by
    rw [h.eq]
    rw [List.take_append_of_le_length (by simp; omega), List.take_of_length_le (by simp; omega)]
  rw [e] at hc
  simp only [List.mem_append, List.mem_cons, List.not_mem_nil, or_false] at hc
  rcases hc with (((h1 | h1) | h1) | h1) | h1
  · rcases h1 with rfl | rfl <;> decide
  · exact (csC_ne (h.cs c h1)).2.2
  · rcases h1 with rfl | rfl | rfl
    · decide
    · exact vis_how h.how
    · decide
  · exact (txC_ne (h.tx c h1)).2
  · rcases h1 with rfl | rfl <;> decide
/-- the bytes read -/
def readL (how : UInt8) (tx : List UInt8) : List UInt8 := if how = 66 ∨ how = 98 then C6.unB64R tx else C6.unQR tx
def frontT (l : List UInt8) : List UInt8 × Nat := match frontS l with
  | none => ([], 0)
  | some (cs, how, tx) => (decCS cs (readL how tx), 7 + cs.length + tx.length)
theorem frontT_none {l : List UInt8} (h : frontS l = none) : frontT l = ([], 0) := by unfold frontT; rw [h]
theorem frontT_some {l cs tx : List UInt8} {how : UInt8} (h : frontS l = some (cs, how, tx)) : frontT l = (decCS cs (readL how tx), 7 + cs.length + tx.length) := by unfold frontT; rw [h]
theorem frontT_le (l : List UInt8) : (frontT l).2 ≤ l.length := by
  cases h : frontS l with
  | none => rw [frontT_none h]; exact Nat.zero_le _
  | some p =>
    obtain ⟨cs, how, tx⟩ := p
    obtain ⟨z, hw⟩ := front_word h
    rw [frontT_some h, hw.eq]
    simp; omega
/-- what a word that is all right gives -/
theorem front_ok {r p0 p2 p3 : List UInt8} {how : UInt8} (h : Parts r p0 [how] p2 (61 :: p3)) (h0 : p0 ≠ []) (h1 : (61 : UInt8) ∉ p0) (hh : howOK how = true) (hv : ∀ c ∈ (61 :: 63 :: r).take (7 + p0.length + p2.length), vis c = true) :
    frontS (61 :: 63 :: r) = some (p0, how, p2) := by
  have e : (61 :: 63 :: r : List UInt8) = [61, 63] ++ p0 ++ [63, how, 63] ++ p2 ++ [63, 61] ++ p3 := by rw [h.eq]; simp
  have e2 : (61 :: 63 :: r : List UInt8).take (7 + p0.length + p2.length) = [61, 63] ++ p0 ++ [63, how, 63] ++ p2 ++ [63, 61] := by
    rw [e, List.take_append_of_le_length (by simp; omega), List.take_of_length_le (by simp; omega)]
  rw [e2] at hv
  refine word_front (z := p3) ⟨e, h0, fun c hc => csC_of (fun e => h.n0 (e ▸ hc)) (fun e => h1 (e ▸ hc)) (hv c (by simp [hc])), hh, fun c hc => txC_of (fun e => h.n2 (e ▸ hc)) (hv c (by simp [hc]))⟩
end Wd
