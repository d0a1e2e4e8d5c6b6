/- Plain: encoded words: what stands at the front; decoding a text. Plain: how the pieces of a split stand to the front of a text. Plain: decoding a text, encoded word by encoded word. -/
import Derived.Test.YtnclbbgdfaeilaaGreatDoorCsP
import Derived.Test.YtnclbbgdfaeilaaGreatDoorSpc6
import Derived.Lib.Split
namespace Wd
open Go Pk U8 Cs

def vis (c : UInt8) : Bool := decide (32 < c.toNat) && decide (c.toNat < 127)
def csC (c : UInt8) : Bool := vis c && c != 63 && c != 61
def txC (c : UInt8) : Bool := vis c && c != 63
def howOK (c : UInt8) : Bool := c == 66 || c == 98 || c == 81 || c == 113
/-- character set, encoding, text of the encoded word at the front -/
def frontS (l : List UInt8) : Option (List UInt8 × UInt8 × List UInt8) :=
  if l.take 2 = [61, 63] then
    if (l.drop 2).takeWhile csC = [] then none
    else if ((l.drop 2).dropWhile csC).head? = some 63 ∧ (((l.drop 2).dropWhile csC).drop 2).head? = some 63 then
      if ((((l.drop 2).dropWhile csC).drop 3).dropWhile txC).take 2 = [63, 61] then
        if howOK ((((l.drop 2).dropWhile csC).drop 1).headD 0) = true then some ((l.drop 2).takeWhile csC, (((l.drop 2).dropWhile csC).drop 1).headD 0, (((l.drop 2).dropWhile csC).drop 3).takeWhile txC) else none
      else none
    else none
  else none
theorem take2 {l : List UInt8} {a b : UInt8} (h : l.take 2 = [a, b]) : l = a :: b :: l.drop 2 := by
  match l, h with
  | c :: d :: r, h =>
    simp at h
    obtain ⟨rfl, rfl⟩ := h
    simp
theorem three {l : List UInt8} {a b : UInt8} (h1 : l.head? = some a) (h2 : (l.drop 2).head? = some b) : l = a :: (l.drop 1).headD 0 :: b :: l.drop 3 := by
  match l, h1, h2 with
  | c :: d :: e :: r, h1, h2 =>
    simp at h1 h2
    subst h1; subst h2
    rfl
theorem tw_stop {p : UInt8 → Bool} : ∀ (a : List UInt8) (x : UInt8) (b : List UInt8), (∀ c ∈ a, p c = true) → p x = false → (a ++ x :: b).takeWhile p = a ∧ (a ++ x :: b).dropWhile p = x :: b
  | [], x, b, _, hx => by simp [hx]
  | c :: a, x, b, h, hx => by
    obtain ⟨h1, h2⟩ := tw_stop a x b (fun d hd => h d (by simp [hd])) hx
    have hc := h c (by simp)
    rw [List.cons_append, List.takeWhile_cons_of_pos hc, List.dropWhile_cons_of_pos hc, h1, h2]
    exact ⟨rfl, rfl⟩
theorem tw_split (p : UInt8 → Bool) : ∀ l : List UInt8, l = l.takeWhile p ++ l.dropWhile p ∧ (∀ c ∈ l.takeWhile p, p c = true)
  | [] => ⟨rfl, fun c h => by cases h⟩
  | c :: r => by
    obtain ⟨h1, h2⟩ := tw_split p r
    cases hc : p c with
    | true =>
      rw [List.takeWhile_cons_of_pos hc, List.dropWhile_cons_of_pos hc, List.cons_append, ← h1]
      refine ⟨rfl, fun d hd => ?_⟩
      rcases List.mem_cons.1 hd with rfl | hd
      · exact hc
      · exact h2 d hd
    | false =>
      rw [List.takeWhile_cons_of_neg (by simp [hc]), List.dropWhile_cons_of_neg (by simp [hc])]
      exact ⟨rfl, fun d hd => by cases hd⟩
/-- an encoded word, laid out -/
structure Word (l cs : List UInt8) (how : UInt8) (tx z : List UInt8) : Prop where
  eq : l = [61, 63] ++ cs ++ [63, how, 63] ++ tx ++ [63, 61] ++ z
  ne : cs ≠ []
  cs : ∀ c ∈ cs, csC c = true
  how : howOK how = true
  tx : ∀ c ∈ tx, txC c = true
theorem front_word {l cs tx : List UInt8} {how : UInt8} (h : frontS l = some (cs, how, tx)) : ∃ z, Word l cs how tx z := by
  unfold frontS at h
  split at h
  · rename_i h1
    have e1 := take2 h1
    obtain ⟨s1, s2⟩ := tw_split csC (l.drop 2)
    generalize l.drop 2 = r at *
    split at h
    · cases h
    · rename_i hne
      split at h
      · rename_i h2
        have e2 := three h2.1 h2.2
        obtain ⟨s3, s4⟩ := tw_split txC ((r.dropWhile csC).drop 3)
        generalize (r.dropWhile csC).drop 3 = r2 at *
        split at h
        · rename_i h3
          have e3 := take2 h3
          split at h
          · rename_i hh
            injection h with h
            injection h with g1 h
            injection h with g2 g3
            rw [g2] at e2 hh
            rw [g1] at s1 s2 hne
            rw [g3] at s3 s4
            generalize (r2.dropWhile txC).drop 2 = z at e3
            rw [e3] at s3
            rw [e2] at s1
            refine ⟨z, ?_, hne, s2, hh, s4⟩
            rw [e1, s1, s3]
            simp
          · cases h
        · cases h
      · cases h
  · cases h
theorem csC_63 : csC 63 = false := by decide
theorem txC_63 : txC 63 = false := by decide
theorem word_front {l cs tx z : List UInt8} {how : UInt8} (h : Word l cs how tx z) : frontS l = some (cs, how, tx) := by
  obtain ⟨h1, h2, h3, h4, h5⟩ := h
  have e : l = 61 :: 63 :: (cs ++ 63 :: (how :: 63 :: (tx ++ 63 :: 61 :: z))) := by rw [h1]; simp
  obtain ⟨a1, a2⟩ := tw_stop cs 63 (how :: 63 :: (tx ++ 63 :: 61 :: z)) h3 csC_63
  obtain ⟨b1, b2⟩ := tw_stop tx 63 (61 :: z) h5 txC_63
  rw [e]
  unfold frontS
  simp only [List.take_succ_cons, List.take_zero, List.drop_succ_cons, List.drop_zero, if_true, a1, a2, List.head?_cons, List.headD_cons, b1, b2, and_self]
  rw [if_neg h2, if_pos h4]
theorem front_other {l : List UInt8} (h : ∀ r, l ≠ 61 :: 63 :: r) : frontS l = none := by
  cases hf : frontS l with
  | none => rfl
  | some p =>
    obtain ⟨cs, how, tx⟩ := p
    obtain ⟨z, hw⟩ := front_word hf
    refine absurd ?_ (h (cs ++ [63, how, 63] ++ tx ++ [63, 61] ++ z))
    rw [hw.eq]; simp
/-- cut at the first three question marks -/
structure Parts (r p0 p1 p2 p3 : List UInt8) : Prop where
  eq : r = p0 ++ 63 :: (p1 ++ 63 :: (p2 ++ 63 :: p3))
  n0 : (63 : UInt8) ∉ p0
  n1 : (63 : UInt8) ∉ p1
  n2 : (63 : UInt8) ∉ p2
theorem first63 : ∀ {a b x y : List UInt8}, a ++ 63 :: x = b ++ 63 :: y → (63 : UInt8) ∉ a → (63 : UInt8) ∉ b → a = b ∧ x = y
  | [], [], x, y, h, _, _ => by simpa using h
  | [], d :: b, x, y, h, _, hb => by
    rw [List.nil_append, List.cons_append] at h
    injection h with h1 h2
    exact absurd (by simp [h1]) hb
  | c :: a, [], x, y, h, ha, _ => by
    rw [List.nil_append, List.cons_append] at h
    injection h with h1 h2
    exact absurd (by simp [h1]) ha
  | c :: a, d :: b, x, y, h, ha, hb => by
    rw [List.cons_append, List.cons_append] at h
    injection h with h1 h2
    obtain ⟨h3, h4⟩ := first63 h2 (fun e => ha (by simp [e])) (fun e => hb (by simp [e]))
    exact ⟨by rw [h1, h3], h4⟩
theorem csC_ne {c : UInt8} (h : csC c = true) : c ≠ 63 ∧ c ≠ 61 ∧ vis c = true := by
  unfold csC at h
  simp only [Bool.and_eq_true, bne_iff_ne] at h
  exact ⟨h.1.2, h.2, h.1.1⟩
theorem txC_ne {c : UInt8} (h : txC c = true) : c ≠ 63 ∧ vis c = true := by
  unfold txC at h
  simp only [Bool.and_eq_true, bne_iff_ne] at h
  exact ⟨h.2, h.1⟩
theorem csC_of {c : UInt8} (h1 : c ≠ 63) (h2 : c ≠ 61) (h3 : vis c = true) : csC c = true := by unfold csC; simp [h1, h2, h3]
theorem txC_of {c : UInt8} (h1 : c ≠ 63) (h3 : vis c = true) : txC c = true := by unfold txC; simp [h1, h3]
theorem howOK_cases {c : UInt8} (h : howOK c = true) : c = 66 ∨ c = 98 ∨ c = 81 ∨ c = 113 := by
  unfold howOK at h
  simp only [Bool.or_eq_true, beq_iff_eq] at h
  rcases h with ((h | h) | h) | h <;> simp [h]
theorem word_parts {r cs tx z : List UInt8} {how : UInt8} (h : Word (61 :: 63 :: r) cs how tx z) : Parts r cs [how] tx (61 :: z) := by
  refine ⟨?_, fun e => (csC_ne (h.cs _ e)).1 rfl, fun e => ?_, fun e => (txC_ne (h.tx _ e)).1 rfl⟩
  · have e := h.eq
    simp at e
    rw [e]; simp
  · have e2 : (63 : UInt8) = how := by simpa using e
    have := h.how
    rw [← e2] at this
    cases this
theorem parts_eq {r a0 a1 a2 a3 b0 b1 b2 b3 : List UInt8} (h : Parts r a0 a1 a2 a3) (g : Parts r b0 b1 b2 b3) : a0 = b0 ∧ a1 = b1 ∧ a2 = b2 ∧ a3 = b3 := by
  obtain ⟨e1, e2⟩ := first63 (h.eq.symm.trans g.eq) h.n0 g.n0
  obtain ⟨e3, e4⟩ := first63 e2 h.n1 g.n1
  obtain ⟨e5, e6⟩ := first63 e4 h.n2 g.n2
  exact ⟨e1, e3, e5, e6⟩
theorem front_parts {r p0 p1 p2 p3 : List UInt8} (h : Parts r p0 p1 p2 p3) {cs tx : List UInt8} {how : UInt8} (hf : frontS (61 :: 63 :: r) = some (cs, how, tx)) :
    p0 = cs ∧ p1 = [how] ∧ p2 = tx ∧ (∃ z, p3 = 61 :: z) ∧ cs ≠ [] ∧ (∀ c ∈ cs, csC c = true) ∧ howOK how = true ∧ ∀ c ∈ tx, txC c = true := by
  obtain ⟨z, hw⟩ := front_word hf
  obtain ⟨e0, e1, e2, e3⟩ := parts_eq h (word_parts hw)
  exact ⟨e0, e1, e2, ⟨z, e3⟩, hw.ne, hw.cs, hw.how, hw.tx⟩
theorem vis_63 : vis 63 = true := by decide
theorem vis_61 : vis 61 = true := by decide
theorem vis_how {c : UInt8} (h : howOK c = true) : vis c = true := by
  rcases howOK_cases h with rfl | rfl | rfl | rfl <;> decide
/-- all bytes of the word are visible -/
theorem word_vis {l cs tx z : List UInt8} {how : UInt8} (h : Word l cs how tx z) : ∀ c ∈ l.take (7 + cs.length + tx.length), vis c = true := by
  intro c hc
  have e : l.take (7 + cs.length + tx.length) = [61, 63] ++ cs ++ [63, how, 63] ++ tx ++ [63, 61] := by
    rw [h.eq]
    rw [List.take_append_of_le_length (by simp; omega), List.take_of_length_le (by simp; omega)]
  rw [e] at hc
  simp only [List.mem_append, List.mem_cons, List.not_mem_nil, or_false] at hc
  rcases hc with (((h1 | h1) | h1) | h1) | h1
  · rcases h1 with rfl | rfl <;> decide
  · exact (csC_ne (h.cs c h1)).2.2
  · rcases h1 with rfl | rfl | rfl
    · decide
    · exact vis_how h.how
    · decide
  · exact (txC_ne (h.tx c h1)).2
  · rcases h1 with rfl | rfl <;> decide
/-- the bytes read -/
def readL (how : UInt8) (tx : List UInt8) : List UInt8 := if how = 66 ∨ how = 98 then C6.unB64R tx else C6.unQR tx
def frontT (l : List UInt8) : List UInt8 × Nat := match frontS l with
  | none => ([], 0)
  | some (cs, how, tx) => (decCS cs (readL how tx), 7 + cs.length + tx.length)
theorem frontT_none {l : List UInt8} (h : frontS l = none) : frontT l = ([], 0) := by unfold frontT; rw [h]
theorem frontT_some {l cs tx : List UInt8} {how : UInt8} (h : frontS l = some (cs, how, tx)) : frontT l = (decCS cs (readL how tx), 7 + cs.length + tx.length) := by unfold frontT; rw [h]
theorem frontT_le (l : List UInt8) : (frontT l).2 ≤ l.length := by
  cases h : frontS l with
  | none => rw [frontT_none h]; exact Nat.zero_le _
  | some p =>
    obtain ⟨cs, how, tx⟩ := p
    obtain ⟨z, hw⟩ := front_word h
    rw [frontT_some h, hw.eq]
    simp; omega
/-- what a word that is all right gives -/
theorem front_ok {r p0 p2 p3 : List UInt8} {how : UInt8} (h : Parts r p0 [how] p2 (61 :: p3)) (h0 : p0 ≠ []) (h1 : (61 : UInt8) ∉ p0) (hh : howOK how = true) (hv : ∀ c ∈ (61 :: 63 :: r).take (7 + p0.length + p2.length), vis c = true) :
    frontS (61 :: 63 :: r) = some (p0, how, p2) := by
  have e : (61 :: 63 :: r : List UInt8) = [61, 63] ++ p0 ++ [63, how, 63] ++ p2 ++ [63, 61] ++ p3 := by rw [h.eq]; simp
  have e2 : (61 :: 63 :: r : List UInt8).take (7 + p0.length + p2.length) = [61, 63] ++ p0 ++ [63, how, 63] ++ p2 ++ [63, 61] := by
    rw [e, List.take_append_of_le_length (by simp; omega), List.take_of_length_le (by simp; omega)]
  rw [e2] at hv
  refine word_front (z := p3) ⟨e, h0, fun c hc => csC_of (fun e => h.n0 (e ▸ hc)) (fun e => h1 (e ▸ hc)) (hv c (by simp [hc])), hh, fun c hc => txC_of (fun e => h.n2 (e ▸ hc)) (hv c (by simp [hc]))⟩
end Wd
namespace Wd
open Go Pk U8 Cs

theorem ix_none : ∀ r : List UInt8, (63 : UInt8) ∉ r → Lib.index r [63] = -1
  | [], _ => rfl
  | c :: r, h => by
    have hc : ¬ (63 : UInt8) = c := fun e => h (by simp [e])
    have ih := ix_none r (fun e => h (by simp [e]))
    unfold Lib.index
    rw [ih, if_neg (by simp [List.isPrefixOf, hc])]
    rfl
theorem ix_some : ∀ (a b : List UInt8), (63 : UInt8) ∉ a → Lib.index (a ++ 63 :: b) [63] = (a.length : Int)
  | [], b, _ => by unfold Lib.index; rw [List.nil_append]; simp [List.isPrefixOf]
  | c :: a, b, h => by
    have hc : ¬ (63 : UInt8) = c := fun e => h (by simp [e])
    have ih := ix_some a b (fun e => h (by simp [e]))
    rw [List.cons_append]
    unfold Lib.index
    rw [ih, if_neg (by simp [List.isPrefixOf, hc]), if_neg (by first | (simp; done) | (simp; omega)), List.length_cons]
    omega
theorem split63 : ∀ r : List UInt8, (63 : UInt8) ∉ r ∨ ∃ a b, r = a ++ 63 :: b ∧ (63 : UInt8) ∉ a
  | [] => .inl (by simp)
  | c :: r => by
    by_cases hc : c = 63
    · exact .inr ⟨[], r, by rw [hc]; rfl, by simp⟩
    · rcases split63 r with h | ⟨a, b, h1, h2⟩
      · exact .inl (by simp [h]; exact fun e => hc e.symm)
      · exact .inr ⟨c :: a, b, by rw [h1]; rfl, by simp [h2]; exact fun e => hc e.symm⟩
theorem sk_miss (k : Nat) (s : List UInt8) (h : (63 : UInt8) ∉ s) : Lib.splitK [63] 0 k s = [s] := by
  cases k with
  | zero => rfl
  | succ k => unfold Lib.splitK; rw [ix_none s h]; rfl
theorem sk_hit (k : Nat) (a b : List UInt8) (h : (63 : UInt8) ∉ a) : Lib.splitK [63] 0 (k + 1) (a ++ 63 :: b) = a :: Lib.splitK [63] 0 k b := by
  unfold Lib.splitK
  rw [ix_some a b h, if_neg (by first | (simp; done) | (simp; omega))]
  have e1 : (a ++ 63 :: b).take (((a.length : Int)).toNat + 0) = a := by simp
  have e2 : (a ++ 63 :: b).drop (((a.length : Int)).toNat + [(63 : UInt8)].length) = b := by
    simp only [Int.toNat_natCast, List.length_singleton]
    rw [List.drop_append, List.drop_eq_nil_of_le (by omega)]
    simp
  rw [e1, e2]
  cases k <;> rfl
def few (l : List UInt8) : Prop := ∀ p0 p1 p2 p3, ¬ Parts l p0 p1 p2 p3
theorem frontS_few {r : List UInt8} (h : few r) : frontS (61 :: 63 :: r) = none := by
  cases hf : frontS (61 :: 63 :: r) with
  | none => rfl
  | some p =>
    obtain ⟨cs, how, tx⟩ := p
    obtain ⟨z, hw⟩ := front_word hf
    exact absurd (word_parts hw) (h _ _ _ _)
theorem few_0 {r : List UInt8} (h : (63 : UInt8) ∉ r) : few r := fun p0 p1 p2 p3 hp => h (by rw [hp.eq]; simp)
theorem few_1 {a b : List UInt8} (ha : (63 : UInt8) ∉ a) (h : (63 : UInt8) ∉ b) : few (a ++ 63 :: b) := fun p0 p1 p2 p3 hp => by
  obtain ⟨-, e⟩ := first63 hp.eq ha hp.n0
  exact h (by rw [e]; simp)
theorem few_2 {a b c : List UInt8} (ha : (63 : UInt8) ∉ a) (hb : (63 : UInt8) ∉ b) (h : (63 : UInt8) ∉ c) : few (a ++ 63 :: (b ++ 63 :: c)) := fun p0 p1 p2 p3 hp => by
  obtain ⟨-, e⟩ := first63 hp.eq ha hp.n0
  obtain ⟨-, e⟩ := first63 e hb hp.n1
  exact h (by rw [e]; simp)
theorem few_short {r : List UInt8} (h : r.length < 3) : few r := fun p0 p1 p2 p3 hp => by
  have := congrArg List.length hp.eq
  simp at this; omega
theorem splitK_pieces (r : List UInt8) : ((Lib.splitK [63] 0 3 r).length < 4 ∧ few r) ∨ ∃ p0 p1 p2 p3, Lib.splitK [63] 0 3 r = [p0, p1, p2, p3] ∧ Parts r p0 p1 p2 p3 := by
  rcases split63 r with h | ⟨a, b, rfl, ha⟩
  · exact .inl ⟨by rw [sk_miss 3 r h]; simp, few_0 h⟩
  · rw [sk_hit 2 a b ha]
    rcases split63 b with h | ⟨b, c, rfl, hb⟩
    · exact .inl ⟨by rw [sk_miss 2 b h]; simp, few_1 ha h⟩
    · rw [sk_hit 1 b c hb]
      rcases split63 c with h | ⟨c, d, rfl, hc⟩
      · exact .inl ⟨by rw [sk_miss 1 c h]; simp, few_2 ha hb h⟩
      · rw [sk_hit 0 c d hc]
        exact .inr ⟨a, b, c, d, rfl, rfl, ha, hb, hc⟩
theorem pieces (R : ByteArray) : ((Lib.splitB ⟨#[63]⟩ 0 (min 4 (R.size + 1) - 1) R).length < 4 ∧ few R.data.toList) ∨
    ∃ p0 p1 p2 p3 : ByteArray, Lib.splitB ⟨#[63]⟩ 0 (min 4 (R.size + 1) - 1) R = [p0, p1, p2, p3] ∧ Parts R.data.toList p0.data.toList p1.data.toList p2.data.toList p3.data.toList ∧ 3 ≤ R.size := by
  have hl : R.data.toList.length = R.size := rfl
  by_cases h3 : R.size < 3
  · refine .inl ⟨?_, few_short (by omega)⟩
    have := Lib.splitB_length_le ⟨#[63]⟩ 0 (min 4 (R.size + 1) - 1) R
    omega
  · have hk : min 4 (R.size + 1) - 1 = 3 := by omega
    rw [hk]
    have hd := Lib.splitB_data ⟨#[63]⟩ 0 3 R
    rcases splitK_pieces R.data.toList with ⟨h1, h2⟩ | ⟨q0, q1, q2, q3, h1, h2⟩
    · refine .inl ⟨?_, h2⟩
      have := congrArg List.length hd
      rw [List.length_map] at this
      rw [this]; exact h1
    · rw [show (⟨#[63]⟩ : ByteArray).data.toList = [63] from rfl, h1] at hd
      match hs : Lib.splitB ⟨#[63]⟩ 0 3 R, hd with
      | [p0, p1, p2, p3], hd =>
        simp only [List.map_cons, List.map_nil, List.cons.injEq, and_true] at hd
        obtain ⟨rfl, rfl, rfl, rfl⟩ := hd
        exact .inr ⟨p0, p1, p2, p3, rfl, h2, by omega⟩
end Wd
namespace Wd
open Go Pk U8 Cs

theorem duR_length (l : List Int) : (C6.duR l).length ≤ l.length := by
  fun_induction C6.duR l <;> simp_all <;> omega
theorem readL_length (how : UInt8) (tx : List UInt8) : (readL how tx).length ≤ tx.length := by
  unfold readL
  split
  · have := duR_length (C6.dR tx)
    have := C6.dR_length tx
    unfold C6.unB64R; omega
  · have := C6.escR_length (C6.unblank tx)
    unfold C6.unQR
    have e : (C6.unblank tx).length = tx.length := by unfold C6.unblank; simp
    omega
theorem frontT_len (l : List UInt8) : (frontT l).1.length ≤ 4 * (frontT l).2 := by
  cases h : frontS l with
  | none => rw [frontT_none h]; simp
  | some p =>
    obtain ⟨cs, how, tx⟩ := p
    rw [frontT_some h]
    have := decK_length (kindL cs) (readL how tx)
    have := readL_length how tx
    unfold decCS
    simp only
    omega
def skipG (r : List UInt8) : List UInt8 := if 0 < (frontT (r.dropWhile Su.blk)).2 then r.dropWhile Su.blk else r
theorem skipG_le (r : List UInt8) : (skipG r).length ≤ r.length := by
  unfold skipG
  split
  · exact (List.dropWhile_sublist _).length_le
  · exact Nat.le_refl _
/-- what one step gives, and what is left behind it -/
def stepD (l : List UInt8) : List UInt8 × List UInt8 := if (frontT l).2 = 0 then (l.take 1, l.drop 1) else ((frontT l).1, skipG (l.drop (frontT l).2))
def rawF : Nat → List UInt8 → List UInt8
  | 0, _ => []
  | n + 1, l => if l = [] then [] else (stepD l).1 ++ rawF n (stepD l).2
def rawL (l : List UInt8) : List UInt8 := rawF l.length l
theorem stepD_lt {l : List UInt8} (h : l ≠ []) : (stepD l).2.length < l.length ∧ (stepD l).1.length ≤ 4 * (l.length - (stepD l).2.length) := by
  have hp : 0 < l.length := List.length_pos_iff.2 h
  unfold stepD
  split
  · simp only [List.length_drop, List.length_take]; omega
  · rename_i hn
    have h1 := skipG_le (l.drop (frontT l).2)
    have h2 := frontT_le l
    have h3 := frontT_len l
    rw [List.length_drop] at h1
    simp only
    omega
theorem rawF_more : ∀ (n : Nat) (l : List UInt8), l.length ≤ n → rawF n l = rawL l := by
  intro n
  induction n using Nat.strongRecOn with
  | _ n ih =>
    intro l hl
    by_cases he : l = []
    · subst he
      cases n <;> rfl
    · have hp : 0 < l.length := List.length_pos_iff.2 he
      obtain ⟨h1, -⟩ := stepD_lt he
      unfold rawL
      obtain ⟨m, rfl⟩ : ∃ m, n = m + 1 := ⟨n - 1, by omega⟩
      obtain ⟨k, hk⟩ : ∃ k, l.length = k + 1 := ⟨l.length - 1, by omega⟩
      rw [hk]
      unfold rawF
      rw [if_neg he, if_neg he, ih m (by omega) _ (by omega), ih k (by omega) _ (by omega)]
theorem raw_nil : rawL [] = [] := rfl
theorem raw_cons {l : List UInt8} (h : l ≠ []) : rawL l = (stepD l).1 ++ rawL (stepD l).2 := by
  obtain ⟨h1, -⟩ := stepD_lt h
  have hp : 0 < l.length := List.length_pos_iff.2 h
  obtain ⟨k, hk⟩ : ∃ k, l.length = k + 1 := ⟨l.length - 1, by omega⟩
  conv => lhs; unfold rawL
  rw [hk]
  unfold rawF
  rw [if_neg h, rawF_more k _ (by omega)]
theorem raw_length : ∀ (n : Nat) (l : List UInt8), l.length ≤ n → (rawL l).length ≤ 4 * l.length := by
  intro n
  induction n with
  | zero => intro l h; have : l = [] := List.eq_nil_of_length_eq_zero (by omega); subst this; simp [raw_nil]
  | succ n ih =>
    intro l h
    by_cases he : l = []
    · subst he; simp [raw_nil]
    · obtain ⟨h1, h2⟩ := stepD_lt he
      have := ih (stepD l).2 (by omega)
      rw [raw_cons he, List.length_append]
      omega
def decW (l : List UInt8) : List UInt8 := repairL (rawL l)

/-! laws -/
theorem front_hd {c : UInt8} {r : List UInt8} (h : c ≠ 61) : frontS (c :: r) = none := front_other fun r' e => h (by injection e)
theorem raw_byte {c : UInt8} {r : List UInt8} (h : frontS (c :: r) = none) : rawL (c :: r) = c :: rawL r := by
  rw [raw_cons (by simp)]
  unfold stepD
  rw [frontT_none h, if_pos rfl]
  rfl
/-- no '=?' in the text -/
def noEq : List UInt8 → Bool
  | [] => true
  | [_] => true
  | a :: b :: r => !(a == 61 && b == 63) && noEq (b :: r)
theorem raw_noEq : ∀ l : List UInt8, noEq l = true → rawL l = l
  | [], _ => rfl
  | [a], _ => by
    rw [raw_byte, raw_nil]
    exact front_other fun r e => by simp at e
  | a :: b :: r, h => by
    unfold noEq at h
    rw [Bool.and_eq_true] at h
    rw [raw_byte, raw_noEq (b :: r) h.2]
    refine front_other fun r' e => ?_
    injection e with e1 e2
    injection e2 with e2 e3
    have h1 := h.1
    rw [e1, e2] at h1
    cases h1
theorem word_more {l cs tx z : List UInt8} {how : UInt8} (h : Word l cs how tx z) (x : List UInt8) : Word (l ++ x) cs how tx (z ++ x) :=
  ⟨by rw [h.eq]; simp, h.ne, h.cs, h.how, h.tx⟩
theorem word_less {a x cs tx z : List UInt8} {how c : UInt8} (h : Word (a ++ c :: x) cs how tx z) (hc : vis c = false) : ∃ z', Word a cs how tx z' := by
  have hv := word_vis h
  have hle : 7 + cs.length + tx.length ≤ a.length := by
    rcases Nat.lt_or_ge a.length (7 + cs.length + tx.length) with hlt | hge
    · exfalso
      have : vis c = true := hv c (by
        rw [List.take_append, List.mem_append]
        refine .inr ?_
        obtain ⟨k, hk⟩ : ∃ k, 7 + cs.length + tx.length - a.length = k + 1 := ⟨7 + cs.length + tx.length - a.length - 1, by omega⟩
        rw [hk, List.take_succ_cons]
        simp)
      rw [this] at hc; cases hc
    · exact hge
  have hl := congrArg List.length h.eq
  simp only [List.length_append, List.length_cons, List.length_nil] at hl
  have e : a = [61, 63] ++ cs ++ [63, how, 63] ++ tx ++ [63, 61] ++ a.drop (7 + cs.length + tx.length) := by
    have e1 : (a ++ c :: x).take (7 + cs.length + tx.length) = [61, 63] ++ cs ++ [63, how, 63] ++ tx ++ [63, 61] := by
      rw [h.eq, List.take_append_of_le_length (by simp; omega), List.take_of_length_le (by simp; omega)]
    rw [List.take_append_of_le_length hle] at e1
    conv => lhs; rw [← List.take_append_drop (7 + cs.length + tx.length) a, e1]
  exact ⟨_, e, h.ne, h.cs, h.how, h.tx⟩
/-- a byte that is not visible ends every word ahead of it -/
theorem front_sep (a x : List UInt8) {c : UInt8} (hc : vis c = false) : frontS (a ++ c :: x) = frontS a := by
  cases h : frontS (a ++ c :: x) with
  | none =>
    cases h2 : frontS a with
    | none => rfl
    | some p =>
      obtain ⟨cs, how, tx⟩ := p
      obtain ⟨z, hw⟩ := front_word h2
      have := word_front (word_more hw (c :: x))
      rw [this] at h; cases h
  | some p =>
    obtain ⟨cs, how, tx⟩ := p
    obtain ⟨z, hw⟩ := front_word h
    obtain ⟨z', hw'⟩ := word_less hw hc
    rw [word_front hw']
theorem frontT_sep (a x : List UInt8) {c : UInt8} (hc : vis c = false) : frontT (a ++ c :: x) = frontT a := by
  unfold frontT; rw [front_sep a x hc]
theorem dw_sep {p : UInt8 → Bool} {c : UInt8} (hc : p c = false) (x : List UInt8) : ∀ a : List UInt8, (a ++ c :: x).dropWhile p = a.dropWhile p ++ c :: x
  | [] => by simp [hc]
  | d :: a => by
    cases hd : p d with
    | true => rw [List.cons_append, List.dropWhile_cons_of_pos hd, List.dropWhile_cons_of_pos hd, dw_sep hc x a]
    | false => rw [List.cons_append, List.dropWhile_cons_of_neg (by simp [hd]), List.dropWhile_cons_of_neg (by simp [hd])]; rfl
theorem skipG_sep (a x : List UInt8) {c : UInt8} (hv : vis c = false) (hb : Su.blk c = false) : skipG (a ++ c :: x) = skipG a ++ c :: x := by
  unfold skipG
  rw [dw_sep hb, frontT_sep _ _ hv]
  split <;> rfl
theorem raw_sep : ∀ (n : Nat) (a x : List UInt8) (c : UInt8), a.length ≤ n → vis c = false → Su.blk c = false → rawL (a ++ c :: x) = rawL a ++ c :: rawL x := by
  intro n
  induction n with
  | zero =>
    intro a x c h hv hb
    have : a = [] := List.eq_nil_of_length_eq_zero (by omega)
    subst this
    rw [List.nil_append, raw_nil, List.nil_append, raw_byte]
    exact front_hd fun e => by subst e; cases hv
  | succ n ih =>
    intro a x c h hv hb
    by_cases he : a = []
    · subst he
      rw [List.nil_append, raw_nil, List.nil_append, raw_byte]
      exact front_hd fun e => by subst e; cases hv
    · obtain ⟨h1, -⟩ := stepD_lt he
      have e : stepD (a ++ c :: x) = ((stepD a).1, (stepD a).2 ++ c :: x) := by
        have hp : 0 < a.length := List.length_pos_iff.2 he
        have hle := frontT_le a
        unfold stepD
        rw [frontT_sep _ _ hv]
        split
        · rw [List.take_append_of_le_length (by omega), List.drop_append_of_le_length (by omega)]
        · rw [List.drop_append_of_le_length hle, skipG_sep _ _ hv hb]
      rw [raw_cons (by simp), e, raw_cons he]
      simp only
      rw [ih _ x c (by omega) hv hb, List.append_assoc]
end Wd
