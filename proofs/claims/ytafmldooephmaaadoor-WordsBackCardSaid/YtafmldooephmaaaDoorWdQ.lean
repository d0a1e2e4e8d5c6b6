/- Plain: how the pieces of a split stand to the front of a text. -/
import Derived.Test.YtafmldooephmaaaDoorWdP
import Derived.Lib.Split
namespace Wd
open Go Pk U8 Cs

theorem ix_none : ∀ r : List UInt8, (63 : UInt8) ∉ r → Lib.index r [63] = -1
  | [], _ => rfl
  | c :: r, h => by
    have hc : ¬ (63 : UInt8) = c := fun e => h (by simp [e])
    have ih := ix_none r (fun e => h (by simp [e]))
    unfold Lib.index
    rw [ih, if_neg (by simp [List.isPrefixOf, hc])]
    rfl
theorem ix_some : ∀ (a b : List UInt8), (63 : UInt8) ∉ a → Lib.index (a ++ 63 :: b) [63] = (a.length : Int)
  | [], b, _ => by unfold Lib.index; rw [List.nil_append]; simp [List.isPrefixOf]
  | c :: a, b, h => by
    have hc : ¬ (63 : UInt8) = c := fun e => h (by simp [e])
    have ih := ix_some a b (fun e => h (by simp [e]))
    rw [List.cons_append]
    unfold Lib.index
    rw [ih, if_neg (by simp [List.isPrefixOf, hc]), if_neg (by first | (simp; done) | (simp; omega)), List.length_cons]
    omega
theorem split63 : ∀ r : List UInt8, (63 : UInt8) ∉ r ∨ ∃ a b, r = a ++ 63 :: b ∧ (63 : UInt8) ∉ a
  | [] => .inl (by simp)
  | c :: r => by
    by_cases hc : c = 63
    · exact .inr ⟨[], r, by rw [hc]; rfl, by simp⟩
    · rcases split63 r with h | ⟨a, b, h1, h2⟩
      · exact .inl (by simp [h]; exact fun e => hc e.symm)
      · exact .inr ⟨c :: a, b, by rw [h1]; rfl, by simp [h2]; exact fun e => hc e.symm⟩
theorem sk_miss (k : Nat) (s : List UInt8) (h : (63 : UInt8) ∉ s) : Lib.splitK [63] 0 k s = [s] := by
  cases k with
  | zero => rfl
  | succ k => unfold Lib.splitK; rw [ix_none s h]; rfl
theorem sk_hit (k : Nat) (a b : List UInt8) (h : (63 : UInt8) ∉ a) : Lib.splitK [63] 0 (k + 1) (a ++ 63 :: b) = a :: Lib.splitK [63] 0 k b := by
  unfold Lib.splitK
  rw [ix_some a b h, if_neg (by first | (simp; done) | (simp; omega))]
  have e1 : (a ++ 63 :: b).take (((a.length : Int)).toNat + 0) = a := by simp
  have e2 : (a ++ 63 :: b).drop (((a.length : Int)).toNat + [(63 : UInt8)].length) = b := by
    simp only [Int.toNat_natCast, List.length_singleton]
    rw [List.drop_append, List.drop_eq_nil_of_le (by omega)]
    simp
  rw [e1, e2]
  cases k <;> rfl
def few (l : List UInt8) : Prop := ∀ p0 p1 p2 p3, ¬ Parts l p0 p1 p2 p3
theorem frontS_few {r : List UInt8} (h : few r) : frontS (61 :: 63 :: r) = none := by
  cases hf : frontS (61 :: 63 :: r) with
  | none => rfl
  | some p =>
    obtain ⟨cs, how, tx⟩ := p
    obtain ⟨z, hw⟩ := front_word hf
    exact absurd (word_parts hw) (h _ _ _ _)
theorem few_0 {r : List UInt8} (h : (63 : UInt8) ∉ r) : few r := fun p0 p1 p2 p3 hp => h (by rw [hp.eq]; simp)
theorem few_1 {a b : List UInt8} (ha : (63 : UInt8) ∉ a) (h : (63 : UInt8) ∉ b) : few (a ++ 63 :: b) := fun p0 p1 p2 p3 hp => by
  obtain ⟨-, e⟩ := first63 hp.eq ha hp.n0
  exact h (by rw [e]; simp)
theorem few_2 {a b c : List UInt8} (ha : (63 : UInt8) ∉ a) (hb : (63 : UInt8) ∉ b) (h : (63 : UInt8) ∉ c) : few (a ++ 63 :: (b ++ 63 :: c)) := fun p0 p1 p2 p3 hp => by
  obtain ⟨-, e⟩ := first63 hp.eq ha hp.n0
  obtain ⟨-, e⟩ := first63 e hb hp.n1
  exact h (by rw [e]; simp)
theorem few_short {r : List UInt8} (h : r.length < 3) : few r := fun p0 p1 p2 p3 hp => by
  have := congrArg List.length hp.eq
  simp at this; omega
theorem splitK_pieces (r : List UInt8) : ((Lib.splitK [63] 0 3 r).length < 4 ∧ few r) ∨ ∃ p0 p1 p2 p3, Lib.splitK [63] 0 3 r = [p0, p1, p2, p3] ∧ Parts r p0 p1 p2 p3 := by
  rcases split63 r with h | ⟨a, b, rfl, ha⟩
  · exact .inl ⟨by rw [sk_miss 3 r h]; simp, few_0 h⟩
  · rw [sk_hit 2 a b ha]
    rcases split63 b with h | ⟨b, c, rfl, hb⟩
    · exact .inl ⟨by rw [sk_miss 2 b h]; simp, few_1 ha h⟩
    · rw [sk_hit 1 b c hb]
      rcases split63 c with h | ⟨c, d, rfl, hc⟩
      · exact .inl ⟨by rw [sk_miss 1 c h]; simp, few_2 ha hb h⟩
      · rw [sk_hit 0 c d hc]
        exact .inr ⟨a, b, c, d, rfl, rfl, ha, hb, hc⟩
theorem pieces (R : ByteArray) : ((Lib.splitB ⟨#[63]⟩ 0 (min 4 (R.size + 1) - 1) R).length < 4 ∧ few R.data.toList) ∨
    ∃ p0 p1 p2 p3 : ByteArray, Lib.splitB ⟨#[63]⟩ 0 (min 4 (R.size + 1) - 1) R = [p0, p1, p2, p3] ∧ Parts R.data.toList p0.data.toList p1.data.toList p2.data.toList p3.data.toList ∧ 3 ≤ R.size := by
  have hl : R.data.toList.length = R.size := rfl
  by_cases h3 : R.size < 3
  · refine .inl ⟨?_, few_short (by omega)⟩
    have := Lib.splitB_length_le ⟨#[63]⟩ 0 (min 4 (R.size + 1) - 1) R
    omega
  · have hk : min 4 (R.size + 1) - 1 = 3 := by omega
    rw [hk]
    have hd := Lib.splitB_data ⟨#[63]⟩ 0 3 R
    rcases splitK_pieces R.data.toList with ⟨h1, h2⟩ | ⟨q0, q1, q2, q3, h1, h2⟩
    · refine .inl ⟨?_, h2⟩
      have := congrArg List.length hd
      rw [List.length_map] at this
      rw [this]; exact h1
    · rw [show (⟨#[63]⟩ : ByteArray).data.toList = [63] from rfl, h1] at hd
      match hs : Lib.splitB ⟨#[63]⟩ 0 3 R, hd with
      | [p0, p1, p2, p3], hd =>
        simp only [List.map_cons, List.map_nil, List.cons.injEq, and_true] at hd
        obtain ⟨rfl, rfl, rfl, rfl⟩ := hd
        exact .inr ⟨p0, p1, p2, p3, rfl, h2, by omega⟩
end Wd
