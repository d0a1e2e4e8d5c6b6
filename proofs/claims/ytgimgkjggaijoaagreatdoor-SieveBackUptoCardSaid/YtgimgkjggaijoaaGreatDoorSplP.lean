/- Plain: a string cut at every instance of one byte. -/
import Derived.Test.YtgimgkjggaijoaaGreatDoorStrK
import Derived.Lib.SplitLaws
namespace Pk
open Go Go.RowKit

/-- the pieces of a list between the instances of a byte -/
def spl (c : UInt8) : List UInt8 → List (List UInt8)
  | [] => [[]]
  | b :: r => if b = c then [] :: spl c r else match spl c r with
    | [] => [[b]]
    | h :: t => (b :: h) :: t
theorem spl_ne (c : UInt8) : ∀ l, spl c l ≠ []
  | [] => by simp [spl]
  | b :: r => by
    unfold spl
    split
    · simp
    · split <;> simp
theorem ix_cons_eq (c : UInt8) (r : List UInt8) : Lib.index (c :: r) [c] = 0 := by
  unfold Lib.index
  rw [if_pos (by simp [List.isPrefixOf])]
theorem ix_cons_ne {b c : UInt8} (r : List UInt8) (h : b ≠ c) : Lib.index (b :: r) [c] = if Lib.index r [c] == -1 then -1 else Lib.index r [c] + 1 := by
  conv => lhs; unfold Lib.index
  rw [if_neg (by simp [List.isPrefixOf, Ne.symm h])]
theorem ix_rng (c : UInt8) : ∀ r : List UInt8, -1 ≤ Lib.index r [c]
  | [] => by simp [Lib.index]
  | b :: r => by
    have := ix_rng c r
    by_cases h : b = c
    · subst h; rw [ix_cons_eq]; decide
    · rw [ix_cons_ne r h]; split <;> omega
theorem ix_miss (c : UInt8) : ∀ r : List UInt8, r.count c = 0 → Lib.index r [c] = -1
  | [], _ => by simp [Lib.index]
  | b :: r, h => by
    by_cases e : b = c
    · subst e; rw [List.count_cons_self] at h; omega
    · rw [List.count_cons_of_ne e] at h
      rw [ix_cons_ne r e, ix_miss c r h]; rfl
theorem ix_hit (c : UInt8) : ∀ r : List UInt8, 0 < r.count c → Lib.index r [c] ≠ -1
  | [], h => by simp at h
  | b :: r, h => by
    by_cases e : b = c
    · subst e; rw [ix_cons_eq]; decide
    · rw [List.count_cons_of_ne e] at h
      have := ix_hit c r h
      have := ix_rng c r
      rw [ix_cons_ne r e, if_neg (by simpa using ix_hit c r h)]
      omega
theorem splitK_spl (c : UInt8) : ∀ l : List UInt8, Lib.splitK [c] 0 (l.count c) l = spl c l
  | [] => rfl
  | b :: r => by
    have ih := splitK_spl c r
    by_cases e : b = c
    · subst e
      rw [List.count_cons_self]
      unfold Lib.splitK spl
      rw [ix_cons_eq, if_neg (by decide), if_pos rfl, ← ih]
      rfl
    · rw [List.count_cons_of_ne e]
      unfold spl
      rw [if_neg e]
      cases hk : r.count c with
      | zero =>
        rw [hk] at ih
        have : Lib.splitK [c] 0 0 r = [r] := rfl
        rw [this] at ih
        rw [← ih]; rfl
      | succ k =>
        rw [hk] at ih
        have hne := ix_hit c r (by omega)
        have hr := ix_rng c r
        unfold Lib.splitK at ih
        rw [if_neg (by simpa using hne)] at ih
        rw [← ih]
        conv => lhs; unfold Lib.splitK
        have hi := ix_cons_ne r e
        rw [if_neg (by simpa using hne)] at hi
        rw [hi, if_neg (by simp; omega)]
        have e1 : (Lib.index r [c] + 1).toNat = (Lib.index r [c]).toNat + 1 := by omega
        rw [e1]
        show (b :: r).take ((Lib.index r [c]).toNat + 1 + 0) :: Lib.splitK [c] 0 k ((b :: r).drop ((Lib.index r [c]).toNat + 1 + 1)) = (b :: r.take ((Lib.index r [c]).toNat + 0)) :: Lib.splitK [c] 0 k (r.drop ((Lib.index r [c]).toNat + 1))
        simp only [Nat.add_zero, List.take_succ_cons, List.drop_succ_cons]
theorem countB_one (s : ByteArray) (c : UInt8) : Lib.countB s ⟨#[c]⟩ = s.data.toList.count c := by
  show Lib.count s.data.toList [c] = _
  rw [Lib.count_one]
theorem splitB_spl (s : ByteArray) (c : UInt8) : (Lib.splitB ⟨#[c]⟩ 0 (Lib.countB s ⟨#[c]⟩) s).map (·.data.toList) = spl c s.data.toList := by
  rw [Lib.splitB_data, countB_one]
  exact splitK_spl c _
theorem spl_length (c : UInt8) (s : ByteArray) : (spl c s.data.toList).length = Lib.countB s ⟨#[c]⟩ + 1 := by
  have := congrArg List.length (splitB_spl s c)
  rw [List.length_map, Lib.splitB_all ⟨#[c]⟩ (Nat.le_refl 1) 0 _ s rfl] at this
  exact this.symm
end Pk
