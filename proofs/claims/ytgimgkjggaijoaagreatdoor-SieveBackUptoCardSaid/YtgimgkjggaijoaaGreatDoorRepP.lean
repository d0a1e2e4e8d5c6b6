/- Plain: what a Replacer of single bytes makes of a string. -/
import Derived.Test.YtgimgkjggaijoaaGreatDoorKit
namespace Rp
open Go Go.RowKit Pk

def repP (ps : List (UInt8 × ByteArray)) (c : UInt8) : List UInt8 := match ps.lookup c with
  | none => [c]
  | some s => s.data.toList
def repA (ps : List (UInt8 × ByteArray)) (l : List UInt8) : List UInt8 := l.flatMap (repP ps)
theorem repA_cons (ps : List (UInt8 × ByteArray)) (c : UInt8) (r : List UInt8) : repA ps (c :: r) = repP ps c ++ repA ps r := List.flatMap_cons ..
def sumC (ps : List (UInt8 × ByteArray)) (l : List UInt8) : Int := (ps.map fun p => (l.count p.1 : Int) * ((p.2.size : Int) - 1)).sum
def hitC (ps : List (UInt8 × ByteArray)) (c : UInt8) : Int := (ps.map fun p => if p.1 = c then (p.2.size : Int) - 1 else 0).sum
theorem sumC_cons (ps : List (UInt8 × ByteArray)) (c : UInt8) (r : List UInt8) : sumC ps (c :: r) = sumC ps r + hitC ps c := by
  unfold sumC hitC
  induction ps with
  | nil => rfl
  | cons p ps ih =>
    simp only [List.map_cons, List.sum_cons, ih]
    by_cases h : p.1 = c
    · rw [if_pos h, h, List.count_cons_self]
      have : ((r.count c + 1 : Nat) : Int) * ((p.2.size : Int) - 1) = (r.count c : Int) * ((p.2.size : Int) - 1) + ((p.2.size : Int) - 1) := by
        rw [Int.natCast_add, Int.add_mul, Int.natCast_one, Int.one_mul]
      omega
    · rw [if_neg h, List.count_cons_of_ne (fun e => h e.symm)]
      omega
theorem sumC_nil (ps : List (UInt8 × ByteArray)) : sumC ps [] = 0 := by
  unfold sumC
  induction ps with
  | nil => rfl
  | cons p ps ih => simp only [List.map_cons, List.sum_cons, ih]; simp
theorem hitC_none {ps : List (UInt8 × ByteArray)} {c : UInt8} (h : ∀ p ∈ ps, p.1 ≠ c) : hitC ps c = 0 := by
  unfold hitC
  induction ps with
  | nil => rfl
  | cons p ps ih =>
    simp only [List.map_cons, List.sum_cons]
    rw [if_neg (h p (List.mem_cons_self ..)), ih (fun q hq => h q (List.mem_cons_of_mem _ hq))]; rfl
theorem hit_len (ps : List (UInt8 × ByteArray)) (hnd : (ps.map (·.1)).Nodup) (c : UInt8) : ((repP ps c).length : Int) = 1 + hitC ps c := by
  induction ps with
  | nil => rfl
  | cons p ps ih =>
    rw [List.map_cons, List.nodup_cons] at hnd
    unfold repP
    rw [show ps.map (·.1) = ps.map (·.1) from rfl] at hnd
    by_cases h : p.1 = c
    · have e : (p :: ps).lookup c = some p.2 := by rw [List.lookup_cons, ← h]; simp
      rw [e]
      have h0 : hitC ps c = 0 := hitC_none fun q hq e2 => hnd.1 (by rw [h, ← e2]; exact List.mem_map_of_mem hq)
      have h1 : hitC (p :: ps) c = ((p.2.size : Int) - 1) + hitC ps c := by unfold hitC; simp only [List.map_cons, List.sum_cons]; rw [if_pos h]
      rw [h1, h0]
      have : p.2.data.toList.length = p.2.size := rfl
      show ((p.2.data.toList.length : Nat) : Int) = _
      omega
    · have e : (p :: ps).lookup c = ps.lookup c := by
        rw [List.lookup_cons]
        have : (c == p.1) = false := beq_eq_false_iff_ne.2 fun e => h e.symm
        rw [this]
      have h1 : hitC (p :: ps) c = hitC ps c := by unfold hitC; simp only [List.map_cons, List.sum_cons]; rw [if_neg h]; omega
      rw [e, h1]
      exact ih hnd.2
theorem rep_len (ps : List (UInt8 × ByteArray)) (hnd : (ps.map (·.1)).Nodup) : ∀ l : List UInt8, ((repA ps l).length : Int) = l.length + sumC ps l
  | [] => by rw [sumC_nil]; rfl
  | c :: r => by
    have ih := rep_len ps hnd r
    have hc := hit_len ps hnd c
    rw [repA_cons, List.length_append, sumC_cons, List.length_cons]
    omega
theorem sumC_append (a b : List (UInt8 × ByteArray)) (l : List UInt8) : sumC (a ++ b) l = sumC a l + sumC b l := by
  unfold sumC
  rw [List.map_append, List.sum_append]
theorem sumC_reverse (ps : List (UInt8 × ByteArray)) (l : List UInt8) : sumC ps.reverse l = sumC ps l := by
  induction ps with
  | nil => rfl
  | cons p ps ih =>
    have : sumC (p :: ps) l = sumC [p] l + sumC ps l := sumC_append [p] ps l
    rw [List.reverse_cons, sumC_append, ih, this]; omega
/-- a bound on the sums on the way -/
theorem sumC_abs (M : Nat) (l : List UInt8) (N : Nat) (hl : l.length ≤ N) : ∀ ps : List (UInt8 × ByteArray), (∀ p ∈ ps, p.2.size ≤ M) → -(ps.length * N : Nat) ≤ sumC ps l ∧ sumC ps l ≤ (ps.length * (N * M) : Nat)
  | [], _ => by simp [sumC]
  | p :: ps, h => by
    obtain ⟨i1, i2⟩ := sumC_abs M l N hl ps fun q hq => h q (List.mem_cons_of_mem _ hq)
    have e : sumC (p :: ps) l = (l.count p.1 : Int) * ((p.2.size : Int) - 1) + sumC ps l := by unfold sumC; rw [List.map_cons, List.sum_cons]
    have hp := h p (List.mem_cons_self ..)
    have hc : l.count p.1 ≤ N := Nat.le_trans List.count_le_length hl
    have a1 : -(N : Int) ≤ (l.count p.1 : Int) * ((p.2.size : Int) - 1) := by
      have : (l.count p.1 : Int) * ((p.2.size : Int) - 1) = (l.count p.1 * p.2.size : Nat) - (l.count p.1 : Int) := by rw [Int.mul_sub, Int.mul_one, Int.natCast_mul]
      rw [this]; omega
    have a2 : (l.count p.1 : Int) * ((p.2.size : Int) - 1) ≤ (N * M : Nat) := by
      have : (l.count p.1 : Int) * ((p.2.size : Int) - 1) = (l.count p.1 * p.2.size : Nat) - (l.count p.1 : Int) := by rw [Int.mul_sub, Int.mul_one, Int.natCast_mul]
      have h2 := Nat.mul_le_mul hc hp
      rw [this]; omega
    have e1 : (p :: ps).length * N = ps.length * N + N := by rw [List.length_cons, Nat.add_mul, Nat.one_mul]
    have e2 : (p :: ps).length * (N * M) = ps.length * (N * M) + N * M := by rw [List.length_cons, Nat.add_mul, Nat.one_mul]
    rw [e, e1, e2]
    omega
def anyC (ps : List (UInt8 × ByteArray)) (l : List UInt8) : Bool := ps.any fun p => decide (l.count p.1 ≠ 0)
def anyL (ps : List (UInt8 × ByteArray)) (l : List UInt8) : Bool := l.any fun c => (ps.lookup c).isSome
theorem lookup_mem {ps : List (UInt8 × ByteArray)} {c : UInt8} {s : ByteArray} (h : ps.lookup c = some s) : (c, s) ∈ ps := by
  induction ps with
  | nil => cases h
  | cons p ps ih =>
    rw [List.lookup_cons] at h
    by_cases hc : c = p.1
    · subst hc
      simp at h
      subst h
      exact List.mem_cons_self ..
    · rw [beq_eq_false_iff_ne.2 hc] at h
      exact List.mem_cons_of_mem _ (ih h)
theorem any_same (ps : List (UInt8 × ByteArray)) (l : List UInt8) (h : anyL ps l = false) : repA ps l = l := by
  induction l with
  | nil => rfl
  | cons c r ih =>
    unfold anyL at h
    rw [List.any_cons, Bool.or_eq_false_iff] at h
    rw [repA_cons, ih h.2]
    have : ps.lookup c = none := by
      cases hq : ps.lookup c with
      | none => rfl
      | some s => rw [hq] at h; exact absurd h.1 (by simp)
    unfold repP
    rw [this]; rfl
theorem anyC_false (ps : List (UInt8 × ByteArray)) (l : List UInt8) (h : anyC ps l = false) : anyL ps l = false := by
  unfold anyL
  rw [List.any_eq_false]
  intro c hc he
  cases hq : ps.lookup c with
  | none => rw [hq] at he; cases he
  | some s =>
    unfold anyC at h
    rw [List.any_eq_false] at h
    have := h (c, s) (lookup_mem hq)
    simp only [ne_eq, decide_not, Bool.not_eq_true', decide_eq_false_iff_not, Decidable.not_not] at this
    have h2 := List.count_pos_iff.2 hc
    omega
theorem anyC_reverse (ps : List (UInt8 × ByteArray)) (l : List UInt8) : anyC ps.reverse l = anyC ps l := List.any_reverse
theorem rep_ge (ps : List (UInt8 × ByteArray)) (M : Nat) (hM : ∀ p ∈ ps, p.2.size ≤ M) (h1 : 1 ≤ M) : ∀ l : List UInt8, (repA ps l).length ≤ l.length * M
  | [] => by simp [repA]
  | c :: r => by
    have ih := rep_ge ps M hM h1 r
    have hc : (repP ps c).length ≤ M := by
      unfold repP
      cases hq : ps.lookup c with
      | none => exact h1
      | some s => exact hM _ (lookup_mem hq)
    rw [repA_cons, List.length_append, List.length_cons, Nat.add_mul, Nat.one_mul]
    omega
end Rp
