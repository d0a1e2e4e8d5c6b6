/- Plain: cutting at a separator; quoted-printable line by line. -/
import Derived.Test.YtafmldooephmaaaDoorSpec6
import Derived.Lib.IndexMore
import Derived.Lib.SlTrimSet
namespace C6
open Go Pk Hx

theorem cut_hit {l sep : List UInt8} (h : sep.isPrefixOf l = true) : Lib.cut l sep = ([], l.drop sep.length, true) := by
  have hi : Lib.index l sep = 0 := by
    cases l with
    | nil => cases sep with
      | nil => rfl
      | cons a b => simp at h
    | cons x r => unfold Lib.index; rw [if_pos h]
  unfold Lib.cut
  rw [hi]; simp
theorem cut_cons {x : UInt8} {l sep : List UInt8} (h : sep.isPrefixOf (x :: l) = false) : Lib.cut (x :: l) sep = (x :: (Lib.cut l sep).1, (Lib.cut l sep).2.1, (Lib.cut l sep).2.2) := by
  have hg := Lib.index_ge l sep
  unfold Lib.cut
  by_cases h1 : Lib.index l sep = -1
  · have : Lib.index (x :: l) sep = -1 := by
      unfold Lib.index; rw [if_neg (by simp [h]), if_pos (by simp [h1])]
    rw [this, h1]; simp
  · have h2 : Lib.index (x :: l) sep = Lib.index l sep + 1 := by
      conv => lhs; unfold Lib.index
      rw [if_neg (by simp [h]), if_neg (by simp [h1])]
    obtain ⟨n, hn⟩ : ∃ n : Nat, Lib.index l sep = n := ⟨(Lib.index l sep).toNat, by omega⟩
    rw [h2, hn, if_pos (by omega), if_pos (by omega)]
    have e1 : ((n : Int) + 1).toNat = n + 1 := by omega
    rw [e1]
    simp only [List.take_succ_cons, Int.toNat_natCast, Prod.mk.injEq, true_and, and_true]
    rw [show n + 1 + sep.length = (n + sep.length) + 1 by omega, List.drop_succ_cons]
theorem cut_nil {sep : List UInt8} (h : sep ≠ []) : Lib.cut [] sep = ([], [], false) := by
  have : Lib.index [] sep = -1 := by
    unfold Lib.index; cases sep with
    | nil => exact absurd rfl h
    | cons a b => rfl
  unfold Lib.cut; rw [this]; rfl
theorem cut_length (sep : List UInt8) (h : sep ≠ []) : ∀ l : List UInt8, (Lib.cut l sep).1.length + (Lib.cut l sep).2.1.length + (if (Lib.cut l sep).2.2 = true then sep.length else 0) = l.length
  | [] => by rw [cut_nil h]; rfl
  | x :: l => by
    by_cases hp : sep.isPrefixOf (x :: l) = true
    · rw [cut_hit hp]
      have : sep.length ≤ (x :: l).length := (List.isPrefixOf_iff_prefix.1 hp).length_le
      simp at this ⊢; omega
    · rw [cut_cons ((Bool.not_eq_true _).mp hp)]
      have := cut_length sep h l
      simp only [List.length_cons]; omega

/-- one line of quoted-printable, n characters being on the output's line -/
def lp : Int → List UInt8 → List UInt8
  | _, [] => []
  | n, c :: r => if n + (qpc c r.isEmpty).length > 75 then 61 :: 13 :: 10 :: (qpc c r.isEmpty ++ lp (qpc c r.isEmpty).length r) else qpc c r.isEmpty ++ lp (n + (qpc c r.isEmpty).length) r
def crlf : List UInt8 := [13, 10]
theorem prefix_ends (l : List UInt8) : crlf.isPrefixOf l = endsL l := by
  unfold crlf
  exact match l with
  | [] => rfl
  | [a] => by simp [endsL, List.isPrefixOf]
  | a :: b :: r => by simp only [endsL, List.isPrefixOf, Bool.and_true]; rw [BEq.comm (a := (13 : UInt8)), BEq.comm (a := (10 : UInt8))]

theorem qpR_line : ∀ (l : List UInt8) (n : Int), endsL l = true ∨ True → qpR n l = (if endsL l = true then 13 :: 10 :: qpR 0 (l.drop 2) else lp n (Lib.cut l crlf).1 ++ (if (Lib.cut l crlf).2.2 = true then 13 :: 10 :: qpR 0 (Lib.cut l crlf).2.1 else []))
  | [], n, _ => by rw [cut_nil (by decide)]; simp [qpR, lp, endsL]
  | [c], n, _ => by
    have h : crlf.isPrefixOf [c] = false := by rw [prefix_ends]; rfl
    rw [cut_cons h, cut_nil (by decide)]
    simp [qpR, lp, endsL]
  | c :: d :: r, n, _ => by
    by_cases he : endsL (c :: d :: r) = true
    · rw [if_pos he, qpR, if_pos he]; rfl
    · rw [if_neg he, qpR, if_neg he]
      have h : crlf.isPrefixOf (c :: d :: r) = false := by rw [prefix_ends]; simpa using he
      rw [cut_cons h]
      have hemp : (Lib.cut (d :: r) crlf).1.isEmpty = endsL (d :: r) := by
        by_cases he2 : endsL (d :: r) = true
        · rw [cut_hit (by rw [prefix_ends]; exact he2), he2]; rfl
        · rw [cut_cons (by rw [prefix_ends]; simpa using he2)]; simp at he2; rw [he2]; rfl
      simp only [lp, hemp]
      have ih := fun m => qpR_line (d :: r) m (.inr trivial)
      have key : ∀ m, qpR m (d :: r) = lp m (Lib.cut (d :: r) crlf).1 ++ (if (Lib.cut (d :: r) crlf).2.2 = true then 13 :: 10 :: qpR 0 (Lib.cut (d :: r) crlf).2.1 else []) := by
        intro m
        rw [ih m]
        by_cases he2 : endsL (d :: r) = true
        · rw [if_pos he2, cut_hit (by rw [prefix_ends]; exact he2)]; simp [lp, crlf]
        · rw [if_neg he2]
      split
      · rw [key]; simp
      · rw [key]; simp
theorem qpR_cut (n : Int) (l : List UInt8) : qpR n l = lp n (Lib.cut l crlf).1 ++ (if (Lib.cut l crlf).2.2 = true then 13 :: 10 :: qpR 0 (Lib.cut l crlf).2.1 else []) := by
  rw [qpR_line l n (.inr trivial)]
  by_cases he : endsL l = true
  · rw [if_pos he, cut_hit (by rw [prefix_ends]; exact he)]; simp [lp, crlf]
  · rw [if_neg he]

/-- one line decoded; 'more': a line feed stands behind it -/
def strip1 (c : UInt8) (l : List UInt8) : List UInt8 := if l.getLast? = some c then l.dropLast else l
def ends1 (c : UInt8) (l : List UInt8) : Bool := l.getLast? == some c
def uncut (a : List UInt8) (end_ : List UInt8) : List UInt8 :=
  if ends1 61 (Lib.trimRightS a [32, 9]) = true then escR (Lib.trimRightS a [32, 9]).dropLast else escR (Lib.trimRightS a [32, 9]) ++ end_
def unline (a : List UInt8) (more : Bool) : List UInt8 :=
  if more = true then (if ends1 13 a = true then uncut a.dropLast [13, 10] else uncut a [10]) else uncut a []
def unq : List UInt8 → List UInt8 → List UInt8
  | seg, [] => unline seg false
  | seg, c :: r => if c = 10 then unline seg true ++ unq [] r else unq (seg ++ [c]) r
def unQpR (l : List UInt8) : List UInt8 := unq [] l
theorem unq_cut : ∀ (l seg : List UInt8), unq seg l = if (Lib.cut l [10]).2.2 = true then unline (seg ++ (Lib.cut l [10]).1) true ++ unq [] (Lib.cut l [10]).2.1 else unline (seg ++ (Lib.cut l [10]).1) false
  | [], seg => by rw [cut_nil (by decide)]; simp [unq]
  | c :: r, seg => by
    by_cases hc : c = 10
    · subst hc
      rw [cut_hit (by simp [List.isPrefixOf])]
      simp [unq]
    · rw [cut_cons (by simp [List.isPrefixOf]; exact fun e => hc e.symm)]
      rw [unq, if_neg hc, unq_cut r]
      simp
end C6
