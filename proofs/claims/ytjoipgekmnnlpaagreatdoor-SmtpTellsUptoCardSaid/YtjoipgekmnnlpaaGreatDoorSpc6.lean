/- Hexadecimal digits, plain. Plain functions on lists of bytes that say what the codec's functions and the reference's compute. Plain: cutting at a separator; quoted-printable line by line. -/
import Derived.Test.YtjoipgekmnnlpaaGreatDoorKit
import Derived.Lib.Bytealg
import Derived.Lib.IndexMore
import Derived.Lib.SlTrimSet
namespace Hx
open Pk
def unhexI (n : Int) : Int := if 48 ≤ n ∧ n ≤ 57 then n - 48 else if 97 ≤ n ∧ n ≤ 102 then n - 97 + 10 else if 65 ≤ n ∧ n ≤ 70 then n - 65 + 10 else -1
def unhexR (c : UInt8) : Int := unhexI c.toNat
theorem unhexI_num {n : Int} (h0 : 48 ≤ n) (h1 : n ≤ 57) : unhexI n = n - 48 := by unfold unhexI; rw [if_pos ⟨h0, h1⟩]
theorem unhexI_low {n : Int} (h0 : 97 ≤ n) (h1 : n ≤ 102) : unhexI n = n - 97 + 10 := by unfold unhexI; rw [if_neg (by omega), if_pos ⟨h0, h1⟩]
theorem unhexI_up {n : Int} (h0 : 65 ≤ n) (h1 : n ≤ 70) : unhexI n = n - 65 + 10 := by unfold unhexI; rw [if_neg (by omega), if_neg (by omega), if_pos ⟨h0, h1⟩]
theorem unhexI_no {n : Int} (h : n < 48 ∨ (57 < n ∧ n < 65) ∨ (70 < n ∧ n < 97) ∨ 102 < n) : unhexI n = -1 := by unfold unhexI; rw [if_neg (by omega), if_neg (by omega), if_neg (by omega)]
theorem unhexI_range (n : Int) : -1 ≤ unhexI n ∧ unhexI n < 16 := by unfold unhexI; split <;> (try split) <;> (try split) <;> omega
theorem unhexR_range (c : UInt8) : -1 ≤ unhexR c ∧ unhexR c < 16 := unhexI_range _
theorem ixhex_plain : ∀ n : Nat, n < 256 → ((n : Int) < 65 ∨ 70 < (n : Int)) → Go.Lib.indexByte [48, 49, 50, 51, 52, 53, 54, 55, 56, 57, 97, 98, 99, 100, 101, 102] (b8 (n : Int)) = unhexI (n : Int) := by
  decide +kernel
theorem ixhex_great : ∀ n : Nat, n < 256 → (65 ≤ (n : Int) ∧ (n : Int) ≤ 70) → Go.Lib.indexByte [48, 49, 50, 51, 52, 53, 54, 55, 56, 57, 97, 98, 99, 100, 101, 102] (b8 ((n : Int) + 32)) = unhexI (n : Int) := by
  decide +kernel
/-- the bytes of a hexadecimal string -/
def unhexL : List UInt8 → Option (List UInt8)
  | [] => some []
  | [_] => none
  | a :: b :: r => if 0 ≤ unhexR a ∧ 0 ≤ unhexR b then (unhexL r).map (b8 (16 * unhexR a + unhexR b) :: ·) else none
end Hx
namespace C6
open Pk Hx

def dig (n : Int) : UInt8 := if n < 26 then UInt8.ofNat (65 + n).toNat else if n < 52 then UInt8.ofNat (97 + n - 26).toNat else if n < 62 then UInt8.ofNat (48 + n - 52).toNat else if n = 62 then 43 else 47

def q3 (a b c : UInt8) : Int := (a.toNat : Int) * 65536 + (b.toNat : Int) * 256 + (c.toNat : Int)
def q2 (a b : UInt8) : Int := (a.toNat : Int) * 65536 + (b.toNat : Int) * 256
def q1 (a : UInt8) : Int := (a.toNat : Int) * 65536

/-- the reference's base64 characters, without line breaks -/
def sgR : List UInt8 → List UInt8
  | a :: b :: c :: r => dig (q3 a b c / 262144) :: dig (q3 a b c / 4096 % 64) :: dig (q3 a b c / 64 % 64) :: dig (q3 a b c % 64) :: sgR r
  | [a, b] => [dig (q2 a b / 262144), dig (q2 a b / 4096 % 64), dig (q2 a b / 64 % 64), 61]
  | [a] => [dig (q1 a / 262144), dig (q1 a / 4096 % 64), 61, 61]
  | [] => []

/-- the reference's line breaks; i: how many characters stand ahead -/
def brk : Nat → List UInt8 → List UInt8
  | _, [] => []
  | _, [c] => [c, 13, 10]
  | i, c :: d :: r => if i % 76 = 75 then c :: 13 :: 10 :: brk (i + 1) (d :: r) else c :: brk (i + 1) (d :: r)

def b64R (l : List UInt8) : List UInt8 := brk 0 (sgR l)

theorem dig_lo (n : Int) (h0 : 0 ≤ n) (h1 : n < 26) : ((dig n).toNat : Int) = 65 + n := by
  have : (65 + n).toNat < 256 := by omega
  simp [dig, h1]; omega
theorem dig_mid (n : Int) (h0 : 26 ≤ n) (h1 : n < 52) : ((dig n).toNat : Int) = 97 + n - 26 := by
  simp [dig, h1, show ¬ n < 26 by omega]; omega
theorem dig_num (n : Int) (h0 : 52 ≤ n) (h1 : n < 62) : ((dig n).toNat : Int) = 48 + n - 52 := by
  simp [dig, h1, show ¬ n < 26 by omega, show ¬ n < 52 by omega]; omega
theorem dig_62 : ((dig 62).toNat : Int) = 43 := by decide
theorem dig_63 : ((dig 63).toNat : Int) = 47 := by decide

theorem sgR_length_le (l : List UInt8) : (sgR l).length ≤ 4 * l.length + 3 := by
  fun_induction sgR l <;> simp_all <;> omega

/-- the reference's value of a base64 character -/
def valF (c : UInt8) : Nat → Nat → Int
  | 0, _ => -1
  | f + 1, n => if dig n = c then n else valF c f (n + 1)
def valR (c : UInt8) : Int := valF c 64 0
theorem valF_range (c : UInt8) : ∀ f n, -1 ≤ valF c f n ∧ valF c f n < (n : Int) + f + 1
  | 0, n => by simp [valF]; omega
  | f + 1, n => by
    unfold valF
    split
    · omega
    · have := valF_range c f (n + 1); omega
theorem valF_lt (c : UInt8) : ∀ f n, 0 < f → valF c f n < (n : Int) + f
  | 1, n, _ => by unfold valF; split <;> simp [valF] <;> omega
  | f + 2, n, _ => by
    unfold valF
    split
    · omega
    · have := valF_lt c (f + 1) (n + 1) (by omega); omega
theorem valR_lo (c : UInt8) : -1 ≤ valR c := (valF_range c 64 0).1
theorem valR_hi (c : UInt8) : valR c < 64 := by have := valF_lt c 64 0 (by decide); unfold valR; omega

/-- the values ahead of the first '=' -/
def dR : List UInt8 → List Int
  | [] => []
  | c :: r => if c = 61 then [] else if 0 ≤ valR c then valR c :: dR r else dR r
theorem dR_mem (l : List UInt8) : ∀ x ∈ dR l, 0 ≤ x ∧ x < 64 := by
  induction l with
  | nil => simp [dR]
  | cons c r ih =>
    unfold dR
    split
    · simp
    · split
      · rename_i h
        intro x hx
        rcases List.mem_cons.1 hx with rfl | hx
        · exact ⟨h, valR_hi c⟩
        · exact ih x hx
      · exact ih
theorem dR_length (l : List UInt8) : (dR l).length ≤ l.length := by
  induction l with
  | nil => simp [dR]
  | cons c r ih =>
    unfold dR
    split
    · simp
    · split <;> simp <;> omega
/-- the bytes of the values -/
def duR : List Int → List UInt8
  | a :: b :: c :: d :: r => b8 (a * 4 + b / 16) :: b8 (b % 16 * 16 + c / 4) :: b8 (c % 4 * 64 + d) :: duR r
  | [a, b, c] => [b8 (a * 4 + b / 16), b8 (b % 16 * 16 + c / 4)]
  | [a, b] => [b8 (a * 4 + b / 16)]
  | _ => []
def unB64R (l : List UInt8) : List UInt8 := duR (dR l)

/-- an upper-case hexadecimal digit -/
def hexC (n : Int) : UInt8 := if n < 10 then b8 (48 + n) else b8 (65 + n - 10)
theorem hexC_lo {n : Int} (h0 : 0 ≤ n) (h1 : n < 10) : ((hexC n).toNat : Int) = 48 + n := by
  unfold hexC; rw [if_pos h1, b8_toNat _ (by omega) (by omega)]
theorem hexC_hi {n : Int} (h0 : 10 ≤ n) (h1 : n < 16) : ((hexC n).toNat : Int) = 65 + n - 10 := by
  unfold hexC; rw [if_neg (by omega), b8_toNat _ (by omega) (by omega)]
/-- the Q encoding -/
def plainQ (n : Int) : Prop := (97 ≤ n ∧ n ≤ 122) ∨ (65 ≤ n ∧ n ≤ 90) ∨ (48 ≤ n ∧ n ≤ 57) ∨ n = 33 ∨ n = 42 ∨ n = 43 ∨ n = 45 ∨ n = 47
instance (n : Int) : Decidable (plainQ n) := by unfold plainQ; infer_instance
def escC (c : UInt8) : List UInt8 := [61, hexC ((c.toNat : Int) / 16), hexC ((c.toNat : Int) % 16)]
def qc (c : UInt8) : List UInt8 := if plainQ c.toNat then [c] else if (c.toNat : Int) = 32 then [95] else escC c
def qR : List UInt8 → List UInt8
  | [] => []
  | c :: r => qc c ++ qR r

/-- '=XY' replaced -/
def escR : List UInt8 → List UInt8
  | [] => []
  | [c] => [c]
  | [c, d] => [c, d]
  | c :: d :: e :: r => if c.toNat = 61 ∧ 0 ≤ unhexR d ∧ 0 ≤ unhexR e then b8 (16 * unhexR d + unhexR e) :: escR r else c :: escR (d :: e :: r)
/-- '_' as a blank -/
def unblank (l : List UInt8) : List UInt8 := l.map fun c => if c.toNat = 95 then 32 else c
def unQR (l : List UInt8) : List UInt8 := escR (unblank l)
theorem escR_length (l : List UInt8) : (escR l).length ≤ l.length := by
  fun_induction escR l <;> simp_all <;> omega

/-- does CR LF stand at the head? -/
def endsL : List UInt8 → Bool
  | c :: d :: _ => c == 13 && d == 10
  | _ => false
/-- how quoted-printable writes a byte; 'last': it ends its line -/
def qpc (c : UInt8) (last : Bool) : List UInt8 :=
  if ((c.toNat : Int) < 33 ∨ 126 < (c.toNat : Int) ∨ (c.toNat : Int) = 61) ∧ (((c.toNat : Int) ≠ 32 ∧ (c.toNat : Int) ≠ 9) ∨ last = true) then escC c else [c]
def qpR : Int → List UInt8 → List UInt8
  | _, [] => []
  | n, [c] => if n + (qpc c true).length > 75 then 61 :: 13 :: 10 :: qpc c true else qpc c true
  | n, c :: d :: r =>
    if endsL (c :: d :: r) = true then 13 :: 10 :: qpR 0 r
    else if n + (qpc c (endsL (d :: r))).length > 75 then 61 :: 13 :: 10 :: (qpc c (endsL (d :: r)) ++ qpR (qpc c (endsL (d :: r))).length (d :: r))
    else qpc c (endsL (d :: r)) ++ qpR (n + (qpc c (endsL (d :: r))).length) (d :: r)
end C6
namespace C6
open Go Pk Hx

theorem cut_hit {l sep : List UInt8} (h : sep.isPrefixOf l = true) : Lib.cut l sep = ([], l.drop sep.length, true) := by
  have hi : Lib.index l sep = 0 := by
    cases l with
    | nil => cases sep with
      | nil => rfl
      | cons a b => simp at h
    | cons x r => unfold Lib.index; rw [if_pos h]
  unfold Lib.cut
  rw [hi]; simp
theorem cut_cons {x : UInt8} {l sep : List UInt8} (h : sep.isPrefixOf (x :: l) = false) : Lib.cut (x :: l) sep = (x :: (Lib.cut l sep).1, (Lib.cut l sep).2.1, (Lib.cut l sep).2.2) := by
  have hg := Lib.index_ge l sep
  unfold Lib.cut
  by_cases h1 : Lib.index l sep = -1
  · have : Lib.index (x :: l) sep = -1 := by
      unfold Lib.index; rw [if_neg (by simp [h]), if_pos (by simp [h1])]
    rw [this, h1]; simp
  · have h2 : Lib.index (x :: l) sep = Lib.index l sep + 1 := by
      conv => lhs; unfold Lib.index
      rw [if_neg (by simp [h]), if_neg (by simp [h1])]
    obtain ⟨n, hn⟩ : ∃ n : Nat, Lib.index l sep = n := ⟨(Lib.index l sep).toNat, by omega⟩
    rw [h2, hn, if_pos (by omega), if_pos (by omega)]
    have e1 : ((n : Int) + 1).toNat = n + 1 := by omega
    rw [e1]
    simp only [List.take_succ_cons, Int.toNat_natCast, Prod.mk.injEq, true_and, and_true]
    rw [show n + 1 + sep.length = (n + sep.length) + 1 by omega, List.drop_succ_cons]
theorem cut_nil {sep : List UInt8} (h : sep ≠ []) : Lib.cut [] sep = ([], [], false) := by
  have : Lib.index [] sep = -1 := by
    unfold Lib.index; cases sep with
    | nil => exact absurd rfl h
    | cons a b => rfl
  unfold Lib.cut; rw [this]; rfl
theorem cut_length (sep : List UInt8) (h : sep ≠ []) : ∀ l : List UInt8, (Lib.cut l sep).1.length + (Lib.cut l sep).2.1.length + (if (Lib.cut l sep).2.2 = true then sep.length else 0) = l.length
  | [] => by rw [cut_nil h]; rfl
  | x :: l => by
    by_cases hp : sep.isPrefixOf (x :: l) = true
    · rw [cut_hit hp]
      have : sep.length ≤ (x :: l).length := (List.isPrefixOf_iff_prefix.1 hp).length_le
      simp at this ⊢; omega
    · rw [cut_cons ((Bool.not_eq_true _).mp hp)]
      have := cut_length sep h l
      simp only [List.length_cons]; omega

/-- one line of quoted-printable, n characters being on the output's line -/
def lp : Int → List UInt8 → List UInt8
  | _, [] => []
  | n, c :: r => if n + (qpc c r.isEmpty).length > 75 then 61 :: 13 :: 10 :: (qpc c r.isEmpty ++ lp (qpc c r.isEmpty).length r) else qpc c r.isEmpty ++ lp (n + (qpc c r.isEmpty).length) r
def crlf : List UInt8 := [13, 10]
theorem prefix_ends (l : List UInt8) : crlf.isPrefixOf l = endsL l := by
  unfold crlf
  exact match l with
  | [] => rfl
  | [a] => by simp [endsL, List.isPrefixOf]
  | a :: b :: r => by simp only [endsL, List.isPrefixOf, Bool.and_true]; rw [BEq.comm (a := (13 : UInt8)), BEq.comm (a := (10 : UInt8))]

theorem qpR_line : ∀ (l : List UInt8) (n : Int), endsL l = true ∨ True → qpR n l = (if endsL l = true then 13 :: 10 :: qpR 0 (l.drop 2) else lp n (Lib.cut l crlf).1 ++ (if (Lib.cut l crlf).2.2 = true then 13 :: 10 :: qpR 0 (Lib.cut l crlf).2.1 else []))
  | [], n, _ => by rw [cut_nil (by decide)]; simp [qpR, lp, endsL]
  | [c], n, _ => by
    have h : crlf.isPrefixOf [c] = false := by rw [prefix_ends]; rfl
    rw [cut_cons h, cut_nil (by decide)]
    simp [qpR, lp, endsL]
  | c :: d :: r, n, _ => by
    by_cases he : endsL (c :: d :: r) = true
    · rw [if_pos he, qpR, if_pos he]; rfl
    · rw [if_neg he, qpR, if_neg he]
      have h : crlf.isPrefixOf (c :: d :: r) = false := by rw [prefix_ends]; simpa using he
      rw [cut_cons h]
      have hemp : (Lib.cut (d :: r) crlf).1.isEmpty = endsL (d :: r) := by
        by_cases he2 : endsL (d :: r) = true
        · rw [cut_hit (by rw [prefix_ends]; exact he2), he2]; rfl
        · rw [cut_cons (by rw [prefix_ends]; simpa using he2)]; simp at he2; rw [he2]; rfl
      simp only [lp, hemp]
      have ih := fun m => qpR_line (d :: r) m (.inr trivial)
      have key : ∀ m, qpR m (d :: r) = lp m (Lib.cut (d :: r) crlf).1 ++ (if (Lib.cut (d :: r) crlf).2.2 = true then 13 :: 10 :: qpR 0 (Lib.cut (d :: r) crlf).2.1 else []) := by
        intro m
        rw [ih m]
        by_cases he2 : endsL (d :: r) = true
        · rw [if_pos he2, cut_hit (by rw [prefix_ends]; exact he2)]; simp [lp, crlf]
        · rw [if_neg he2]
      split
      · rw [key]; simp
      · rw [key]; simp
theorem qpR_cut (n : Int) (l : List UInt8) : qpR n l = lp n (Lib.cut l crlf).1 ++ (if (Lib.cut l crlf).2.2 = true then 13 :: 10 :: qpR 0 (Lib.cut l crlf).2.1 else []) := by
  rw [qpR_line l n (.inr trivial)]
  by_cases he : endsL l = true
  · rw [if_pos he, cut_hit (by rw [prefix_ends]; exact he)]; simp [lp, crlf]
  · rw [if_neg he]

/-- one line decoded; 'more': a line feed stands behind it -/
def strip1 (c : UInt8) (l : List UInt8) : List UInt8 := if l.getLast? = some c then l.dropLast else l
def ends1 (c : UInt8) (l : List UInt8) : Bool := l.getLast? == some c
def uncut (a : List UInt8) (end_ : List UInt8) : List UInt8 :=
  if ends1 61 (Lib.trimRightS a [32, 9]) = true then escR (Lib.trimRightS a [32, 9]).dropLast else escR (Lib.trimRightS a [32, 9]) ++ end_
def unline (a : List UInt8) (more : Bool) : List UInt8 :=
  if more = true then (if ends1 13 a = true then uncut a.dropLast [13, 10] else uncut a [10]) else uncut a []
def unq : List UInt8 → List UInt8 → List UInt8
  | seg, [] => unline seg false
  | seg, c :: r => if c = 10 then unline seg true ++ unq [] r else unq (seg ++ [c]) r
def unQpR (l : List UInt8) : List UInt8 := unq [] l
theorem unq_cut : ∀ (l seg : List UInt8), unq seg l = if (Lib.cut l [10]).2.2 = true then unline (seg ++ (Lib.cut l [10]).1) true ++ unq [] (Lib.cut l [10]).2.1 else unline (seg ++ (Lib.cut l [10]).1) false
  | [], seg => by rw [cut_nil (by decide)]; simp [unq]
  | c :: r, seg => by
    by_cases hc : c = 10
    · subst hc
      rw [cut_hit (by simp [List.isPrefixOf])]
      simp [unq]
    · rw [cut_cons (by simp [List.isPrefixOf]; exact fun e => hc e.symm)]
      rw [unq, if_neg hc, unq_cut r]
      simp
end C6
