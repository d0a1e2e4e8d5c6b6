/- Plain functions on lists of bytes that say what the codec's functions and the reference's compute. -/
import Derived.Test.YtafmldooephmaaaDoorSpecHex
namespace C6
open Pk Hx

def dig (n : Int) : UInt8 := if n < 26 then UInt8.ofNat (65 + n).toNat else if n < 52 then UInt8.ofNat (97 + n - 26).toNat else if n < 62 then UInt8.ofNat (48 + n - 52).toNat else if n = 62 then 43 else 47

def q3 (a b c : UInt8) : Int := (a.toNat : Int) * 65536 + (b.toNat : Int) * 256 + (c.toNat : Int)
def q2 (a b : UInt8) : Int := (a.toNat : Int) * 65536 + (b.toNat : Int) * 256
def q1 (a : UInt8) : Int := (a.toNat : Int) * 65536

/-- the reference's base64 characters, without line breaks -/
def sgR : List UInt8 → List UInt8
  | a :: b :: c :: r => dig (q3 a b c / 262144) :: dig (q3 a b c / 4096 % 64) :: dig (q3 a b c / 64 % 64) :: dig (q3 a b c % 64) :: sgR r
  | [a, b] => [dig (q2 a b / 262144), dig (q2 a b / 4096 % 64), dig (q2 a b / 64 % 64), 61]
  | [a] => [dig (q1 a / 262144), dig (q1 a / 4096 % 64), 61, 61]
  | [] => []

/-- the reference's line breaks; i: how many characters stand ahead -/
def brk : Nat → List UInt8 → List UInt8
  | _, [] => []
  | _, [c] => [c, 13, 10]
  | i, c :: d :: r => if i % 76 = 75 then c :: 13 :: 10 :: brk (i + 1) (d :: r) else c :: brk (i + 1) (d :: r)

def b64R (l : List UInt8) : List UInt8 := brk 0 (sgR l)

theorem dig_lo (n : Int) (h0 : 0 ≤ n) (h1 : n < 26) : ((dig n).toNat : Int) = 65 + n := by
  have : (65 + n).toNat < 256 := by omega
  simp [dig, h1]; omega
theorem dig_mid (n : Int) (h0 : 26 ≤ n) (h1 : n < 52) : ((dig n).toNat : Int) = 97 + n - 26 := by
  simp [dig, h1, show ¬ n < 26 by omega]; omega
theorem dig_num (n : Int) (h0 : 52 ≤ n) (h1 : n < 62) : ((dig n).toNat : Int) = 48 + n - 52 := by
  simp [dig, h1, show ¬ n < 26 by omega, show ¬ n < 52 by omega]; omega
theorem dig_62 : ((dig 62).toNat : Int) = 43 := by decide
theorem dig_63 : ((dig 63).toNat : Int) = 47 := by decide

theorem sgR_length_le (l : List UInt8) : (sgR l).length ≤ 4 * l.length + 3 := by
  fun_induction sgR l <;> simp_all <;> omega

/-- the reference's value of a base64 character -/
def valF (c : UInt8) : Nat → Nat → Int
  | 0, _ => -1
  | f + 1, n => if dig n = c then n else valF c f (n + 1)
def valR (c : UInt8) : Int := valF c 64 0
theorem valF_range (c : UInt8) : ∀ f n, -1 ≤ valF c f n ∧ valF c f n < (n : Int) + f + 1
  | 0, n => by simp [valF]; omega
  | f + 1, n => by
    unfold valF
    split
    · omega
    · have := valF_range c f (n + 1); omega
theorem valF_lt (c : UInt8) : ∀ f n, 0 < f → valF c f n < (n : Int) + f
  | 1, n, _ => by unfold valF; split <;> simp [valF] <;> omega
  | f + 2, n, _ => by
    unfold valF
    split
    · omega
    · have := valF_lt c (f + 1) (n + 1) (by omega); omega
theorem valR_lo (c : UInt8) : -1 ≤ valR c := (valF_range c 64 0).1
theorem valR_hi (c : UInt8) : valR c < 64 := by have := valF_lt c 64 0 (by decide); unfold valR; omega

/-- the values ahead of the first '=' -/
def dR : List UInt8 → List Int
  | [] => []
  | c :: r => if c = 61 then [] else if 0 ≤ valR c then valR c :: dR r else dR r
theorem dR_mem (l : List UInt8) : ∀ x ∈ dR l, 0 ≤ x ∧ x < 64 := by
  induction l with
  | nil => simp [dR]
  | cons c r ih =>
    unfold dR
    split
    · simp
    · split
      · rename_i h
        intro x hx
        rcases List.mem_cons.1 hx with rfl | hx
        · exact ⟨h, valR_hi c⟩
        · exact ih x hx
      · exact ih
theorem dR_length (l : List UInt8) : (dR l).length ≤ l.length := by
  induction l with
  | nil => simp [dR]
  | cons c r ih =>
    unfold dR
    split
    · simp
    · split <;> simp <;> omega
/-- the bytes of the values -/
def duR : List Int → List UInt8
  | a :: b :: c :: d :: r => b8 (a * 4 + b / 16) :: b8 (b % 16 * 16 + c / 4) :: b8 (c % 4 * 64 + d) :: duR r
  | [a, b, c] => [b8 (a * 4 + b / 16), b8 (b % 16 * 16 + c / 4)]
  | [a, b] => [b8 (a * 4 + b / 16)]
  | _ => []
def unB64R (l : List UInt8) : List UInt8 := duR (dR l)

/-- an upper-case hexadecimal digit -/
def hexC (n : Int) : UInt8 := if n < 10 then b8 (48 + n) else b8 (65 + n - 10)
theorem hexC_lo {n : Int} (h0 : 0 ≤ n) (h1 : n < 10) : ((hexC n).toNat : Int) = 48 + n := by
  unfold hexC; rw [if_pos h1, b8_toNat _ (by omega) (by omega)]
theorem hexC_hi {n : Int} (h0 : 10 ≤ n) (h1 : n < 16) : ((hexC n).toNat : Int) = 65 + n - 10 := by
  unfold hexC; rw [if_neg (by omega), b8_toNat _ (by omega) (by omega)]
/-- the Q encoding -/
def plainQ (n : Int) : Prop := (97 ≤ n ∧ n ≤ 122) ∨ (65 ≤ n ∧ n ≤ 90) ∨ (48 ≤ n ∧ n ≤ 57) ∨ n = 33 ∨ n = 42 ∨ n = 43 ∨ n = 45 ∨ n = 47
instance (n : Int) : Decidable (plainQ n) := by unfold plainQ; infer_instance
def escC (c : UInt8) : List UInt8 := [61, hexC ((c.toNat : Int) / 16), hexC ((c.toNat : Int) % 16)]
def qc (c : UInt8) : List UInt8 := if plainQ c.toNat then [c] else if (c.toNat : Int) = 32 then [95] else escC c
def qR : List UInt8 → List UInt8
  | [] => []
  | c :: r => qc c ++ qR r

/-- '=XY' replaced -/
def escR : List UInt8 → List UInt8
  | [] => []
  | [c] => [c]
  | [c, d] => [c, d]
  | c :: d :: e :: r => if c.toNat = 61 ∧ 0 ≤ unhexR d ∧ 0 ≤ unhexR e then b8 (16 * unhexR d + unhexR e) :: escR r else c :: escR (d :: e :: r)
/-- '_' as a blank -/
def unblank (l : List UInt8) : List UInt8 := l.map fun c => if c.toNat = 95 then 32 else c
def unQR (l : List UInt8) : List UInt8 := escR (unblank l)
theorem escR_length (l : List UInt8) : (escR l).length ≤ l.length := by
  fun_induction escR l <;> simp_all <;> omega

/-- does CR LF stand at the head? -/
def endsL : List UInt8 → Bool
  | c :: d :: _ => c == 13 && d == 10
  | _ => false
/-- how quoted-printable writes a byte; 'last': it ends its line -/
def qpc (c : UInt8) (last : Bool) : List UInt8 :=
  if ((c.toNat : Int) < 33 ∨ 126 < (c.toNat : Int) ∨ (c.toNat : Int) = 61) ∧ (((c.toNat : Int) ≠ 32 ∧ (c.toNat : Int) ≠ 9) ∨ last = true) then escC c else [c]
def qpR : Int → List UInt8 → List UInt8
  | _, [] => []
  | n, [c] => if n + (qpc c true).length > 75 then 61 :: 13 :: 10 :: qpc c true else qpc c true
  | n, c :: d :: r =>
    if endsL (c :: d :: r) = true then 13 :: 10 :: qpR 0 r
    else if n + (qpc c (endsL (d :: r))).length > 75 then 61 :: 13 :: 10 :: (qpc c (endsL (d :: r)) ++ qpR (qpc c (endsL (d :: r))).length (d :: r))
    else qpc c (endsL (d :: r)) ++ qpR (n + (qpc c (endsL (d :: r))).length) (d :: r)
end C6
