/- Plain: dates: what Read and Write of a date do. -/
import Derived.Test.YtlgnhngbmciaoaaDoorDtS
import Derived.Lib.FieldsP
namespace Dt
open Go

/-- comments and commas blanked out, letters made small; n: how deep in comments -/
def plD : Nat → List UInt8 → List UInt8
  | _, [] => []
  | n, [c] => if c = 92 ∧ 0 < n then [32] else if c = 40 then [32] else if 0 < n then [32] else if c = 44 then [32] else if 65 ≤ c.toNat ∧ c.toNat ≤ 90 then [c + 32] else [c]
  | n, c :: d :: r =>
    if c = 92 ∧ 0 < n then 32 :: 32 :: plD n r
    else if c = 40 then 32 :: plD (n + 1) (d :: r)
    else if 0 < n then 32 :: plD (if c = 41 then n - 1 else n) (d :: r)
    else if c = 44 then 32 :: plD n (d :: r)
    else if 65 ≤ c.toNat ∧ c.toNat ≤ 90 then (c + 32) :: plD n (d :: r)
    else c :: plD n (d :: r)
def blkR (x : Nat) : Bool := x == 32 || (x == 9 || (x == 13 || x == 10))
def digF : Int → List UInt8 → Int × Bool
  | n, [] => (n, true)
  | n, c :: r => if c.toNat < 48 ∨ 57 < c.toNat then (0, false) else digF (10 * n + ((c.toNat : Int) - 48)) r
def digL (least most : Nat) (s : List UInt8) : Int × Bool := if s.length < least ∨ most < s.length then (0, false) else digF 0 s
def yearL (s : List UInt8) : Int × Bool :=
  (if s.length = 3 ∨ (s.length = 2 ∧ 50 ≤ (digL 2 4 s).1) then (digL 2 4 s).1 + 1900 else if s.length = 2 then (digL 2 4 s).1 + 2000 else (digL 2 4 s).1, (digL 2 4 s).2)
/-- split at colons -/
def colons : List UInt8 → List UInt8 → List (List UInt8)
  | cur, [] => [cur]
  | cur, c :: r => if c = 58 then cur :: colons [] r else colons (cur ++ [c]) r
def clock3 (a b c : List UInt8) : Int × Bool :=
  (3600 * (digL 2 2 a).1 + 60 * (digL 2 2 b).1 + min (digL 2 2 c).1 59, (digL 2 2 a).2 && ((digL 2 2 b).2 && ((digL 2 2 c).2 && (decide ((digL 2 2 a).1 < 24) && (decide ((digL 2 2 b).1 < 60) && decide ((digL 2 2 c).1 < 61))))))
def clockL (s : List UInt8) : Int × Bool := match colons [] s with
  | [a, b] => clock3 a b [48, 48]
  | [a, b, c] => clock3 a b c
  | _ => (0, false)
def knownL (s : List UInt8) : Int :=
  if s = [101, 100, 116] then -4 else if s = [101, 115, 116] then -5 else if s = [99, 100, 116] then -5 else if s = [99, 115, 116] then -6
  else if s = [109, 100, 116] then -6 else if s = [109, 115, 116] then -7 else if s = [112, 100, 116] then -7 else if s = [112, 115, 116] then -8 else 0
def zoneL (s : List UInt8) : Int × Bool :=
  if s.length = 5 ∧ (s.head? = some 43 ∨ s.head? = some 45) then
    (if s.head? = some 45 then -(60 * (digL 2 2 ((s.drop 1).take 2)).1 + (digL 2 2 (s.drop 3)).1) else 60 * (digL 2 2 ((s.drop 1).take 2)).1 + (digL 2 2 (s.drop 3)).1,
      (digL 2 2 ((s.drop 1).take 2)).2 && ((digL 2 2 (s.drop 3)).2 && (decide ((digL 2 2 ((s.drop 1).take 2)).1 < 24) && decide ((digL 2 2 (s.drop 3)).1 < 60))))
  else if (s.all fun c => decide (97 ≤ c.toNat) && decide (c.toNat ≤ 122)) = true then (60 * knownL s, decide (s.length ≤ 5)) else (0, false)
def wdays : List (List UInt8) := [[115, 117, 110], [109, 111, 110], [116, 117, 101], [119, 101, 100], [116, 104, 117], [102, 114, 105], [115, 97, 116]]
def mons : List (List UInt8) := [[106, 97, 110], [102, 101, 98], [109, 97, 114], [97, 112, 114], [109, 97, 121], [106, 117, 110], [106, 117, 108], [97, 117, 103], [115, 101, 112], [111, 99, 116], [110, 111, 118], [100, 101, 99]]
def ixF (x : List UInt8) : Nat → List (List UInt8) → Nat
  | _, [] => 0
  | k, y :: r => if y = x then k else ixF x (k + 1) r
def monL (x : List UInt8) : Nat := ixF x 1 mons
/-- five fields: day, month, year, clock, zone -/
def dayN (a b c d e : List UInt8) : Int := if (digL 1 2 a).2 = true ∧ (yearL c).2 = true ∧ (clockL d).2 = true ∧ (zoneL e).2 = true ∧ 0 < monL b ∧ 0 < (yearL c).1 then daysL (yearL c).1 (monL b) (digL 1 2 a).1 else 0
def read5 (a b c d e : List UInt8) : Option (Int × Int) :=
  if civL (dayN a b c d e) = ⟨(yearL c).1, monL b, (digL 1 2 a).1⟩ ∧ ((digL 1 2 a).2 = true ∧ (yearL c).2 = true ∧ (clockL d).2 = true ∧ (zoneL e).2 = true) ∧ rightL (dayN a b c d e * 86400 + (clockL d).1 - 60 * (zoneL e).1) (zoneL e).1 = true
  then some (dayN a b c d e * 86400 + (clockL d).1 - 60 * (zoneL e).1, (zoneL e).1) else none
def noDay : List (List UInt8) → List (List UInt8)
  | [] => []
  | x :: r => if wdays.contains x = true then r else x :: r
def readF (l : List (List UInt8)) : Option (Int × Int) := match noDay l with
  | [a, b, c, d] => read5 a b c d [122]
  | [a, b, c, d, e] => read5 a b c d e
  | _ => none
def fieldsD (s : List UInt8) : List (List UInt8) := (Lib.goFieldsP blkR ⟨(plD 0 s).toArray⟩).map (·.data.toList)
def readL (s : List UInt8) : Option (Int × Int) := readF (fieldsD s)
def lit1 : List UInt8 := [84, 104, 117, 44, 32, 49, 32, 74, 97, 110, 32, 49, 57, 55, 48, 32, 48, 49, 58, 48, 48, 58, 51, 48, 32, 43, 48, 49, 48, 48]
theorem read1 : readL lit1 = some (30, 60) := by decide +kernel
end Dt
