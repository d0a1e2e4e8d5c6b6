/- Plain: character sets by name; decoding byte by byte. -/
import Derived.Test.YtnclbbgdfaeilaaGreatDoorUtx
import Derived.Test.YtnclbbgdfaeilaaGreatDoorSubPP
namespace Cs
open Go Pk U8

def winTab : List Nat := [8364, 129, 8218, 402, 8222, 8230, 8224, 8225, 710, 8240, 352, 8249, 338, 141, 381, 143, 144, 8216, 8217, 8220, 8221, 8226, 8211, 8212, 732, 8482, 353, 8250, 339, 157, 382, 376]
def asc (c : UInt8) : Nat := if c.toNat < 128 then c.toNat else 65533
def lat (c : UInt8) : Nat := c.toNat
def win (c : UInt8) : Nat := if c.toNat < 128 ∨ 160 ≤ c.toNat then c.toNat else winTab.getD (c.toNat - 128) 0
theorem asc_sca (c : UInt8) : Sca (asc c) := by
  unfold asc Sca
  have := c.toNat_lt
  split <;> omega
theorem lat_sca (c : UInt8) : Sca (lat c) := by
  unfold lat Sca
  have := c.toNat_lt
  omega
theorem winTab_sca : ∀ k : Nat, k < 32 → winTab.getD k 0 < 9000 := by decide +kernel
theorem win_sca (c : UInt8) : Sca (win c) := by
  unfold win Sca
  have := c.toNat_lt
  split
  · omega
  · have := winTab_sca (c.toNat - 128) (by omega)
    omega
def decB (f : UInt8 → Nat) (l : List UInt8) : List UInt8 := l.flatMap fun c => Lib.encodeRune (f c : Int)
theorem decB_length (f : UInt8 → Nat) : ∀ l : List UInt8, (decB f l).length ≤ 4 * l.length
  | [] => by simp [decB]
  | c :: r => by
    have := decB_length f r
    have := (enc_len (f c)).2
    unfold decB at *
    rw [List.flatMap_cons, List.length_append, List.length_cons]
    omega
def usascii : List UInt8 := [117, 115, 45, 97, 115, 99, 105, 105]
def ascii : List UInt8 := [97, 115, 99, 105, 105]
def utf_8 : List UInt8 := [117, 116, 102, 45, 56]
def utf8 : List UInt8 := [117, 116, 102, 56]
def iso : List UInt8 := [105, 115, 111, 45, 56, 56, 53, 57, 45, 49]
def latin1 : List UInt8 := [108, 97, 116, 105, 110, 49]
def win52 : List UInt8 := [119, 105, 110, 100, 111, 119, 115, 45, 49, 50, 53, 50]
def cp52 : List UInt8 := [99, 112, 49, 50, 53, 50]
def kindL (name : List UInt8) : Nat :=
  let n := name.map Su.lowc
  if n = usascii ∨ n = ascii then 1 else if n = utf_8 ∨ n = utf8 then 2 else if n = iso ∨ n = latin1 then 3 else if n = win52 ∨ n = cp52 then 4 else 0
theorem kindL_le (name : List UInt8) : kindL name ≤ 4 := by
  unfold kindL
  simp only
  repeat' split
  all_goals omega
def decK (k : Nat) (l : List UInt8) : List UInt8 := if k = 1 then decB asc l else if k = 2 then repairL l else if k = 3 then decB lat l else decB win l
def decCS (name l : List UInt8) : List UInt8 := decK (kindL name) l
theorem decK_length (k : Nat) (l : List UInt8) : (decK k l).length ≤ 4 * l.length := by
  unfold decK
  repeat' split
  all_goals first | exact decB_length _ _ | (have := repairL_length l; omega)
end Cs
