/- Plain: header fields: lines, fields, Parse. -/
import Derived.Test.YthchklbnkojkgaaGreatDoorKitG
import Derived.Test.YthchklbnkojkgaaGreatDoorStrK
import Derived.Lib.SlTrimSet
import Derived.Lib.Bytealg
namespace Hd
open Go Go.RowKit Pk

def blk (c : UInt8) : Bool := [32, 9].contains c
/-- the length of the first line, its end among it -/
def lineN : List UInt8 → Nat
  | [] => 0
  | c :: r => if c = 10 then 1 else lineN r + 1
def goesB : List UInt8 → Bool
  | [] => false
  | c :: _ => blk c
def chop (c : UInt8) (l : List UInt8) : List UInt8 := if l.getLast? = some c then l.dropLast else l
def bareL (l : List UInt8) : List UInt8 := if l.getLast? = some 10 then chop 13 l.dropLast else l
def okc (c : UInt8) : Bool := decide (32 < c.toNat) && (decide (c.toNat ≤ 126) && !(c == 58))
def rightB (l : List UInt8) : Bool := !l.isEmpty && l.all okc
def trimR (l : List UInt8) : List UInt8 := Lib.trimRightS l [32, 9]
structure Fld where
  name : ByteArray
  value : ByteArray
  raw : ByteArray
  bad : Bool
def fldC (x : Fld) : List Value := [.string x.name, .string x.value, .string x.raw, .bool x.bad]
def fldLay : Lay Fld where
  enc := fldC
  k := 4
  hk := fun _ => rfl
  h0 := by decide
  one := fun x u hu => by
    unfold fldC at hu
    simp only [List.mem_cons, List.not_mem_nil, or_false] at hu
    rcases hu with rfl | rfl | rfl | rfl <;> rfl
def toB (l : List UInt8) : ByteArray := ⟨l.toArray⟩
/-- the name that a first line has, the colon's place -/
def nameL (raw : List UInt8) : List UInt8 := (bareL (raw.take (lineN raw))).takeWhile fun c => !(c == 58)
def colonB (raw : List UInt8) : Bool := (bareL (raw.take (lineN raw))).contains 58
def fieldL (raw : List UInt8) : Fld :=
  if (colonB raw && rightB (trimR (nameL raw))) = true then ⟨toB (trimR (nameL raw)), toB (bareL (raw.drop ((nameL raw).length + 1))), toB raw, false⟩
  else ⟨toB [], toB [], toB raw, true⟩
/-- how much of a text goes on the field before it -/
def contF : Nat → List UInt8 → Nat
  | 0, _ => 0
  | f + 1, l => if goesB l = true then lineN l + contF f (l.drop (lineN l)) else 0
def cont (l : List UInt8) : Nat := contF l.length l
theorem lineN_le : ∀ l : List UInt8, lineN l ≤ l.length
  | [] => Nat.le_refl _
  | c :: r => by
    unfold lineN
    rw [List.length_cons]
    split
    · omega
    · have := lineN_le r; omega
theorem lineN_pos {l : List UInt8} (h : l ≠ []) : 1 ≤ lineN l := by
  cases l with
  | nil => exact absurd rfl h
  | cons c r => unfold lineN; split <;> omega
theorem lineN_nil : lineN [] = 0 := rfl
theorem goes_ne {l : List UInt8} (h : goesB l = true) : l ≠ [] := fun e => by rw [e] at h; cases h
theorem contF_more : ∀ (f : Nat) (l : List UInt8), l.length ≤ f → contF f l = cont l := by
  intro f
  induction f using Nat.strongRecOn with
  | _ f ih =>
    intro l hl
    cases hg : goesB l with
    | false =>
      unfold cont
      cases f with
      | zero => cases l with
        | nil => rfl
        | cons a r => simp at hl
      | succ f => cases hL : l.length with
        | zero => unfold contF; rw [if_neg (by rw [hg]; decide)]
        | succ n => unfold contF; rw [if_neg (by rw [hg]; decide), if_neg (by rw [hg]; decide)]
    | true =>
      have hne := goes_ne hg
      have hp := lineN_pos hne
      have hlen : 0 < l.length := List.length_pos_iff.2 hne
      unfold cont
      obtain ⟨n, hn⟩ : ∃ n, l.length = n + 1 := ⟨l.length - 1, by omega⟩
      cases f with
      | zero => omega
      | succ f =>
        rw [hn, contF, contF, if_pos hg, if_pos hg]
        have hd : (l.drop (lineN l)).length ≤ n := by rw [List.length_drop]; omega
        congr 1
        rw [ih f (by omega) _ (by omega)]
        by_cases he : n = f
        · rw [he, ih f (by omega) _ (by omega)]
        · rw [ih n (by omega) _ hd]
theorem cont_step {l : List UInt8} (h : goesB l = true) : cont l = lineN l + cont (l.drop (lineN l)) := by
  have hne := goes_ne h
  have hp := lineN_pos hne
  obtain ⟨n, hn⟩ : ∃ n, l.length = n + 1 := ⟨l.length - 1, by have := List.length_pos_iff.2 hne; omega⟩
  conv => lhs; unfold cont; rw [hn, contF, if_pos h]
  rw [contF_more n _ (by rw [List.length_drop]; omega)]
theorem cont_stop {l : List UInt8} (h : goesB l = false) : cont l = 0 := by
  unfold cont
  cases l.length with
  | zero => rfl
  | succ n => rw [contF, if_neg (by rw [h]; decide)]
theorem contF_le : ∀ (f : Nat) (l : List UInt8), contF f l ≤ l.length
  | 0, _ => Nat.zero_le _
  | f + 1, l => by
    unfold contF
    split
    · have h1 := contF_le f (l.drop (lineN l))
      have h2 := lineN_le l
      rw [List.length_drop] at h1
      omega
    · omega
theorem cont_le (l : List UInt8) : cont l ≤ l.length := contF_le _ _
/-- the first line and what goes on -/
def headN (l : List UInt8) : Nat := lineN l + cont (l.drop (lineN l))
theorem headN_le (l : List UInt8) : headN l ≤ l.length := by
  unfold headN
  have h1 := cont_le (l.drop (lineN l))
  have h2 := lineN_le l
  rw [List.length_drop] at h1
  omega
theorem headN_pos {l : List UInt8} (h : l ≠ []) : 1 ≤ headN l := by
  unfold headN
  have := lineN_pos h
  omega
/-- a line without text -/
def emptyB (l : List UInt8) : Bool := (bareL (l.take (lineN l))).isEmpty
def parF : Nat → List UInt8 → List Fld
  | 0, _ => []
  | f + 1, l => if l.isEmpty = true then [] else if emptyB l = true then [] else fieldL (l.take (headN l)) :: parF f (l.drop (headN l))
def parS (l : List UInt8) : List Fld := parF l.length l
def endF : Nat → List UInt8 → Nat
  | 0, _ => 0
  | f + 1, l => if l.isEmpty = true then 0 else if emptyB l = true then lineN l else headN l + endF f (l.drop (headN l))
def endS (l : List UInt8) : Nat := endF l.length l
theorem parF_more : ∀ (f : Nat) (l : List UInt8), l.length ≤ f → parF f l = parS l ∧ endF f l = endS l := by
  intro f
  induction f using Nat.strongRecOn with
  | _ f ih =>
    intro l hl
    cases l with
    | nil => cases f <;> exact ⟨rfl, rfl⟩
    | cons a r =>
      cases f with
      | zero => simp at hl
      | succ f =>
        have hw := headN_pos (l := a :: r) (by simp)
        have hd : ((a :: r).drop (headN (a :: r))).length ≤ r.length := by rw [List.length_drop, List.length_cons]; omega
        simp only [List.length_cons] at hl
        have key : parF f ((a :: r).drop (headN (a :: r))) = parF r.length ((a :: r).drop (headN (a :: r))) ∧ endF f ((a :: r).drop (headN (a :: r))) = endF r.length ((a :: r).drop (headN (a :: r))) := by
          obtain ⟨i1, i2⟩ := ih f (by omega) ((a :: r).drop (headN (a :: r))) (by omega)
          by_cases he : r.length = f
          · rw [he]; exact ⟨rfl, rfl⟩
          · obtain ⟨j1, j2⟩ := ih r.length (by omega) ((a :: r).drop (headN (a :: r))) hd
            exact ⟨i1.trans j1.symm, i2.trans j2.symm⟩
        unfold parS endS
        rw [List.length_cons, parF, parF, endF, endF, key.1, key.2]
        exact ⟨rfl, rfl⟩
theorem par_nil : parS [] = [] ∧ endS [] = 0 := ⟨rfl, rfl⟩
theorem par_empty {l : List UInt8} (h : l ≠ []) (he : emptyB l = true) : parS l = [] ∧ endS l = lineN l := by
  obtain ⟨n, hn⟩ : ∃ n, l.length = n + 1 := ⟨l.length - 1, by have := List.length_pos_iff.2 h; omega⟩
  have hi : ¬ l.isEmpty = true := by simp [h]
  unfold parS endS
  rw [hn, parF, endF, if_neg hi, if_neg hi, if_pos he, if_pos he]
  exact ⟨rfl, rfl⟩
theorem par_cons {l : List UInt8} (h : l ≠ []) (he : emptyB l = false) : parS l = fieldL (l.take (headN l)) :: parS (l.drop (headN l)) ∧ endS l = headN l + endS (l.drop (headN l)) := by
  obtain ⟨n, hn⟩ : ∃ n, l.length = n + 1 := ⟨l.length - 1, by have := List.length_pos_iff.2 h; omega⟩
  have hi : ¬ l.isEmpty = true := by simp [h]
  have hp := headN_pos h
  have hm := parF_more n (l.drop (headN l)) (by rw [List.length_drop]; omega)
  conv => lhs; lhs; unfold parS
  conv => rhs; lhs; unfold endS
  rw [hn, parF, endF, if_neg hi, if_neg hi, if_neg (by rw [he]; decide), if_neg (by rw [he]; decide), hm.1, hm.2]
  exact ⟨rfl, rfl⟩
theorem parF_length : ∀ (f : Nat) (l : List UInt8), (parF f l).length ≤ l.length
  | 0, _ => Nat.zero_le _
  | f + 1, l => by
    unfold parF
    split
    · simp
    · split
      · simp
      · rename_i h1 h2
        have hne : l ≠ [] := by intro e; rw [e] at h1; exact h1 rfl
        have := parF_length f (l.drop (headN l))
        have hp := headN_pos hne
        have hl := List.length_pos_iff.2 hne
        rw [List.length_cons]
        rw [List.length_drop] at this
        omega
theorem par_length (l : List UInt8) : (parS l).length ≤ l.length := parF_length _ _
theorem endF_le : ∀ (f : Nat) (l : List UInt8), endF f l ≤ l.length
  | 0, _ => Nat.zero_le _
  | f + 1, l => by
    unfold endF
    split
    · omega
    · split
      · exact lineN_le l
      · have := endF_le f (l.drop (headN l))
        have h2 := headN_le l
        rw [List.length_drop] at this
        omega
theorem endS_le (l : List UInt8) : endS l ≤ l.length := endF_le _ _
/-! what the values read as -/
def unfoldL : List UInt8 → List UInt8
  | [] => []
  | [c] => if c = 10 then [] else [c]
  | c :: d :: r => if c = 10 then unfoldL (d :: r) else if c = 13 ∧ d = 10 then unfoldL (d :: r) else c :: unfoldL (d :: r)
def trimB (l : List UInt8) : List UInt8 := Lib.trimS l [32, 9]
def lowc (c : UInt8) : UInt8 := if 65 ≤ c.toNat ∧ c.toNat ≤ 90 then c + 32 else c
def smallL (l : List UInt8) : List UInt8 := l.map lowc
def valueOf (x : Fld) : List UInt8 := trimB (unfoldL x.value.data.toList)
def isNamed (n : List UInt8) (x : Fld) : Bool := !x.bad && smallL x.name.data.toList == smallL n
def allL (m : List Fld) (n : List UInt8) : List (List UInt8) := (m.filter (isNamed n)).map valueOf
/-! Put -/
def spc (c : UInt8) : UInt8 := if c = 13 ∨ c = 10 then 32 else c
def cleanL (l : List UInt8) : List UInt8 := trimB (l.map spc)
def pieceF (c : UInt8) : List UInt8 → Nat
  | [] => 0
  | d :: r => if (blk d && !blk c) = true then 0 else pieceF d r + 1
def pieceN : List UInt8 → Nat
  | [] => 1
  | c :: r => pieceF c r + 1
def putF : Nat → Nat → Bool → List UInt8 → List UInt8
  | 0, _, _, _ => []
  | f + 1, n, first, v => if v.isEmpty = true then [] else
    if !first ∧ 78 < n + pieceN v then [13, 10] ++ v.take (pieceN v) ++ putF f (pieceN v) false (v.drop (pieceN v))
    else v.take (pieceN v) ++ putF f (n + pieceN v) false (v.drop (pieceN v))
def putL (name value : List UInt8) : List UInt8 :=
  if rightB name = true then name ++ [58, 32] ++ putF (cleanL value).length (name.length + 2) true (cleanL value) ++ [13, 10] else []
theorem lineN_ix (l : List UInt8) : (lineN l : Int) = if 0 ≤ Lib.indexByte l 10 then Lib.indexByte l 10 + 1 else l.length := by
  induction l with
  | nil => rfl
  | cons c r ih =>
    have hge := Lib.indexByte_ge r 10
    have e1 : Lib.indexByte (c :: r) 10 = if c == 10 then 0 else if Lib.indexByte r 10 == -1 then -1 else Lib.indexByte r 10 + 1 := rfl
    have e2 : lineN (c :: r) = if c = 10 then 1 else lineN r + 1 := rfl
    rw [e1, e2, List.length_cons]
    by_cases hc : c = 10
    · have hcb : (c == 10) = true := by simp [hc]
      rw [hcb, if_pos hc]; simp
    · rw [if_neg hc, if_neg (show ¬ (c == 10) = true by simp [hc])]
      by_cases hi : Lib.indexByte r 10 = -1
      · rw [if_pos (show (Lib.indexByte r 10 == -1) = true by rw [hi]; rfl), if_neg (by decide)]
        rw [if_neg (by omega)] at ih
        omega
      · rw [if_neg (show ¬ (Lib.indexByte r 10 == -1) = true by simpa using hi), if_pos (by omega)]
        rw [if_pos (by omega)] at ih
        omega
theorem goes_ix (c : UInt8) : (0 ≤ Lib.indexByte [32, 9] c) ↔ blk c = true := by
  have h : ∀ n : Nat, n < 256 → (decide (0 ≤ Lib.indexByte [32, 9] (UInt8.ofNat n)) = blk (UInt8.ofNat n)) := by decide +kernel
  have := h c.toNat c.toNat_lt
  rw [UInt8.ofNat_toNat] at this
  rw [← this]; simp
end Hd
