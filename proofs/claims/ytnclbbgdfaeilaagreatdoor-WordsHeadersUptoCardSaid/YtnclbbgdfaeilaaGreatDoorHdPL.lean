/- Plain: header fields: lines, fields, Parse. Plain: header fields: what a field's bytes are, alone and among others. Plain: header fields: Put, and what Parse makes of it. Plain: header fields, in the words of the reference's walks: lines, Unfold, pieces. Plain: header fields: a line that goes on. Plain: header fields: fields written one after another. -/
import Derived.Test.YtnclbbgdfaeilaaGreatDoorKitG
import Derived.Test.YtnclbbgdfaeilaaGreatDoorStrK
import Derived.Lib.SlTrimSet
import Derived.Lib.Bytealg
import Derived.Lib.Replace
namespace Hd
open Go Go.RowKit Pk

def blk (c : UInt8) : Bool := [32, 9].contains c
/-- the length of the first line, its end among it -/
def lineN : List UInt8 → Nat
  | [] => 0
  | c :: r => if c = 10 then 1 else lineN r + 1
def goesB : List UInt8 → Bool
  | [] => false
  | c :: _ => blk c
def chop (c : UInt8) (l : List UInt8) : List UInt8 := if l.getLast? = some c then l.dropLast else l
def bareL (l : List UInt8) : List UInt8 := if l.getLast? = some 10 then chop 13 l.dropLast else l
def okc (c : UInt8) : Bool := decide (32 < c.toNat) && (decide (c.toNat ≤ 126) && !(c == 58))
def rightB (l : List UInt8) : Bool := !l.isEmpty && l.all okc
def trimR (l : List UInt8) : List UInt8 := Lib.trimRightS l [32, 9]
structure Fld where
  name : ByteArray
  value : ByteArray
  raw : ByteArray
  bad : Bool
def fldC (x : Fld) : List Value := [.string x.name, .string x.value, .string x.raw, .bool x.bad]
def fldLay : Lay Fld where
  enc := fldC
  k := 4
  hk := fun _ => rfl
  h0 := by decide
  one := fun x u hu => by
    unfold fldC at hu
    simp only [List.mem_cons, List.not_mem_nil, or_false] at hu
    rcases hu with rfl | rfl | rfl | rfl <;> rfl
def toB (l : List UInt8) : ByteArray := ⟨l.toArray⟩
/-- the name that a first line has, the colon's place -/
def nameL (raw : List UInt8) : List UInt8 := (bareL (raw.take (lineN raw))).takeWhile fun c => !(c == 58)
def colonB (raw : List UInt8) : Bool := (bareL (raw.take (lineN raw))).contains 58
def fieldL (raw : List UInt8) : Fld :=
  if (colonB raw && rightB (trimR (nameL raw))) = true then ⟨toB (trimR (nameL raw)), toB (bareL (raw.drop ((nameL raw).length + 1))), toB raw, false⟩
  else ⟨toB [], toB [], toB raw, true⟩
/-- how much of a text goes on the field before it -/
def contF : Nat → List UInt8 → Nat
  | 0, _ => 0
  | f + 1, l => if goesB l = true then lineN l + contF f (l.drop (lineN l)) else 0
def cont (l : List UInt8) : Nat := contF l.length l
theorem lineN_le : ∀ l : List UInt8, lineN l ≤ l.length
  | [] => Nat.le_refl _
  | c :: r => by
    unfold lineN
    rw [List.length_cons]
    split
    · omega
    · have := lineN_le r; omega
theorem lineN_pos {l : List UInt8} (h : l ≠ []) : 1 ≤ lineN l := by
  cases l with
  | nil => exact absurd rfl h
  | cons c r => unfold lineN; split <;> omega
theorem lineN_nil : lineN [] = 0 := rfl
theorem goes_ne {l : List UInt8} (h : goesB l = true) : l ≠ [] := fun e => by rw [e] at h; cases h
theorem contF_more : ∀ (f : Nat) (l : List UInt8), l.length ≤ f → contF f l = cont l := by
  intro f
  induction f using Nat.strongRecOn with
  | _ f ih =>
    intro l hl
    cases hg : goesB l with
    | false =>
      unfold cont
      cases f with
      | zero => cases l with
        | nil => rfl
        | cons a r => simp at hl
      | succ f => cases hL : l.length with
        | zero => unfold contF; rw [if_neg (by rw [hg]; decide)]
        | succ n => unfold contF; rw [if_neg (by rw [hg]; decide), if_neg (by rw [hg]; decide)]
    | true =>
      have hne := goes_ne hg
      have hp := lineN_pos hne
      have hlen : 0 < l.length := List.length_pos_iff.2 hne
      unfold cont
      obtain ⟨n, hn⟩ : ∃ n, l.length = n + 1 := ⟨l.length - 1, by omega⟩
      cases f with
      | zero => omega
      | succ f =>
        rw [hn, contF, contF, if_pos hg, if_pos hg]
        have hd : (l.drop (lineN l)).length ≤ n := by rw [List.length_drop]; omega
        congr 1
        rw [ih f (by omega) _ (by omega)]
        by_cases he : n = f
        · rw [he, ih f (by omega) _ (by omega)]
        · rw [ih n (by omega) _ hd]
theorem cont_step {l : List UInt8} (h : goesB l = true) : cont l = lineN l + cont (l.drop (lineN l)) := by
  have hne := goes_ne h
  have hp := lineN_pos hne
  obtain ⟨n, hn⟩ : ∃ n, l.length = n + 1 := ⟨l.length - 1, by have := List.length_pos_iff.2 hne; omega⟩
  conv => lhs; unfold cont; rw [hn, contF, if_pos h]
  rw [contF_more n _ (by rw [List.length_drop]; omega)]
theorem cont_stop {l : List UInt8} (h : goesB l = false) : cont l = 0 := by
  unfold cont
  cases l.length with
  | zero => rfl
  | succ n => rw [contF, if_neg (by rw [h]; decide)]
theorem contF_le : ∀ (f : Nat) (l : List UInt8), contF f l ≤ l.length
  | 0, _ => Nat.zero_le _
  | f + 1, l => by
    unfold contF
    split
    · have h1 := contF_le f (l.drop (lineN l))
      have h2 := lineN_le l
      rw [List.length_drop] at h1
      omega
    · omega
theorem cont_le (l : List UInt8) : cont l ≤ l.length := contF_le _ _
/-- the first line and what goes on -/
def headN (l : List UInt8) : Nat := lineN l + cont (l.drop (lineN l))
theorem headN_le (l : List UInt8) : headN l ≤ l.length := by
  unfold headN
  have h1 := cont_le (l.drop (lineN l))
  have h2 := lineN_le l
  rw [List.length_drop] at h1
  omega
theorem headN_pos {l : List UInt8} (h : l ≠ []) : 1 ≤ headN l := by
  unfold headN
  have := lineN_pos h
  omega
/-- a line without text -/
def emptyB (l : List UInt8) : Bool := (bareL (l.take (lineN l))).isEmpty
def parF : Nat → List UInt8 → List Fld
  | 0, _ => []
  | f + 1, l => if l.isEmpty = true then [] else if emptyB l = true then [] else fieldL (l.take (headN l)) :: parF f (l.drop (headN l))
def parS (l : List UInt8) : List Fld := parF l.length l
def endF : Nat → List UInt8 → Nat
  | 0, _ => 0
  | f + 1, l => if l.isEmpty = true then 0 else if emptyB l = true then lineN l else headN l + endF f (l.drop (headN l))
def endS (l : List UInt8) : Nat := endF l.length l
theorem parF_more : ∀ (f : Nat) (l : List UInt8), l.length ≤ f → parF f l = parS l ∧ endF f l = endS l := by
  intro f
  induction f using Nat.strongRecOn with
  | _ f ih =>
    intro l hl
    cases l with
    | nil => cases f <;> exact ⟨rfl, rfl⟩
    | cons a r =>
      cases f with
      | zero => simp at hl
      | succ f =>
        have hw := headN_pos (l := a :: r) (by simp)
        have hd : ((a :: r).drop (headN (a :: r))).length ≤ r.length := by rw [List.length_drop, List.length_cons]; omega
        simp only [List.length_cons] at hl
        have key : parF f ((a :: r).drop (headN (a :: r))) = parF r.length ((a :: r).drop (headN (a :: r))) ∧ endF f ((a :: r).drop (headN (a :: r))) = endF r.length ((a :: r).drop (headN (a :: r))) := by
          obtain ⟨i1, i2⟩ := ih f (by omega) ((a :: r).drop (headN (a :: r))) (by omega)
          by_cases he : r.length = f
          · rw [he]; exact ⟨rfl, rfl⟩
          · obtain ⟨j1, j2⟩ := ih r.length (by omega) ((a :: r).drop (headN (a :: r))) hd
            exact ⟨i1.trans j1.symm, i2.trans j2.symm⟩
        unfold parS endS
        rw [List.length_cons, parF, parF, endF, endF, key.1, key.2]
        exact ⟨rfl, rfl⟩
theorem par_nil : parS [] = [] ∧ endS [] = 0 := ⟨rfl, rfl⟩
theorem par_empty {l : List UInt8} (h : l ≠ []) (he : emptyB l = true) : parS l = [] ∧ endS l = lineN l := by
  obtain ⟨n, hn⟩ : ∃ n, l.length = n + 1 := ⟨l.length - 1, by have := List.length_pos_iff.2 h; omega⟩
  have hi : ¬ l.isEmpty = true := by simp [h]
  unfold parS endS
  rw [hn, parF, endF, if_neg hi, if_neg hi, if_pos he, if_pos he]
  exact ⟨rfl, rfl⟩
theorem par_cons {l : List UInt8} (h : l ≠ []) (he : emptyB l = false) : parS l = fieldL (l.take (headN l)) :: parS (l.drop (headN l)) ∧ endS l = headN l + endS (l.drop (headN l)) := by
  obtain ⟨n, hn⟩ : ∃ n, l.length = n + 1 := ⟨l.length - 1, by have := List.length_pos_iff.2 h; omega⟩
  have hi : ¬ l.isEmpty = true := by simp [h]
  have hp := headN_pos h
  have hm := parF_more n (l.drop (headN l)) (by rw [List.length_drop]; omega)
  conv => lhs; lhs; unfold parS
  conv => rhs; lhs; unfold endS
  rw [hn, parF, endF, if_neg hi, if_neg hi, if_neg (by rw [he]; decide), if_neg (by rw [he]; decide), hm.1, hm.2]
  exact ⟨rfl, rfl⟩
theorem parF_length : ∀ (f : Nat) (l : List UInt8), (parF f l).length ≤ l.length
  | 0, _ => Nat.zero_le _
  | f + 1, l => by
    unfold parF
    split
    · simp
    · split
      · simp
      · rename_i h1 h2
        have hne : l ≠ [] := by intro e; rw [e] at h1; exact h1 rfl
        have := parF_length f (l.drop (headN l))
        have hp := headN_pos hne
        have hl := List.length_pos_iff.2 hne
        rw [List.length_cons]
        rw [List.length_drop] at this
        omega
theorem par_length (l : List UInt8) : (parS l).length ≤ l.length := parF_length _ _
theorem endF_le : ∀ (f : Nat) (l : List UInt8), endF f l ≤ l.length
  | 0, _ => Nat.zero_le _
  | f + 1, l => by
    unfold endF
    split
    · omega
    · split
      · exact lineN_le l
      · have := endF_le f (l.drop (headN l))
        have h2 := headN_le l
        rw [List.length_drop] at this
        omega
theorem endS_le (l : List UInt8) : endS l ≤ l.length := endF_le _ _
/-! what the values read as -/
def unfoldL : List UInt8 → List UInt8
  | [] => []
  | [c] => if c = 10 then [] else [c]
  | c :: d :: r => if c = 10 then unfoldL (d :: r) else if c = 13 ∧ d = 10 then unfoldL (d :: r) else c :: unfoldL (d :: r)
def trimB (l : List UInt8) : List UInt8 := Lib.trimS l [32, 9]
def lowc (c : UInt8) : UInt8 := if 65 ≤ c.toNat ∧ c.toNat ≤ 90 then c + 32 else c
def smallL (l : List UInt8) : List UInt8 := l.map lowc
def valueOf (x : Fld) : List UInt8 := trimB (unfoldL x.value.data.toList)
def isNamed (n : List UInt8) (x : Fld) : Bool := !x.bad && smallL x.name.data.toList == smallL n
def allL (m : List Fld) (n : List UInt8) : List (List UInt8) := (m.filter (isNamed n)).map valueOf
/-! Put -/
def spc (c : UInt8) : UInt8 := if c = 13 ∨ c = 10 then 32 else c
def cleanL (l : List UInt8) : List UInt8 := trimB (l.map spc)
def pieceF (c : UInt8) : List UInt8 → Nat
  | [] => 0
  | d :: r => if (blk d && !blk c) = true then 0 else pieceF d r + 1
def pieceN : List UInt8 → Nat
  | [] => 1
  | c :: r => pieceF c r + 1
def putF : Nat → Nat → Bool → List UInt8 → List UInt8
  | 0, _, _, _ => []
  | f + 1, n, first, v => if v.isEmpty = true then [] else
    if !first ∧ 78 < n + pieceN v then [13, 10] ++ v.take (pieceN v) ++ putF f (pieceN v) false (v.drop (pieceN v))
    else v.take (pieceN v) ++ putF f (n + pieceN v) false (v.drop (pieceN v))
def putL (name value : List UInt8) : List UInt8 :=
  if rightB name = true then name ++ [58, 32] ++ putF (cleanL value).length (name.length + 2) true (cleanL value) ++ [13, 10] else []
theorem lineN_ix (l : List UInt8) : (lineN l : Int) = if 0 ≤ Lib.indexByte l 10 then Lib.indexByte l 10 + 1 else l.length := by
  induction l with
  | nil => rfl
  | cons c r ih =>
    have hge := Lib.indexByte_ge r 10
    have e1 : Lib.indexByte (c :: r) 10 = if c == 10 then 0 else if Lib.indexByte r 10 == -1 then -1 else Lib.indexByte r 10 + 1 := rfl
    have e2 : lineN (c :: r) = if c = 10 then 1 else lineN r + 1 := rfl
    rw [e1, e2, List.length_cons]
    by_cases hc : c = 10
    · have hcb : (c == 10) = true := by simp [hc]
      rw [hcb, if_pos hc]; simp
    · rw [if_neg hc, if_neg (show ¬ (c == 10) = true by simp [hc])]
      by_cases hi : Lib.indexByte r 10 = -1
      · rw [if_pos (show (Lib.indexByte r 10 == -1) = true by rw [hi]; rfl), if_neg (by decide)]
        rw [if_neg (by omega)] at ih
        omega
      · rw [if_neg (show ¬ (Lib.indexByte r 10 == -1) = true by simpa using hi), if_pos (by omega)]
        rw [if_pos (by omega)] at ih
        omega
theorem goes_ix (c : UInt8) : (0 ≤ Lib.indexByte [32, 9] c) ↔ blk c = true := by
  have h : ∀ n : Nat, n < 256 → (decide (0 ≤ Lib.indexByte [32, 9] (UInt8.ofNat n)) = blk (UInt8.ofNat n)) := by decide +kernel
  have := h c.toNat c.toNat_lt
  rw [UInt8.ofNat_toNat] at this
  rw [← this]; simp
end Hd
namespace Hd
open Go Go.RowKit Pk

theorem lineN_cons10 (r : List UInt8) : lineN (10 :: r) = 1 := by unfold lineN; rw [if_pos rfl]
theorem lineN_cons {c : UInt8} (h : c ≠ 10) (r : List UInt8) : lineN (c :: r) = lineN r + 1 := by
  conv => lhs; unfold lineN
  rw [if_neg h]
def ends (l : List UInt8) : Prop := l.getLast? = some 10
theorem ends_cons {c : UInt8} {l : List UInt8} (h : ends l) : ends (c :: l) := by
  unfold ends at *
  cases l with
  | nil => cases h
  | cons a r => rw [List.getLast?_cons_cons]; exact h
theorem ends_ne {l : List UInt8} (h : ends l) : l ≠ [] := fun e => by unfold ends at h; rw [e] at h; cases h
theorem ends_app {a b : List UInt8} (h : ends b) : ends (a ++ b) := by
  unfold ends at *
  rw [List.getLast?_append, h]; rfl
/-- the first line by itself -/
theorem line_take : ∀ l : List UInt8, lineN (l.take (lineN l)) = lineN l
  | [] => rfl
  | c :: r => by
    by_cases hc : c = 10
    · subst hc; rw [lineN_cons10]; rfl
    · rw [lineN_cons hc, List.take_succ_cons, lineN_cons hc, line_take r]
theorem line_ends : ∀ l : List UInt8, ends (l.take (lineN l)) ∨ lineN l = l.length
  | [] => .inr rfl
  | c :: r => by
    by_cases hc : c = 10
    · subst hc; rw [lineN_cons10]; exact .inl rfl
    · rw [lineN_cons hc, List.take_succ_cons, List.length_cons]
      rcases line_ends r with h | h
      · exact .inl (ends_cons h)
      · exact .inr (by omega)
/-- a line that ends goes no further -/
theorem line_app : ∀ (w t : List UInt8), lineN w = w.length → ends w → lineN (w ++ t) = w.length
  | [], _, _, h => by cases h
  | c :: r, t, hl, he => by
    by_cases hc : c = 10
    · subst hc
      rw [lineN_cons10, List.length_cons] at hl
      rw [List.cons_append, lineN_cons10, List.length_cons]; exact hl
    · rw [lineN_cons hc, List.length_cons] at hl
      rw [List.cons_append, lineN_cons hc, List.length_cons]
      have : ends r := by
        cases r with
        | nil => unfold ends at he; injection he with he; exact absurd he hc
        | cons a r => unfold ends at he ⊢; rwa [List.getLast?_cons_cons] at he
      rw [line_app r t (by omega) this]
theorem goes_app {w t : List UInt8} (h : w ≠ []) : goesB (w ++ t) = goesB w := by
  cases w with
  | nil => exact absurd rfl h
  | cons c r => rfl
theorem take_app_len (w t : List UInt8) : (w ++ t).take w.length = w := by simp
theorem drop_app_len (w t : List UInt8) : (w ++ t).drop w.length = t := by simp
/-- what goes on, by itself -/
theorem cont_take : ∀ (n : Nat) (l : List UInt8), l.length ≤ n → cont (l.take (cont l)) = cont l ∧ goesB (l.drop (cont l)) = false ∧ (cont l = 0 ∨ ends (l.take (cont l)) ∨ cont l = l.length) ∧ (cont l ≠ 0 → goesB (l.take (cont l)) = true)
  | n, l, hn => by
    cases hg : goesB l with
    | false =>
      rw [cont_stop hg]
      exact ⟨by rw [List.take_zero]; rfl, by rw [List.drop_zero]; exact hg, .inl rfl, fun h => absurd rfl h⟩
    | true =>
      have hne := goes_ne hg
      have hp := lineN_pos hne
      have hle := lineN_le l
      cases n with
      | zero => exact absurd (List.eq_nil_of_length_eq_zero (by omega)) hne
      | succ n =>
        have hd : (l.drop (lineN l)).length = l.length - lineN l := List.length_drop ..
        obtain ⟨i1, i2, i3, i4⟩ := cont_take n (l.drop (lineN l)) (by omega)
        have hc := cont_step hg
        have hcl := cont_le (l.drop (lineN l))
        have htk : l.take (cont l) = l.take (lineN l) ++ (l.drop (lineN l)).take (cont (l.drop (lineN l))) := by rw [hc, List.take_add]
        have hlt : (l.take (lineN l)).length = lineN l := by rw [List.length_take]; omega
        have htn : l.take (lineN l) ≠ [] := fun e => by rw [e] at hlt; simp at hlt; omega
        have hg2 : goesB (l.take (cont l)) = true := by
          rw [htk, goes_app htn]
          have := goes_app (w := l.take (lineN l)) (t := l.drop (lineN l)) htn
          rw [List.take_append_drop] at this
          rw [← this]; exact hg
        have hline : lineN (l.take (cont l)) = lineN l := by
          rcases line_ends l with h | h
          · rw [htk]
            have := line_app (l.take (lineN l)) ((l.drop (lineN l)).take (cont (l.drop (lineN l)))) (by rw [line_take, hlt]) h
            rw [this, hlt]
          · have : l.take (cont l) = l := by rw [List.take_of_length_le]; rw [hc, h]; omega
            rw [this]
        refine ⟨?_, ?_, ?_, fun _ => hg2⟩
        · rw [cont_step hg2, hline, hc]
          congr 1
          have : (l.take (cont l)).drop (lineN l) = (l.drop (lineN l)).take (cont (l.drop (lineN l))) := by
            rw [htk]
            have := drop_app_len (l.take (lineN l)) ((l.drop (lineN l)).take (cont (l.drop (lineN l))))
            rwa [hlt] at this
          rw [hc] at this
          rw [this]; exact i1
        · rw [hc, ← List.drop_drop]; exact i2
        · rw [hc] at htk ⊢
          rcases i3 with h0 | h0 | h0
          · rcases line_ends l with h | h
            · right; left
              rw [htk, h0, List.take_zero, List.append_nil]; exact h
            · right; right; omega
          · right; left
            rw [htk]; exact ends_app h0
          · right; right; omega
/-- what goes on, ahead of what does not -/
theorem cont_app : ∀ (n : Nat) (c t : List UInt8), c.length ≤ n → cont c = c.length → (c = [] ∨ ends c) → goesB t = false → cont (c ++ t) = c.length
  | n, c, t, hn, hc, he, ht => by
    by_cases h0 : c = []
    · subst h0; rw [List.nil_append, cont_stop ht]; rfl
    · have he : ends c := he.resolve_left h0
      have hlen := List.length_pos_iff.2 h0
      have hg : goesB c = true := by
        cases hg : goesB c with
        | true => rfl
        | false => rw [cont_stop hg] at hc; omega
      have hstep := cont_step hg
      have hp := lineN_pos h0
      have hle := lineN_le c
      cases n with
      | zero => omega
      | succ n =>
        have hd : (c.drop (lineN c)).length = c.length - lineN c := List.length_drop ..
        have hlt : (c.take (lineN c)).length = lineN c := by rw [List.length_take]; omega
        have hl : lineN (c ++ t) = lineN c := by
          have hh : c = c.take (lineN c) ++ c.drop (lineN c) := (List.take_append_drop _ _).symm
          rcases line_ends c with h | h
          · conv => lhs; rw [hh, List.append_assoc]
            rw [line_app _ _ (by rw [line_take, hlt]) h, hlt]
          · rw [line_app c t h he, h]
        rw [cont_step (by rw [goes_app h0]; exact hg), hl]
        have hdr : (c ++ t).drop (lineN c) = c.drop (lineN c) ++ t := List.drop_append_of_le_length hle
        rw [hdr, cont_app n (c.drop (lineN c)) t (by omega) (by rw [hd]; omega) ?_ ht, hd]
        · omega
        · by_cases hz : c.drop (lineN c) = []
          · exact .inl hz
          · right
            unfold ends at *
            rw [List.getLast?_drop, if_neg (by rw [List.drop_eq_nil_iff] at hz; omega)]
            exact he
/-- a field's bytes -/
structure Head (h : List UInt8) : Prop where
  ne : h ≠ []
  len : headN h = h.length
  full : emptyB h = false
theorem head_line {h : List UInt8} (hh : headN h = h.length) (he : ends h) : lineN h = h.length ∨ ends (h.take (lineN h)) := by
  rcases line_ends h with h1 | h1
  · exact .inr h1
  · exact .inl h1
/-- a field that ends, ahead of what does not go on -/
theorem head_app {h t : List UInt8} (hh : Head h) (he : ends h) (ht : goesB t = false) : headN (h ++ t) = h.length ∧ emptyB (h ++ t) = false ∧ (h ++ t).take (headN (h ++ t)) = h ∧ (h ++ t).drop (headN (h ++ t)) = t := by
  have hle := lineN_le h
  have hl : lineN (h ++ t) = lineN h := by
    have hlt : (h.take (lineN h)).length = lineN h := by rw [List.length_take]; omega
    have h2 : h = h.take (lineN h) ++ h.drop (lineN h) := (List.take_append_drop _ _).symm
    rcases line_ends h with h1 | h1
    · conv => lhs; rw [h2, List.append_assoc]
      rw [line_app _ _ (by rw [line_take, hlt]) h1, hlt]
    · rw [line_app h t h1 he, h1]
  have hd : (h.drop (lineN h)).length = h.length - lineN h := List.length_drop ..
  have hn : headN (h ++ t) = h.length := by
    have hlen := hh.len
    unfold headN at hlen ⊢
    rw [hl, List.drop_append_of_le_length hle, cont_app _ (h.drop (lineN h)) t (Nat.le_refl _) (by omega) ?_ ht, hd]
    · omega
    · by_cases hz : h.drop (lineN h) = []
      · exact .inl hz
      · right
        unfold ends at *
        rw [List.getLast?_drop, if_neg (by rw [List.drop_eq_nil_iff] at hz; omega)]
        exact he
  refine ⟨hn, ?_, by rw [hn, take_app_len], by rw [hn, drop_app_len]⟩
  have := hh.full
  unfold emptyB at this ⊢
  rw [hl, List.take_append_of_le_length hle]
  exact this
theorem head_par {h t : List UInt8} (hh : Head h) (he : ends h) (ht : goesB t = false) : parS (h ++ t) = fieldL h :: parS t ∧ endS (h ++ t) = h.length + endS t := by
  obtain ⟨h1, h2, h3, h4⟩ := head_app hh he ht
  have hne : h ++ t ≠ [] := fun e => hh.ne (List.append_eq_nil_iff.1 e).1
  obtain ⟨p1, p2⟩ := par_cons hne h2
  rw [h3, h4] at p1
  rw [h4, h1] at p2
  exact ⟨p1, p2⟩
theorem head_one {h : List UInt8} (hh : Head h) : parS h = [fieldL h] ∧ endS h = h.length := by
  obtain ⟨p1, p2⟩ := par_cons hh.ne hh.full
  have e1 : h.take (headN h) = h := by rw [hh.len, List.take_length]
  have e2 : h.drop (headN h) = [] := by rw [hh.len, List.drop_length]
  rw [e1, e2] at p1
  rw [e2, hh.len] at p2
  exact ⟨p1, by rw [p2]; rfl⟩
/-- the first field of a text -/
theorem head_of {l : List UInt8} (hne : l ≠ []) (he : emptyB l = false) : Head (l.take (headN l)) ∧ (headN l = l.length ∨ ends (l.take (headN l))) ∧ goesB (l.drop (headN l)) = false := by
  have hp := headN_pos hne
  have hle := headN_le l
  have hll := lineN_le l
  have hlp := lineN_pos hne
  obtain ⟨c1, c2, c3, c4⟩ := cont_take _ (l.drop (lineN l)) (Nat.le_refl _)
  have hd : (l.drop (lineN l)).length = l.length - lineN l := List.length_drop ..
  have hlt : (l.take (lineN l)).length = lineN l := by rw [List.length_take]; omega
  have htk : l.take (headN l) = l.take (lineN l) ++ (l.drop (lineN l)).take (cont (l.drop (lineN l))) := by unfold headN; rw [List.take_add]
  have hlen : (l.take (headN l)).length = headN l := by rw [List.length_take]; omega
  have hline : lineN (l.take (headN l)) = lineN l := by
    rcases line_ends l with h | h
    · rw [htk, line_app _ _ (by rw [line_take, hlt]) h, hlt]
    · have : l.take (headN l) = l := by
        rw [List.take_of_length_le]
        unfold headN; omega
      rw [this]
  have hdr : (l.take (headN l)).drop (lineN l) = (l.drop (lineN l)).take (cont (l.drop (lineN l))) := by
    rw [htk]
    have := drop_app_len (l.take (lineN l)) ((l.drop (lineN l)).take (cont (l.drop (lineN l))))
    rwa [hlt] at this
  refine ⟨⟨fun e => ?_, ?_, ?_⟩, ?_, ?_⟩
  · rw [e] at hlen; simp at hlen; omega
  · rw [hlen]
    have : headN (l.take (headN l)) = lineN (l.take (headN l)) + cont ((l.take (headN l)).drop (lineN (l.take (headN l)))) := rfl
    rw [this, hline, hdr, c1]; rfl
  · unfold emptyB at he ⊢
    rw [hline]
    have : (l.take (headN l)).take (lineN l) = l.take (lineN l) := by
      rw [htk]
      have := take_app_len (l.take (lineN l)) ((l.drop (lineN l)).take (cont (l.drop (lineN l))))
      rwa [hlt] at this
    rw [this]; exact he
  · by_cases h0 : cont (l.drop (lineN l)) = 0
    · rcases line_ends l with h | h
      · right
        rw [htk, h0, List.take_zero, List.append_nil]; exact h
      · left; unfold headN; omega
    · rcases c3 with h | h | h
      · exact absurd h h0
      · right; rw [htk]; exact ends_app h
      · left; unfold headN; omega
  · unfold headN
    rw [← List.drop_drop]; exact c2
/-! the law on what Parse returns -/
def joinL (m : List Fld) : List UInt8 := m.flatMap fun x => x.raw.data.toList
theorem toB_data (l : List UInt8) : (toB l).data.toList = l := by simp [toB]
theorem raw_of (h : List UInt8) : (fieldL h).raw = toB h := by
  unfold fieldL; split <;> rfl
/-- what lies between the fields and the body -/
theorem whole_any : ∀ (n : Nat) (l : List UInt8), l.length ≤ n →
    ∃ j r, joinL (parS l) = j ∧ l = j ++ r ∧ endS l = j.length + (if emptyB r = true ∧ r ≠ [] then lineN r else 0) ∧ (r = [] ∨ (emptyB r = true ∧ r ≠ [])) ∧
      (∀ x ∈ parS l, ∃ h, Head h ∧ x = fieldL h) ∧ parS j = parS l ∧ endS j = j.length ∧ (r = [] ∨ j = [] ∨ ends j)
  | n, l, hn => by
    by_cases hne : l = []
    · subst hne
      exact ⟨[], [], rfl, rfl, rfl, .inl rfl, (fun x hx => by cases hx), rfl, rfl, .inl rfl⟩
    · cases he : emptyB l with
      | true =>
        obtain ⟨p1, p2⟩ := par_empty hne he
        refine ⟨[], l, by rw [p1]; rfl, rfl, by rw [p2, if_pos ⟨he, hne⟩, List.length_nil, Nat.zero_add], .inr ⟨he, hne⟩, (fun x hx => by rw [p1] at hx; cases hx), by rw [p1]; rfl, rfl, .inr (.inl rfl)⟩
      | false =>
        obtain ⟨hh, hend, hgo⟩ := head_of hne he
        obtain ⟨p1, p2⟩ := par_cons hne he
        have hp := headN_pos hne
        have hle := headN_le l
        have hlen : (l.take (headN l)).length = headN l := by rw [List.length_take]; omega
        have hpos := List.length_pos_iff.2 hne
        cases n with
        | zero => omega
        | succ n =>
          obtain ⟨j, r, i1, i2, i3, i4, i5, i6, i7, i8⟩ := whole_any n (l.drop (headN l)) (by rw [List.length_drop]; omega)
          have hl : l = l.take (headN l) ++ (j ++ r) := by rw [← i2, List.take_append_drop]
          have hjg : goesB j = false := by
            by_cases hj : j = []
            · rw [hj]; rfl
            · rw [i2, goes_app hj] at hgo; exact hgo
          have hje : j = [] ∨ ends (l.take (headN l)) := by
            rcases hend with h | h
            · left
              have : l.drop (headN l) = [] := by rw [h, List.drop_length]
              rw [this] at i2
              exact (List.append_eq_nil_iff.1 i2.symm).1
            · exact .inr h
          have hpj : parS (l.take (headN l) ++ j) = fieldL (l.take (headN l)) :: parS j ∧ endS (l.take (headN l) ++ j) = (l.take (headN l)).length + endS j := by
            rcases hje with h | h
            · rw [h, List.append_nil]
              obtain ⟨q1, q2⟩ := head_one hh
              exact ⟨q1, q2⟩
            · exact head_par hh h hjg
          refine ⟨l.take (headN l) ++ j, r, ?_, by rw [List.append_assoc]; exact hl, ?_, i4, ?_, ?_, ?_, ?_⟩
          · rw [p1]
            unfold joinL at i1 ⊢
            rw [List.flatMap_cons, i1, raw_of, toB_data]
          · rw [p2, i3, List.length_append, hlen]; omega
          · intro x hx
            rw [p1] at hx
            rcases List.mem_cons.1 hx with rfl | hx
            · exact ⟨_, hh, rfl⟩
            · exact i5 x hx
          · rw [hpj.1, i6, p1]
          · rw [hpj.2, i7, List.length_append]
          · rcases i8 with h | h | h
            · exact .inl h
            · rcases hend with h2 | h2
              · left
                have : l.drop (headN l) = [] := by rw [h2, List.drop_length]
                rw [this] at i2
                exact (List.append_eq_nil_iff.1 i2.symm).2
              · right; right; rw [h, List.append_nil]; exact h2
            · right; right; exact ends_app h
end Hd
namespace Hd
open Go Go.RowKit Pk

/-- no end of a line in it -/
def noNl (l : List UInt8) : Prop := ∀ c ∈ l, c ≠ 10 ∧ c ≠ 13
theorem noNl_app {a b : List UInt8} (h : noNl a) (g : noNl b) : noNl (a ++ b) := fun c hc => by
  rcases List.mem_append.1 hc with h1 | h1
  · exact h c h1
  · exact g c h1
theorem noNl_sub {a b : List UInt8} (h : noNl b) (hs : ∀ c ∈ a, c ∈ b) : noNl a := fun c hc => h c (hs c hc)
theorem no_line : ∀ (x t : List UInt8), (∀ c ∈ x, c ≠ 10) → lineN (x ++ t) = x.length + lineN t
  | [], t, _ => by simp
  | c :: r, t, h => by
    rw [List.cons_append, lineN_cons (h c (List.mem_cons_self ..)), no_line r t (fun d hd => h d (List.mem_cons_of_mem _ hd)), List.length_cons]; omega
theorem line_end (x : List UInt8) (h : ∀ c ∈ x, c ≠ 10) : lineN (x ++ [10]) = x.length + 1 := by rw [no_line x [10] h]; rfl
theorem line_crlf (x t : List UInt8) (h : noNl x) : lineN (x ++ ([13, 10] ++ t)) = x.length + 2 := by
  rw [no_line x _ (fun c hc => (h c hc).1)]; rfl
theorem ends_crlf (x : List UInt8) : ends (x ++ [13, 10]) := ends_app (by rfl)
theorem bare_crlf (x : List UInt8) : bareL (x ++ [13, 10]) = x := by
  unfold bareL
  have h1 : (x ++ [13, 10]).getLast? = some 10 := ends_crlf x
  rw [if_pos h1]
  have h2 : (x ++ [13, 10] : List UInt8).dropLast = x ++ [13] := by
    rw [show x ++ [13, 10] = (x ++ [13]) ++ [10] by simp, List.dropLast_concat]
  rw [h2]
  unfold chop
  rw [if_pos (by rw [List.getLast?_append]; rfl), List.dropLast_concat]
/-- text, folded -/
inductive Fold : List UInt8 → Prop
  | one (x : List UInt8) (h : noNl x) : Fold x
  | more (x b : List UInt8) (h : noNl x) (g : goesB b = true) (f : Fold b) : Fold (x ++ ([13, 10] ++ b))
theorem fold_cont {b : List UInt8} (f : Fold b) (g : goesB b = true) : cont (b ++ [13, 10]) = (b ++ [13, 10]).length := by
  induction f with
  | one x h =>
    have hne := goes_ne g
    rw [cont_step (by rw [goes_app hne]; exact g)]
    have hl := line_crlf x [] h
    rw [List.append_nil] at hl
    have hd : (x ++ [13, 10] : List UInt8).drop (lineN (x ++ [13, 10])) = [] := by
      rw [hl, List.drop_eq_nil_of_le]; rw [List.length_append]; exact Nat.le_refl _
    rw [hd, hl, List.length_append]; rfl
  | more x b h g2 f ih =>
    have hne := goes_ne g
    rw [cont_step (by rw [goes_app hne]; exact g)]
    have hl : lineN (x ++ ([13, 10] ++ b) ++ [13, 10]) = x.length + 2 := by
      rw [List.append_assoc, List.append_assoc]; exact line_crlf x _ h
    have hd : (x ++ ([13, 10] ++ b) ++ [13, 10]).drop (x.length + 2) = b ++ [13, 10] := by
      rw [show x ++ ([13, 10] ++ b) ++ [13, 10] = (x ++ [13, 10]) ++ (b ++ [13, 10]) by simp]
      have := drop_app_len (x ++ [13, 10]) (b ++ [13, 10])
      rw [List.length_append] at this
      exact this
    rw [hl, hd, ih g2]
    simp only [List.length_append, List.length_cons, List.length_nil]; omega
/-- text in front, folded on -/
theorem fold_head (pre : List UInt8) (hp : noNl pre) (hne : pre ≠ []) {b : List UInt8} (f : Fold b) : headN (pre ++ b ++ [13, 10]) = (pre ++ b ++ [13, 10]).length ∧
    ∃ x r, noNl x ∧ pre ++ b ++ [13, 10] = pre ++ x ++ ([13, 10] ++ r) ∧ lineN (pre ++ b ++ [13, 10]) = (pre ++ x).length + 2 := by
  cases f with
  | one _ h =>
    have hl : lineN (pre ++ b ++ [13, 10]) = (pre ++ b).length + 2 := by
      have := line_crlf (pre ++ b) [] (noNl_app hp h); rwa [List.append_nil] at this
    refine ⟨?_, b, [], h, by simp, hl⟩
    have hd : (pre ++ b ++ [13, 10] : List UInt8).drop ((pre ++ b).length + 2) = [] := by
      rw [List.drop_eq_nil_of_le]; rw [List.length_append]; exact Nat.le_refl _
    unfold headN
    rw [hl, hd]
    simp only [List.length_append, List.length_cons, List.length_nil]; rfl
  | more x b h g2 f =>
    have hl : lineN (pre ++ (x ++ ([13, 10] ++ b)) ++ [13, 10]) = (pre ++ x).length + 2 := by
      rw [show pre ++ (x ++ ([13, 10] ++ b)) ++ [13, 10] = (pre ++ x) ++ ([13, 10] ++ (b ++ [13, 10])) by simp]
      exact line_crlf _ _ (noNl_app hp h)
    have hd : (pre ++ (x ++ ([13, 10] ++ b)) ++ [13, 10]).drop ((pre ++ x).length + 2) = b ++ [13, 10] := by
      rw [show pre ++ (x ++ ([13, 10] ++ b)) ++ [13, 10] = (pre ++ x ++ [13, 10]) ++ (b ++ [13, 10]) by simp]
      have := drop_app_len (pre ++ x ++ [13, 10]) (b ++ [13, 10])
      rw [List.length_append] at this
      exact this
    refine ⟨?_, x, b ++ [13, 10], h, by simp, hl⟩
    unfold headN
    rw [hl, hd, fold_cont f g2]
    simp only [List.length_append, List.length_cons, List.length_nil]; omega
/-! the name -/
theorem okc_blk {c : UInt8} (h : okc c = true) : blk c = false ∧ c ≠ 10 ∧ c ≠ 13 ∧ c ≠ 58 := by
  have key : ∀ n : Nat, n < 256 → (okc (UInt8.ofNat n) = true → blk (UInt8.ofNat n) = false ∧ UInt8.ofNat n ≠ 10 ∧ UInt8.ofNat n ≠ 13 ∧ UInt8.ofNat n ≠ 58) := by decide +kernel
  have := key c.toNat c.toNat_lt
  rw [UInt8.ofNat_toNat] at this
  exact this h
structure Named (name : List UInt8) : Prop where
  ne : name ≠ []
  ok : ∀ c ∈ name, okc c = true
theorem right_named {name : List UInt8} : rightB name = true ↔ Named name := by
  unfold rightB
  rw [Bool.and_eq_true, List.all_eq_true]
  constructor
  · rintro ⟨h1, h2⟩; exact ⟨by simpa using h1, h2⟩
  · rintro ⟨h1, h2⟩; exact ⟨by simpa using h1, h2⟩
theorem Named.no {name : List UInt8} (h : Named name) : noNl name := fun c hc => ⟨(okc_blk (h.ok c hc)).2.1, (okc_blk (h.ok c hc)).2.2.1⟩
theorem trimR_id {l : List UInt8} (h : l.getLast?.map blk ≠ some true) : trimR l = l := by
  unfold trimR Lib.trimRightS
  have : l.reverse.dropWhile ([32, 9].contains ·) = l.reverse := by
    cases hr : l.reverse with
    | nil => rfl
    | cons a r =>
      rw [List.dropWhile_cons, if_neg]
      intro hb
      apply h
      rw [← List.head?_reverse, hr]
      show some (blk a) = some true
      rw [show blk a = true from hb]
  rw [this, List.reverse_reverse]
theorem Named.trim {name : List UInt8} (h : Named name) : trimR name = name := by
  apply trimR_id
  intro e
  rw [Option.map_eq_some_iff] at e
  obtain ⟨a, h1, h2⟩ := e
  have := (okc_blk (h.ok a (List.mem_of_getLast? h1))).1
  rw [this] at h2; cases h2
theorem tw_name : ∀ (name t : List UInt8), (∀ c ∈ name, okc c = true) → (name ++ 58 :: t).takeWhile (fun c => !(c == 58)) = name
  | [], _, _ => rfl
  | c :: r, t, h => by
    have h1 := (okc_blk (h c (List.mem_cons_self ..))).2.2.2
    rw [List.cons_append, List.takeWhile_cons, if_pos (by simp [h1]), tw_name r t (fun d hd => h d (List.mem_cons_of_mem _ hd))]
/-- a field whose first line begins with a name and a colon -/
theorem field_named {name x r h : List UInt8} (hn : Named name) (hh : h = name ++ 58 :: x ++ ([13, 10] ++ r)) (hl : lineN h = (name ++ 58 :: x).length + 2) : emptyB h = false ∧ fieldL h = ⟨toB name, toB (bareL (h.drop (name.length + 1))), toB h, false⟩ := by
  have ht : h.take (lineN h) = name ++ 58 :: x ++ [13, 10] := by
    rw [hl, hh, show name ++ 58 :: x ++ ([13, 10] ++ r) = (name ++ 58 :: x ++ [13, 10]) ++ r by simp]
    have := take_app_len (name ++ 58 :: x ++ [13, 10]) r
    rw [List.length_append] at this
    exact this
  have hb : bareL (h.take (lineN h)) = name ++ 58 :: x := by rw [ht]; exact bare_crlf _
  have h1 : nameL h = name := by unfold nameL; rw [hb]; exact tw_name name x hn.ok
  have h2 : colonB h = true := by unfold colonB; rw [hb]; simp
  refine ⟨by unfold emptyB; rw [hb]; simp, ?_⟩
  unfold fieldL
  rw [h1, h2, hn.trim, (right_named.2 hn), if_pos (by rfl)]
/-! Put -/
def piecesF : Nat → List UInt8 → List (List UInt8)
  | 0, _ => []
  | f + 1, v => if v.isEmpty = true then [] else v.take (pieceN v) :: piecesF f (v.drop (pieceN v))
def piecesL (v : List UInt8) : List (List UInt8) := piecesF v.length v
theorem pieceF_le : ∀ (c : UInt8) (r : List UInt8), pieceF c r ≤ r.length
  | _, [] => Nat.le_refl _
  | c, d :: r => by
    unfold pieceF
    rw [List.length_cons]
    split
    · omega
    · have := pieceF_le d r; omega
theorem pieceN_rng {v : List UInt8} (h : v ≠ []) : 1 ≤ pieceN v ∧ pieceN v ≤ v.length := by
  cases v with
  | nil => exact absurd rfl h
  | cons c r =>
    have h2 := pieceF_le c r
    have e : pieceN (c :: r) = pieceF c r + 1 := rfl
    rw [e, List.length_cons]; omega
theorem pieceF_goes : ∀ (c : UInt8) (r : List UInt8), r.drop (pieceF c r) ≠ [] → goesB (r.drop (pieceF c r)) = true
  | _, [], h => absurd rfl h
  | c, d :: r, h => by
    by_cases hb : (blk d && !blk c) = true
    · have e : pieceF c (d :: r) = 0 := by unfold pieceF; rw [if_pos hb]
      rw [e, List.drop_zero]
      rw [Bool.and_eq_true] at hb
      exact hb.1
    · have e : pieceF c (d :: r) = pieceF d r + 1 := by conv => lhs; unfold pieceF
                                                        rw [if_neg hb]
      rw [e, List.drop_succ_cons] at h ⊢
      exact pieceF_goes d r h
theorem piece_goes {v : List UInt8} (h : v.drop (pieceN v) ≠ []) : goesB (v.drop (pieceN v)) = true := by
  cases v with
  | nil => exact absurd rfl h
  | cons c r =>
    unfold pieceN at h ⊢
    rw [List.drop_succ_cons] at h ⊢
    exact pieceF_goes c r h
theorem putF_nil (f n : Nat) (b : Bool) : putF f n b [] = [] := by cases f <;> rfl
theorem putF_ne {f n : Nat} {b : Bool} {v : List UInt8} (h : v ≠ []) : putF (f + 1) n b v = if b = false ∧ 78 < n + pieceN v then [13, 10] ++ v.take (pieceN v) ++ putF f (pieceN v) false (v.drop (pieceN v)) else v.take (pieceN v) ++ putF f (n + pieceN v) false (v.drop (pieceN v)) := by
  conv => lhs; unfold putF
  rw [if_neg (by simp [h])]
  cases b <;> simp
theorem goes_take {v : List UInt8} (h : v ≠ []) : goesB (v.take (pieceN v)) = goesB v := by
  have := (pieceN_rng h).1
  cases v with
  | nil => rfl
  | cons c r => rfl
/-- what Put lays is folded text, and reads as what was given -/
theorem putF_fold : ∀ (f n : Nat) (b : Bool) (v x : List UInt8), v.length ≤ f → noNl v → noNl x → (b = false → v ≠ [] → goesB v = true) → Fold (x ++ putF f n b v)
  | f, n, b, v, x, hf, hv, hx, hg => by
    by_cases hne : v = []
    · subst hne; rw [putF_nil, List.append_nil]; exact .one x hx
    · obtain ⟨p1, p2⟩ := pieceN_rng hne
      cases f with
      | zero => exact absurd (List.eq_nil_of_length_eq_zero (by omega)) hne
      | succ f =>
        have ht : noNl (v.take (pieceN v)) := noNl_sub hv (fun c hc => List.mem_of_mem_take hc)
        have hd : noNl (v.drop (pieceN v)) := noNl_sub hv (fun c hc => List.mem_of_mem_drop hc)
        have hl : (v.drop (pieceN v)).length ≤ f := by rw [List.length_drop]; omega
        rw [putF_ne hne]
        split
        · rename_i hc
          rw [List.append_assoc]
          have hgt : goesB (v.take (pieceN v) ++ putF f (pieceN v) false (v.drop (pieceN v))) = true := by
            rw [goes_app (fun e => by have := congrArg List.length e; rw [List.length_take, List.length_nil] at this; omega), goes_take hne]
            exact hg hc.1 hne
          exact .more x _ hx hgt (putF_fold f _ false _ _ hl hd ht (fun _ => piece_goes))
        · rw [← List.append_assoc]
          exact putF_fold f _ false _ _ hl hd (noNl_app hx ht) (fun _ => piece_goes)
theorem unfold_cons {c : UInt8} (h : c ≠ 10) (h2 : c ≠ 13) (r : List UInt8) : unfoldL (c :: r) = c :: unfoldL r := by
  cases r with
  | nil =>
    have e : unfoldL [c] = if c = 10 then [] else [c] := rfl
    rw [e, if_neg h]; rfl
  | cons d r => conv => lhs; unfold unfoldL
                rw [if_neg h, if_neg (fun e => h2 e.1)]
theorem unfold_no : ∀ (x t : List UInt8), noNl x → unfoldL (x ++ t) = x ++ unfoldL t
  | [], _, _ => rfl
  | c :: r, t, h => by
    obtain ⟨h1, h2⟩ := h c (List.mem_cons_self ..)
    rw [List.cons_append, unfold_cons h1 h2, unfold_no r t (fun d hd => h d (List.mem_cons_of_mem _ hd)), List.cons_append]
theorem unfold_lf (t : List UInt8) : unfoldL (10 :: t) = unfoldL t := by
  cases t with
  | nil => rfl
  | cons d r => conv => lhs; unfold unfoldL
                rw [if_pos rfl]
theorem unfold_crlf (t : List UInt8) : unfoldL (13 :: 10 :: t) = unfoldL t := by
  have : unfoldL (13 :: 10 :: t) = unfoldL (10 :: t) := by
    conv => lhs; unfold unfoldL
    rw [if_neg (by decide), if_pos ⟨rfl, rfl⟩]
  rw [this, unfold_lf]
theorem putF_unfold : ∀ (f n : Nat) (b : Bool) (v : List UInt8), v.length ≤ f → noNl v → unfoldL (putF f n b v) = v
  | f, n, b, v, hf, hv => by
    by_cases hne : v = []
    · subst hne; rw [putF_nil]; rfl
    · obtain ⟨p1, p2⟩ := pieceN_rng hne
      cases f with
      | zero => exact absurd (List.eq_nil_of_length_eq_zero (by omega)) hne
      | succ f =>
        have ht : noNl (v.take (pieceN v)) := noNl_sub hv (fun c hc => List.mem_of_mem_take hc)
        have hd : noNl (v.drop (pieceN v)) := noNl_sub hv (fun c hc => List.mem_of_mem_drop hc)
        have hl : (v.drop (pieceN v)).length ≤ f := by rw [List.length_drop]; omega
        rw [putF_ne hne]
        split
        · rw [List.append_assoc, List.cons_append, List.cons_append, List.nil_append, unfold_crlf, unfold_no _ _ ht, putF_unfold f _ _ _ hl hd, List.take_append_drop]
        · rw [unfold_no _ _ ht, putF_unfold f _ _ _ hl hd, List.take_append_drop]
/-! the clean value -/
theorem spc_no (c : UInt8) : spc c ≠ 10 ∧ spc c ≠ 13 := by
  unfold spc
  split
  · exact ⟨by decide, by decide⟩
  · rename_i h; exact ⟨fun e => h (.inr e), fun e => h (.inl e)⟩
theorem mem_dropWhile {p : UInt8 → Bool} : ∀ {l : List UInt8} {c : UInt8}, c ∈ l.dropWhile p → c ∈ l
  | a :: r, c, h => by
    rw [List.dropWhile_cons] at h
    split at h
    · exact List.mem_cons_of_mem _ (mem_dropWhile h)
    · exact h
theorem trim_mem {l : List UInt8} {c : UInt8} (h : c ∈ trimB l) : c ∈ l := by
  unfold trimB Lib.trimS Lib.trimLeftS Lib.trimRightS at h
  have := List.mem_reverse.1 (mem_dropWhile h)
  exact List.mem_reverse.1 (mem_dropWhile this)
theorem clean_no (s : List UInt8) : noNl (cleanL s) := fun c hc => by
  unfold cleanL at hc
  obtain ⟨d, _, rfl⟩ := List.mem_map.1 (trim_mem hc)
  exact spc_no d
theorem put_shape {name : List UInt8} (value : List UInt8) (h : Named name) : ∃ b, putL name value = name ++ [58, 32] ++ b ++ [13, 10] ∧ Fold b ∧ unfoldL b = cleanL value := by
  refine ⟨putF (cleanL value).length (name.length + 2) true (cleanL value), ?_, ?_, putF_unfold _ _ _ _ (Nat.le_refl _) (clean_no value)⟩
  · unfold putL; rw [if_pos (right_named.2 h)]
  · have := putF_fold (cleanL value).length (name.length + 2) true (cleanL value) [] (Nat.le_refl _) (clean_no value) (fun c hc => by cases hc) (fun e => by cases e)
    exact this
theorem put_head {name : List UInt8} (value : List UInt8) (h : Named name) : Head (putL name value) ∧ ends (putL name value) ∧ ∃ b, Fold b ∧ unfoldL b = cleanL value ∧ putL name value = name ++ [58, 32] ++ b ++ [13, 10] ∧ fieldL (putL name value) = ⟨toB name, toB (32 :: b), toB (putL name value), false⟩ := by
  obtain ⟨b, e, f, hu⟩ := put_shape value h
  have hno : noNl (name ++ [58, 32]) := noNl_app h.no (fun c hc => by
    simp only [List.mem_cons, List.not_mem_nil, or_false] at hc
    rcases hc with rfl | rfl <;> exact ⟨by decide, by decide⟩)
  obtain ⟨h1, x, r, hx, h2, h3⟩ := fold_head (name ++ [58, 32]) hno (by simp) f
  have e2 : name ++ [58, 32] ++ b ++ [13, 10] = name ++ 58 :: (32 :: x) ++ ([13, 10] ++ r) := by rw [h2]; simp
  obtain ⟨g1, g2⟩ := field_named (x := 32 :: x) (r := r) h e2 (by rw [h3]; simp)
  rw [← e] at h1 h2 g1 g2
  refine ⟨⟨by rw [e]; simp, h1, g1⟩, by rw [e]; exact ends_crlf _, b, f, hu, e, ?_⟩
  rw [g2]
  have : (putL name value).drop (name.length + 1) = (32 :: b) ++ [13, 10] := by
    rw [e, show name ++ [58, 32] ++ b ++ [13, 10] = (name ++ [58]) ++ ((32 :: b) ++ [13, 10]) by simp]
    have := drop_app_len (name ++ [58]) ((32 :: b) ++ [13, 10])
    rw [List.length_append] at this
    exact this
  rw [this, bare_crlf]
theorem put_bad {name : List UInt8} (value : List UInt8) (h : ¬ Named name) : putL name value = [] := by
  unfold putL; rw [if_neg (fun e => h (right_named.1 e))]
/-! what the field's value reads as -/
def allB (l : List UInt8) : Prop := ∀ c ∈ l, blk c = true
def solid (l : List UInt8) : Prop := l.head?.map blk ≠ some true ∧ l.getLast?.map blk ≠ some true
theorem dw_head (p : UInt8 → Bool) : ∀ l : List UInt8, (l.dropWhile p).head?.map p ≠ some true
  | [] => by simp
  | c :: r => by
    rw [List.dropWhile_cons]
    split
    · exact dw_head p r
    · rename_i h; simpa using h
theorem tw_all (p : UInt8 → Bool) : ∀ l : List UInt8, ∀ c ∈ l.takeWhile p, p c = true
  | [], c, h => by cases h
  | a :: r, c, h => by
    rw [List.takeWhile_cons] at h
    split at h
    · rename_i ha
      rcases List.mem_cons.1 h with rfl | h
      · exact ha
      · exact tw_all p r c h
    · cases h
theorem dw_all (p : UInt8 → Bool) : ∀ (a l : List UInt8), (∀ c ∈ a, p c = true) → (a ++ l).dropWhile p = l.dropWhile p
  | [], _, _ => rfl
  | c :: r, l, h => by rw [List.cons_append, List.dropWhile_cons, if_pos (h c (List.mem_cons_self ..)), dw_all p r l (fun d hd => h d (List.mem_cons_of_mem _ hd))]
theorem dw_id (p : UInt8 → Bool) {l : List UInt8} (h : l.head?.map p ≠ some true) : l.dropWhile p = l := by
  cases l with
  | nil => rfl
  | cons c r => rw [List.dropWhile_cons, if_neg]; intro e; apply h; simpa using e
theorem trim_eq (l : List UInt8) : trimB l = ((l.reverse.dropWhile blk).reverse).dropWhile blk := rfl
theorem trim_mid {a T b : List UInt8} (ha : allB a) (hb : allB b) (hT : solid T) : trimB (a ++ T ++ b) = T := by
  rw [trim_eq, List.reverse_append, List.reverse_append]
  rw [dw_all blk b.reverse _ (fun c hc => hb c (List.mem_reverse.1 hc))]
  by_cases h0 : T = []
  · subst h0
    rw [List.reverse_nil, List.nil_append]
    have : a.reverse.dropWhile blk = [] := by
      have := dw_all blk a.reverse [] (fun c hc => ha c (List.mem_reverse.1 hc))
      rw [List.append_nil] at this; rw [this]; rfl
    rw [this]; rfl
  · have h1 : (T.reverse ++ a.reverse).dropWhile blk = T.reverse ++ a.reverse := by
      apply dw_id
      intro e
      apply hT.2
      have : (T.reverse ++ a.reverse).head? = T.getLast? := by
        rw [List.head?_append, List.head?_reverse]
        cases hq : T.getLast? with
        | none => exact absurd (List.getLast?_eq_none_iff.1 hq) h0
        | some x => rfl
      rw [this] at e; exact e
    rw [h1, List.reverse_append, List.reverse_reverse, List.reverse_reverse, dw_all blk a T ha, dw_id blk hT.1]
theorem trim_split (l : List UInt8) : ∃ a b, l = a ++ trimB l ++ b ∧ allB a ∧ allB b ∧ solid (trimB l) := by
  have h1 : l.reverse.takeWhile blk ++ l.reverse.dropWhile blk = l.reverse := List.takeWhile_append_dropWhile
  have h2 : l = (l.reverse.dropWhile blk).reverse ++ (l.reverse.takeWhile blk).reverse := by
    rw [← List.reverse_append, h1, List.reverse_reverse]
  have h3 : ((l.reverse.dropWhile blk).reverse).takeWhile blk ++ ((l.reverse.dropWhile blk).reverse).dropWhile blk = (l.reverse.dropWhile blk).reverse := List.takeWhile_append_dropWhile
  refine ⟨((l.reverse.dropWhile blk).reverse).takeWhile blk, (l.reverse.takeWhile blk).reverse, ?_, tw_all blk _, fun c hc => tw_all blk _ c (List.mem_reverse.1 hc), ?_, ?_⟩
  · rw [trim_eq, h3]; exact h2
  · rw [trim_eq]; exact dw_head blk _
  · rw [trim_eq]
    have h4 := dw_head blk l.reverse
    rw [List.head?_eq_getElem?] at h4
    generalize hM : l.reverse.dropWhile blk = M at h3 h4 ⊢
    intro e
    rw [Option.map_eq_some_iff] at e
    obtain ⟨c, e1, e2⟩ := e
    have : (M.reverse).getLast? = some c := by
      rw [← h3, List.getLast?_append, e1]; rfl
    rw [List.getLast?_reverse, List.head?_eq_getElem?] at this
    apply h4
    rw [this]; exact congrArg some e2
theorem solid_nil : solid [] := ⟨by simp, by simp⟩
theorem trim_solid (l : List UInt8) : solid (trimB l) := by obtain ⟨_, _, _, _, _, h⟩ := trim_split l; exact h
theorem trim_idem (l : List UInt8) : trimB (32 :: trimB l) = trimB l := by
  have := trim_mid (a := [32]) (b := []) (fun c hc => by simp only [List.mem_cons, List.not_mem_nil, or_false] at hc; subst hc; rfl) (fun c hc => by cases hc) (trim_solid l)
  rw [List.append_nil] at this
  exact this
theorem put_value {name b : List UInt8} (value : List UInt8) (hu : unfoldL b = cleanL value) : valueOf ⟨toB name, toB (32 :: b), toB (putL name value), false⟩ = cleanL value := by
  unfold valueOf
  rw [toB_data, unfold_cons (by decide) (by decide), hu]
  exact trim_idem _
end Hd
namespace Hd
open Go Go.RowKit Pk

/-- the lines of a text, cur standing ahead -/
def lnG (cur : List UInt8) : List UInt8 → List (List UInt8)
  | [] => if cur.isEmpty = true then [] else [cur]
  | c :: r => if c = 10 then (cur ++ [c]) :: lnG [] r else lnG (cur ++ [c]) r
def linesL (l : List UInt8) : List (List UInt8) := lnG [] l
theorem lnG_line : ∀ (l cur : List UInt8), (cur ≠ [] ∨ l ≠ []) → lnG cur l = (cur ++ l.take (lineN l)) :: linesL (l.drop (lineN l))
  | [], cur, h => by
    have hc : cur ≠ [] := h.resolve_right (fun e => e rfl)
    unfold lnG
    rw [if_neg (by simp [hc]), lineN_nil, List.take_zero, List.append_nil]; rfl
  | c :: r, cur, _ => by
    by_cases hc : c = 10
    · subst hc
      unfold lnG
      rw [if_pos rfl, lineN_cons10]; rfl
    · conv => lhs; unfold lnG
      rw [if_neg hc, lineN_cons hc, List.take_succ_cons, List.drop_succ_cons, lnG_line r (cur ++ [c]) (.inl (by simp))]
      simp
theorem lines_cons {l : List UInt8} (h : l ≠ []) : linesL l = l.take (lineN l) :: linesL (l.drop (lineN l)) := by
  have := lnG_line l [] (.inr h)
  rw [List.nil_append] at this
  exact this
theorem lines_nil : linesL [] = [] := rfl
theorem lines_flat : ∀ (n : Nat) (l : List UInt8), l.length ≤ n → (linesL l).flatten = l
  | 0, l, h => by have := List.eq_nil_of_length_eq_zero (Nat.le_zero.1 h); subst this; rfl
  | n + 1, l, h => by
    by_cases hne : l = []
    · subst hne; rfl
    · have hp := lineN_pos hne
      rw [lines_cons hne, List.flatten_cons, lines_flat n _ (by rw [List.length_drop]; omega), List.take_append_drop]
theorem lines_length : ∀ (n : Nat) (l : List UInt8), l.length ≤ n → (linesL l).length ≤ l.length
  | 0, l, h => by have := List.eq_nil_of_length_eq_zero (Nat.le_zero.1 h); subst this; exact Nat.le_refl _
  | n + 1, l, h => by
    by_cases hne : l = []
    · subst hne; exact Nat.le_refl _
    · have hp := lineN_pos hne
      have := lines_length n (l.drop (lineN l)) (by rw [List.length_drop]; omega)
      have hl := List.length_pos_iff.2 hne
      rw [lines_cons hne, List.length_cons]
      rw [List.length_drop] at this
      omega
/-- what goes on, by lines -/
theorem lines_goes {l : List UInt8} (h : goesB l = true) : linesL l = l.take (lineN l) :: linesL (l.drop (lineN l)) ∧ goesB (l.take (lineN l)) = true := by
  have hne := goes_ne h
  have hp := lineN_pos hne
  refine ⟨lines_cons hne, ?_⟩
  cases l with
  | nil => exact absurd rfl hne
  | cons c r =>
    obtain ⟨k, hk⟩ : ∃ k, lineN (c :: r) = k + 1 := ⟨_, (Nat.sub_add_cancel hp).symm⟩
    rw [hk]; exact h
theorem lines_stop {l : List UInt8} (h : goesB l = false) : linesL l = [] ∨ ∃ x r, linesL l = x :: r ∧ goesB x = false ∧ x ≠ [] := by
  by_cases hne : l = []
  · subst hne; exact .inl rfl
  · right
    have hp := lineN_pos hne
    refine ⟨_, _, lines_cons hne, ?_, ?_⟩
    · cases l with
      | nil => exact absurd rfl hne
      | cons c r =>
        obtain ⟨k, hk⟩ : ∃ k, lineN (c :: r) = k + 1 := ⟨_, (Nat.sub_add_cancel hp).symm⟩
        rw [hk]; exact h
    · intro e
      have := congrArg List.length e
      rw [List.length_take, List.length_nil] at this
      have := List.length_pos_iff.2 hne
      omega
/-! taking out -/
def remF (old : List UInt8) : Nat → List UInt8 → List UInt8
  | 0, l => l
  | _ + 1, [] => []
  | f + 1, c :: r => if old.isPrefixOf (c :: r) = true then remF old f ((c :: r).drop old.length) else c :: remF old f r
theorem cutG_hit {l sep : List UInt8} (h : sep.isPrefixOf l = true) : Lib.cut l sep = ([], l.drop sep.length, true) := by
  have hi : Lib.index l sep = 0 := by
    cases l with
    | nil =>
      have : sep = [] := by cases sep with
        | nil => rfl
        | cons a r => simp [List.isPrefixOf] at h
      subst this; rfl
    | cons x r => unfold Lib.index; rw [if_pos h]
  unfold Lib.cut
  rw [hi]; simp
theorem cutG_cons {c : UInt8} {r sep : List UInt8} (h : sep.isPrefixOf (c :: r) = false) : Lib.cut (c :: r) sep = (if (Lib.cut r sep).2.2 = true then (c :: (Lib.cut r sep).1, (Lib.cut r sep).2.1, true) else (c :: r, [], false)) := by
  have hg := Lib.index_ge r sep
  have e : Lib.index (c :: r) sep = if Lib.index r sep == -1 then -1 else Lib.index r sep + 1 := by
    conv => lhs; unfold Lib.index
    rw [if_neg (by rw [h]; decide)]
  unfold Lib.cut
  rw [e]
  by_cases hi : Lib.index r sep = -1
  · rw [hi]; simp
  · have h0 : 0 ≤ Lib.index r sep := by omega
    have e2 : (if Lib.index r sep == -1 then (-1 : Int) else Lib.index r sep + 1) = Lib.index r sep + 1 := if_neg (by simpa using hi)
    rw [e2, if_pos h0, if_pos (by omega)]
    have t1 : (Lib.index r sep + 1).toNat = (Lib.index r sep).toNat + 1 := by omega
    rw [t1, if_pos rfl, List.take_succ_cons, show (Lib.index r sep).toNat + 1 + sep.length = (Lib.index r sep).toNat + sep.length + 1 by omega, List.drop_succ_cons]
theorem replG (old : List UInt8) (ho : old ≠ []) (l : List UInt8) : Lib.replaceK old [] (Lib.count l old) l = if (Lib.cut l old).2.2 = true then (Lib.cut l old).1 ++ Lib.replaceK old [] (Lib.count (Lib.cut l old).2.1 old) (Lib.cut l old).2.1 else l := by
  by_cases h : Lib.index l old = -1
  · rw [Lib.count_miss h]
    unfold Lib.cut
    rw [h]; rfl
  · have hg := Lib.index_ge l old
    obtain ⟨i, hi⟩ : ∃ i : Nat, Lib.index l old = i := ⟨(Lib.index l old).toNat, by omega⟩
    rw [Lib.count_hit (by simpa using ho) hi, Nat.add_comm, Lib.replaceK_hit _ _ _ _ _ hi]
    unfold Lib.cut
    rw [hi, if_pos (Int.natCast_nonneg i)]
    simp
theorem remF_repl (old : List UInt8) (ho : old ≠ []) : ∀ (n : Nat) (l : List UInt8), l.length ≤ n → Lib.replaceK old [] (Lib.count l old) l = remF old n l
  | 0, l, h => by
    have := List.eq_nil_of_length_eq_zero (Nat.le_zero.1 h)
    subst this
    have hi : Lib.index [] old = -1 := by
      cases old with
      | nil => exact absurd rfl ho
      | cons a r => rfl
    rw [Lib.count_miss hi]; rfl
  | n + 1, [], h => by
    have hi : Lib.index [] old = -1 := by
      cases old with
      | nil => exact absurd rfl ho
      | cons a r => rfl
    rw [Lib.count_miss hi]; rfl
  | n + 1, c :: r, h => by
    rw [List.length_cons] at h
    have hol := List.length_pos_iff.2 ho
    cases hp : old.isPrefixOf (c :: r) with
    | true =>
      rw [replG old ho, cutG_hit hp, if_pos rfl, List.nil_append, remF_repl old ho n _ (by rw [List.length_drop, List.length_cons]; omega)]
      conv => rhs; unfold remF
      rw [if_pos hp]
    | false =>
      have ih := remF_repl old ho n r (by omega)
      have e : remF old (n + 1) (c :: r) = c :: remF old n r := by conv => lhs; unfold remF
                                                                   rw [if_neg (by rw [hp]; decide)]
      rw [e, ← ih, replG old ho (c :: r), cutG_cons hp, replG old ho r]
      split
      · rename_i hc
        rw [if_pos rfl]; rfl
      · rw [if_neg (by simp)]
theorem rem_all (old l : List UInt8) (ho : old ≠ []) : Lib.replaceAll l old [] = remF old l.length l := by
  unfold Lib.replaceAll Lib.replace Lib.replaceNum
  rw [if_neg (by simpa using ho), if_pos (.inl (by decide))]
  exact remF_repl old ho _ l (Nat.le_refl _)
theorem remF_more (old : List UInt8) (ho : old ≠ []) (n m : Nat) (l : List UInt8) (h1 : l.length ≤ n) (h2 : l.length ≤ m) : remF old n l = remF old m l := by
  rw [← remF_repl old ho n l h1, remF_repl old ho m l h2]
theorem rem10 : ∀ (n : Nat) (l : List UInt8), l.length ≤ n → remF [10] n l = l.filter fun c => !(c == 10)
  | 0, l, h => by have := List.eq_nil_of_length_eq_zero (Nat.le_zero.1 h); subst this; rfl
  | n + 1, [], _ => rfl
  | n + 1, c :: r, h => by
    rw [List.length_cons] at h
    unfold remF
    by_cases hc : c = 10
    · subst hc
      rw [if_pos (by simp [List.isPrefixOf])]
      show remF [10] n r = _
      rw [rem10 n r (by omega)]; rfl
    · rw [if_neg (by simp [List.isPrefixOf]; exact fun e => hc e.symm), rem10 n r (by omega), List.filter_cons, if_pos (by simp [hc])]
theorem unfold_rem : ∀ (n : Nat) (l : List UInt8), l.length ≤ n → (remF [13, 10] n l).filter (fun c => !(c == 10)) = unfoldL l
  | 0, l, h => by have := List.eq_nil_of_length_eq_zero (Nat.le_zero.1 h); subst this; rfl
  | n + 1, [], _ => rfl
  | n + 1, [c], h => by
    have e : remF [13, 10] (n + 1) [c] = [c] := by
      unfold remF
      rw [if_neg (by simp [List.isPrefixOf])]
      cases n <;> rfl
    rw [e]
    unfold unfoldL
    by_cases hc : c = 10
    · subst hc; rfl
    · rw [if_neg hc, List.filter_cons, if_pos (by simp [hc])]; rfl
  | n + 1, c :: d :: r, h => by
    rw [List.length_cons, List.length_cons] at h
    by_cases hp : c = 13 ∧ d = 10
    · obtain ⟨rfl, rfl⟩ := hp
      have e : remF [13, 10] (n + 1) (13 :: 10 :: r) = remF [13, 10] n r := by
        conv => lhs; unfold remF
        rw [if_pos (by simp [List.isPrefixOf])]; rfl
      rw [e, unfold_rem n r (by omega), unfold_crlf]
    · have e : remF [13, 10] (n + 1) (c :: d :: r) = c :: remF [13, 10] n (d :: r) := by
        conv => lhs; unfold remF
        rw [if_neg]
        simp only [List.isPrefixOf, Bool.and_true, Bool.and_eq_true, beq_iff_eq]
        rintro ⟨e1, e2⟩
        exact hp ⟨e1.symm, e2.symm⟩
      rw [e]
      have ih := unfold_rem n (d :: r) (by rw [List.length_cons]; omega)
      by_cases hc : c = 10
      · subst hc
        rw [unfold_lf, List.filter_cons, if_neg (by decide), ih]
      · have e2 : unfoldL (c :: d :: r) = c :: unfoldL (d :: r) := by
          conv => lhs; unfold unfoldL
          rw [if_neg hc, if_neg hp]
        rw [e2, List.filter_cons, if_pos (by simp [hc]), ih]
/-- Unfold, as the program spells it -/
theorem unfold_repl (l : List UInt8) : Lib.replaceAll (Lib.replaceAll l [13, 10] []) [10] [] = unfoldL l := by
  rw [rem_all [10] _ (by decide), rem_all [13, 10] l (by decide), rem10 _ _ (Nat.le_refl _), unfold_rem _ l (Nat.le_refl _)]
end Hd
namespace Hd
open Go Go.RowKit Pk

/-- what goes on, ahead of more -/
theorem cont_app2 : ∀ (n : Nat) (c t : List UInt8), c.length ≤ n → cont c = c.length → (c = [] ∨ ends c) → cont (c ++ t) = c.length + cont t
  | n, c, t, hn, hc, he => by
    by_cases h0 : c = []
    · subst h0; rw [List.nil_append, List.length_nil, Nat.zero_add]
    · have he : ends c := he.resolve_left h0
      have hlen := List.length_pos_iff.2 h0
      have hg : goesB c = true := by
        cases hg : goesB c with
        | true => rfl
        | false => rw [cont_stop hg] at hc; omega
      have hstep := cont_step hg
      have hp := lineN_pos h0
      have hle := lineN_le c
      cases n with
      | zero => omega
      | succ n =>
        have hd : (c.drop (lineN c)).length = c.length - lineN c := List.length_drop ..
        have hlt : (c.take (lineN c)).length = lineN c := by rw [List.length_take]; omega
        have hl : lineN (c ++ t) = lineN c := by
          have hh : c = c.take (lineN c) ++ c.drop (lineN c) := (List.take_append_drop _ _).symm
          rcases line_ends c with h | h
          · conv => lhs; rw [hh, List.append_assoc]
            rw [line_app _ _ (by rw [line_take, hlt]) h, hlt]
          · rw [line_app c t h he, h]
        rw [cont_step (by rw [goes_app h0]; exact hg), hl]
        have hdr : (c ++ t).drop (lineN c) = c.drop (lineN c) ++ t := List.drop_append_of_le_length hle
        rw [hdr, cont_app2 n (c.drop (lineN c)) t (by omega) (by rw [hd]; omega) ?_, hd]
        · omega
        · by_cases hz : c.drop (lineN c) = []
          · exact .inl hz
          · right
            unfold ends at *
            rw [List.getLast?_drop, if_neg (by rw [List.drop_eq_nil_iff] at hz; omega)]
            exact he
/-- a line that starts with a blank becomes part of the field before it -/
theorem head_more {h x : List UInt8} (hh : Head h) (he : ends h) (hx : lineN x = x.length) (hg : goesB x = true) (hxe : ends x) :
    Head (h ++ x) ∧ ends (h ++ x) ∧ (fieldL (h ++ x)).name = (fieldL h).name := by
  have hle := lineN_le h
  have hl : lineN (h ++ x) = lineN h := by
    have hlt : (h.take (lineN h)).length = lineN h := by rw [List.length_take]; omega
    have h2 : h = h.take (lineN h) ++ h.drop (lineN h) := (List.take_append_drop _ _).symm
    rcases line_ends h with h1 | h1
    · conv => lhs; rw [h2, List.append_assoc]
      rw [line_app _ _ (by rw [line_take, hlt]) h1, hlt]
    · rw [line_app h x h1 he, h1]
  have hd : (h.drop (lineN h)).length = h.length - lineN h := List.length_drop ..
  have hcx : cont x = x.length := by
    rw [cont_step hg, hx, List.drop_length]; rfl
  have htk : (h ++ x).take (lineN h) = h.take (lineN h) := List.take_append_of_le_length hle
  refine ⟨⟨fun e => hh.ne (List.append_eq_nil_iff.1 e).1, ?_, ?_⟩, ends_app hxe, ?_⟩
  · have hlen := hh.len
    unfold headN at hlen ⊢
    rw [hl, List.drop_append_of_le_length hle, cont_app2 _ (h.drop (lineN h)) x (Nat.le_refl _) (by omega) ?_, hd, hcx, List.length_append]
    · omega
    · by_cases hz : h.drop (lineN h) = []
      · exact .inl hz
      · right
        unfold ends at *
        rw [List.getLast?_drop, if_neg (by rw [List.drop_eq_nil_iff] at hz; omega)]
        exact he
  · have := hh.full
    unfold emptyB at this ⊢
    rw [hl, htk]; exact this
  · have e1 : nameL (h ++ x) = nameL h := by unfold nameL; rw [hl, htk]
    have e2 : colonB (h ++ x) = colonB h := by unfold colonB; rw [hl, htk]
    unfold fieldL
    rw [e1, e2]
    split <;> rfl
theorem putF_le : ∀ (f n : Nat) (b : Bool) (v : List UInt8), (putF f n b v).length ≤ 3 * v.length
  | 0, _, _, _ => Nat.zero_le _
  | f + 1, n, b, v => by
    by_cases hne : v = []
    · subst hne; rw [putF_nil]; exact Nat.le_refl _
    · obtain ⟨p1, p2⟩ := pieceN_rng hne
      rw [putF_ne hne]
      split
      · have ih := putF_le f (pieceN v) false (v.drop (pieceN v))
        rw [List.length_drop] at ih
        simp only [List.length_append, List.length_cons, List.length_nil, List.length_take]; omega
      · have ih := putF_le f (n + pieceN v) false (v.drop (pieceN v))
        rw [List.length_drop] at ih
        simp only [List.length_append, List.length_take]; omega
theorem clean_le (v : List UInt8) : (cleanL v).length ≤ v.length := by
  obtain ⟨a, b, h, -⟩ := trim_split (v.map spc)
  have := congrArg List.length h
  simp only [List.length_append, List.length_map] at this
  show (trimB (v.map spc)).length ≤ _
  omega
theorem put_le (n v : List UInt8) : (putL n v).length ≤ n.length + 4 + 3 * v.length := by
  unfold putL
  split
  · have h1 := putF_le (cleanL v).length (n.length + 2) true (cleanL v)
    have h2 := clean_le v
    simp only [List.length_append, List.length_cons, List.length_nil]; omega
  · simp
theorem goes_shape {name more behind : List UInt8} (value : List UInt8) (hn : Named name) (hm : ∀ c ∈ more, c ≠ 10) (hb : goesB behind = false) :
    ∃ f : Fld, parS (putL name value ++ ([32] ++ more ++ [13, 10]) ++ behind) = f :: parS behind ∧ endS (putL name value ++ ([32] ++ more ++ [13, 10]) ++ behind) = (putL name value).length + more.length + 3 + endS behind ∧
      f.raw = toB (putL name value ++ ([32] ++ more ++ [13, 10])) ∧ f.name = toB name := by
  obtain ⟨hh, he, b, f, hu, e, hf⟩ := put_head value hn
  have hxl : lineN ([32] ++ more ++ [13, 10]) = ([32] ++ more ++ [13, 10]).length := by
    have h1 : ∀ c ∈ [32] ++ more ++ [13], c ≠ 10 := fun c hc => by
      rcases List.mem_append.1 hc with h1 | h1
      · rcases List.mem_append.1 h1 with h2 | h2
        · simp only [List.mem_cons, List.not_mem_nil, or_false] at h2; subst h2; decide
        · exact hm c h2
      · simp only [List.mem_cons, List.not_mem_nil, or_false] at h1; subst h1; decide
    have := line_end ([32] ++ more ++ [13]) h1
    rw [show [32] ++ more ++ [13, 10] = [32] ++ more ++ [13] ++ [10] by simp, this]
    simp
  obtain ⟨h1, h2, h3⟩ := head_more hh he hxl rfl (ends_crlf _)
  obtain ⟨p1, p2⟩ := head_par h1 h2 hb
  refine ⟨_, p1, ?_, raw_of _, ?_⟩
  · rw [p2]
    simp only [List.length_append, List.length_cons, List.length_nil]; omega
  · rw [h3, hf]
end Hd
namespace Hd
open Go Go.RowKit Pk

theorem named_goes {name : List UInt8} (h : Named name) (t : List UInt8) : goesB (name ++ t) = false := by
  cases name with
  | nil => exact absurd rfl h.ne
  | cons c r => exact (okc_blk (h.ok c (List.mem_cons_self ..))).1
def putB (p : ByteArray × ByteArray) : List UInt8 := putL p.1.data.toList p.2.data.toList
def putsL (ps : List (ByteArray × ByteArray)) : List UInt8 := ps.flatMap putB
def fldP (p : ByteArray × ByteArray) : Fld := fieldL (putB p)
theorem put_goes {name : List UInt8} (value t : List UInt8) (h : Named name) : goesB (putL name value ++ t) = false := by
  unfold putL
  rw [if_pos (right_named.2 h), List.append_assoc, List.append_assoc, List.append_assoc]
  exact named_goes h _
theorem apart_par (body : List UInt8) : ∀ ps : List (ByteArray × ByteArray), (∀ p ∈ ps, Named p.1.data.toList) →
    parS (putsL ps ++ ([13, 10] ++ body)) = ps.map fldP ∧ endS (putsL ps ++ ([13, 10] ++ body)) = (putsL ps).length + 2
  | [], _ => by
    have hl : lineN ([13, 10] ++ body) = 2 := by
      show lineN (13 :: 10 :: body) = 2
      rw [lineN_cons (by decide), lineN_cons10]
    have h := par_empty (l := [13, 10] ++ body) (by simp) (by unfold emptyB; rw [hl]; rfl)
    rw [hl] at h
    exact h
  | p :: ps, hp => by
    have hn := hp p (List.mem_cons_self ..)
    obtain ⟨i1, i2⟩ := apart_par body ps (fun q hq => hp q (List.mem_cons_of_mem _ hq))
    obtain ⟨hh, he, -⟩ := put_head p.2.data.toList hn
    have e : putsL (p :: ps) ++ ([13, 10] ++ body) = putB p ++ (putsL ps ++ ([13, 10] ++ body)) := by
      unfold putsL; rw [List.flatMap_cons, List.append_assoc]
    have hgo : goesB (putsL ps ++ ([13, 10] ++ body)) = false := by
      cases ps with
      | nil => rfl
      | cons q qs =>
        have e : putsL (q :: qs) = putB q ++ putsL qs := by unfold putsL; rw [List.flatMap_cons]
        rw [e, List.append_assoc]
        exact put_goes _ _ (hp q (by simp))
    obtain ⟨p1, p2⟩ := head_par hh he hgo
    have p1 : parS (putB p ++ (putsL ps ++ ([13, 10] ++ body))) = fldP p :: parS (putsL ps ++ ([13, 10] ++ body)) := p1
    have p2 : endS (putB p ++ (putsL ps ++ ([13, 10] ++ body))) = (putB p).length + endS (putsL ps ++ ([13, 10] ++ body)) := p2
    rw [e, p1, p2, i1, i2, List.map_cons]
    refine ⟨rfl, ?_⟩
    have : putsL (p :: ps) = putB p ++ putsL ps := by unfold putsL; rw [List.flatMap_cons]
    rw [this, List.length_append]; omega
/-- a field that Put laid -/
theorem fldP_is {p : ByteArray × ByteArray} (h : Named p.1.data.toList) : ∃ x1 : ByteArray, fldP p = ⟨p.1, x1, toB (putB p), false⟩ ∧ x1.size ≤ (putB p).length ∧ valueOf (fldP p) = cleanL p.2.data.toList ∧ parS (putB p) = [fldP p] ∧ endS (putB p) = (putB p).length := by
  obtain ⟨hh, he, b, f, hu, e, hf⟩ := put_head p.2.data.toList h
  obtain ⟨p1, p2⟩ := head_one hh
  have hb : toB p.1.data.toList = p.1 := by unfold toB; simp
  have hv := put_value (name := p.1.data.toList) p.2.data.toList hu
  refine ⟨toB (32 :: b), by unfold fldP putB; rw [hf, hb], ?_, ?_, p1, p2⟩
  · have : (toB (32 :: b)).size = b.length + 1 := by rw [← dataL, toB_data]; rfl
    rw [this]
    show _ ≤ (putL p.1.data.toList p.2.data.toList).length
    rw [e]; simp only [List.length_append, List.length_cons, List.length_nil]; omega
  · unfold fldP putB; rw [hf]; exact hv
def sameN (name : List UInt8) (p : ByteArray × ByteArray) : Bool := smallL p.1.data.toList == smallL name
def isN (name : List UInt8) (x : Fld) : Bool := isNamed name x
theorem apart_all (name : List UInt8) (ps : List (ByteArray × ByteArray)) (hp : ∀ p ∈ ps, Named p.1.data.toList) :
    ((ps.map fldP).filter (isNamed name)).map (fun x => toB (valueOf x)) = (ps.filter (sameN name)).map fun p => toB (cleanL p.2.data.toList) := by
  induction ps with
  | nil => rfl
  | cons p ps ih =>
    have hn := hp p (List.mem_cons_self ..)
    obtain ⟨x1, e, -, hv, -⟩ := fldP_is hn
    have hi : isNamed name (fldP p) = sameN name p := by rw [e]; rfl
    have ih := ih (fun q hq => hp q (List.mem_cons_of_mem _ hq))
    rw [List.map_cons, List.filter_cons, List.filter_cons, hi]
    split
    · rw [List.map_cons, List.map_cons, ih, hv]
    · exact ih
theorem apart_one (name : List UInt8) (ps : List (ByteArray × ByteArray)) {p : ByteArray × ByteArray} (h : p ∈ ps) (hn : p.1.data.toList = name) : 0 < (ps.filter (sameN name)).length := by
  apply List.length_pos_of_mem (a := p)
  rw [List.mem_filter]
  exact ⟨h, by unfold sameN; rw [hn]; simp⟩
/-- how often a name stands among the first ones -/
def manyN (name : List UInt8) (ns : List ByteArray) (k : Nat) : Nat := ((ns.take k).filter fun n => smallL n.data.toList == smallL name).length
theorem many_zero (name : List UInt8) (ns : List ByteArray) : manyN name ns 0 = 0 := rfl
theorem many_step (name : List UInt8) (ns : List ByteArray) (k : Nat) (h : k < ns.length) : manyN name ns (k + 1) = manyN name ns k + (if smallL ns[k].data.toList = smallL name then 1 else 0) := by
  unfold manyN
  rw [List.take_succ_eq_append_getElem h, List.filter_append, List.length_append]
  congr 1
  by_cases hc : smallL ns[k].data.toList = smallL name
  · rw [if_pos hc, List.filter_cons, if_pos (by simp [hc])]; rfl
  · rw [if_neg hc, List.filter_cons, if_neg (by simpa using hc)]; rfl
theorem many_le (name : List UInt8) (ns : List ByteArray) (k : Nat) : manyN name ns k ≤ k := by
  unfold manyN
  have h1 := List.length_filter_le (fun n : ByteArray => smallL n.data.toList == smallL name) (ns.take k)
  rw [List.length_take] at h1
  omega
theorem many_zip (name : List UInt8) : ∀ (ns vs : List ByteArray), ns.length ≤ vs.length → ((ns.zip vs).filter (sameN name)).length = (ns.filter fun n => smallL n.data.toList == smallL name).length
  | [], _, _ => rfl
  | n :: ns, [], h => by simp at h
  | n :: ns, v :: vs, h => by
    have ih := many_zip name ns vs (by simpa using h)
    rw [List.zip_cons_cons, List.filter_cons, List.filter_cons]
    have e : sameN name (n, v) = (smallL n.data.toList == smallL name) := rfl
    rw [e]
    split
    · rw [List.length_cons, List.length_cons, ih]
    · exact ih
theorem many_end (name : List UInt8) (ns vs : List ByteArray) (h : ns.length ≤ vs.length) : manyN name ns ns.length = ((ns.zip vs).filter (sameN name)).length := by
  unfold manyN
  rw [List.take_length, many_zip name ns vs h]
/-- a pair that the law speaks of -/
structure PairOk (p : ByteArray × ByteArray) : Prop where
  named : Named p.1.data.toList
  n1 : p.1.size ≤ 100
  n2 : p.2.size ≤ 300
theorem zip_take {ns vs : List ByteArray} (i : Nat) (h1 : i < ns.length) (h2 : i < vs.length) : (ns.zip vs).take (i + 1) = (ns.zip vs).take i ++ [(ns[i], vs[i])] := by
  have hl : i < (ns.zip vs).length := by rw [List.length_zip]; omega
  rw [List.take_succ_eq_append_getElem hl, List.getElem_zip]
theorem zip_len {ns vs : List ByteArray} (h : ns.length ≤ vs.length) : (ns.zip vs).length = ns.length := by rw [List.length_zip]; omega
end Hd
