/- Plain: header fields: fields written one after another. -/
import Derived.Test.YthchklbnkojkgaaGreatDoorHdG
namespace Hd
open Go Go.RowKit Pk

theorem named_goes {name : List UInt8} (h : Named name) (t : List UInt8) : goesB (name ++ t) = false := by
  cases name with
  | nil => exact absurd rfl h.ne
  | cons c r => exact (okc_blk (h.ok c (List.mem_cons_self ..))).1
def putB (p : ByteArray × ByteArray) : List UInt8 := putL p.1.data.toList p.2.data.toList
def putsL (ps : List (ByteArray × ByteArray)) : List UInt8 := ps.flatMap putB
def fldP (p : ByteArray × ByteArray) : Fld := fieldL (putB p)
theorem put_goes {name : List UInt8} (value t : List UInt8) (h : Named name) : goesB (putL name value ++ t) = false := by
  unfold putL
  rw [if_pos (right_named.2 h), List.append_assoc, List.append_assoc, List.append_assoc]
  exact named_goes h _
theorem apart_par (body : List UInt8) : ∀ ps : List (ByteArray × ByteArray), (∀ p ∈ ps, Named p.1.data.toList) →
    parS (putsL ps ++ ([13, 10] ++ body)) = ps.map fldP ∧ endS (putsL ps ++ ([13, 10] ++ body)) = (putsL ps).length + 2
  | [], _ => by
    have hl : lineN ([13, 10] ++ body) = 2 := by
      show lineN (13 :: 10 :: body) = 2
      rw [lineN_cons (by decide), lineN_cons10]
    have h := par_empty (l := [13, 10] ++ body) (by simp) (by unfold emptyB; rw [hl]; rfl)
    rw [hl] at h
    exact h
  | p :: ps, hp => by
    have hn := hp p (List.mem_cons_self ..)
    obtain ⟨i1, i2⟩ := apart_par body ps (fun q hq => hp q (List.mem_cons_of_mem _ hq))
    obtain ⟨hh, he, -⟩ := put_head p.2.data.toList hn
    have e : putsL (p :: ps) ++ ([13, 10] ++ body) = putB p ++ (putsL ps ++ ([13, 10] ++ body)) := by
      unfold putsL; rw [List.flatMap_cons, List.append_assoc]
    have hgo : goesB (putsL ps ++ ([13, 10] ++ body)) = false := by
      cases ps with
      | nil => rfl
      | cons q qs =>
        have e : putsL (q :: qs) = putB q ++ putsL qs := by unfold putsL; rw [List.flatMap_cons]
        rw [e, List.append_assoc]
        exact put_goes _ _ (hp q (by simp))
    obtain ⟨p1, p2⟩ := head_par hh he hgo
    have p1 : parS (putB p ++ (putsL ps ++ ([13, 10] ++ body))) = fldP p :: parS (putsL ps ++ ([13, 10] ++ body)) := p1
    have p2 : endS (putB p ++ (putsL ps ++ ([13, 10] ++ body))) = (putB p).length + endS (putsL ps ++ ([13, 10] ++ body)) := p2
    rw [e, p1, p2, i1, i2, List.map_cons]
    refine ⟨rfl, ?_⟩
    have : putsL (p :: ps) = putB p ++ putsL ps := by unfold putsL; rw [List.flatMap_cons]
    rw [this, List.length_append]; omega
/-- a field that Put laid -/
theorem fldP_is {p : ByteArray × ByteArray} (h : Named p.1.data.toList) : ∃ x1 : ByteArray, fldP p = ⟨p.1, x1, toB (putB p), false⟩ ∧ x1.size ≤ (putB p).length ∧ valueOf (fldP p) = cleanL p.2.data.toList ∧ parS (putB p) = [fldP p] ∧ endS (putB p) = (putB p).length := by
  obtain ⟨hh, he, b, f, hu, e, hf⟩ := put_head p.2.data.toList h
  obtain ⟨p1, p2⟩ := head_one hh
  have hb : toB p.1.data.toList = p.1 := by unfold toB; simp
  have hv := put_value (name := p.1.data.toList) p.2.data.toList hu
  refine ⟨toB (32 :: b), by unfold fldP putB; rw [hf, hb], ?_, ?_, p1, p2⟩
  · have : (toB (32 :: b)).size = b.length + 1 := by rw [← dataL, toB_data]; rfl
    rw [this]
    show _ ≤ (putL p.1.data.toList p.2.data.toList).length
    rw [e]; simp only [List.length_append, List.length_cons, List.length_nil]; omega
  · unfold fldP putB; rw [hf]; exact hv
def sameN (name : List UInt8) (p : ByteArray × ByteArray) : Bool := smallL p.1.data.toList == smallL name
def isN (name : List UInt8) (x : Fld) : Bool := isNamed name x
theorem apart_all (name : List UInt8) (ps : List (ByteArray × ByteArray)) (hp : ∀ p ∈ ps, Named p.1.data.toList) :
    ((ps.map fldP).filter (isNamed name)).map (fun x => toB (valueOf x)) = (ps.filter (sameN name)).map fun p => toB (cleanL p.2.data.toList) := by
  induction ps with
  | nil => rfl
  | cons p ps ih =>
    have hn := hp p (List.mem_cons_self ..)
    obtain ⟨x1, e, -, hv, -⟩ := fldP_is hn
    have hi : isNamed name (fldP p) = sameN name p := by rw [e]; rfl
    have ih := ih (fun q hq => hp q (List.mem_cons_of_mem _ hq))
    rw [List.map_cons, List.filter_cons, List.filter_cons, hi]
    split
    · rw [List.map_cons, List.map_cons, ih, hv]
    · exact ih
theorem apart_one (name : List UInt8) (ps : List (ByteArray × ByteArray)) {p : ByteArray × ByteArray} (h : p ∈ ps) (hn : p.1.data.toList = name) : 0 < (ps.filter (sameN name)).length := by
  apply List.length_pos_of_mem (a := p)
  rw [List.mem_filter]
  exact ⟨h, by unfold sameN; rw [hn]; simp⟩
/-- how often a name stands among the first ones -/
def manyN (name : List UInt8) (ns : List ByteArray) (k : Nat) : Nat := ((ns.take k).filter fun n => smallL n.data.toList == smallL name).length
theorem many_zero (name : List UInt8) (ns : List ByteArray) : manyN name ns 0 = 0 := rfl
theorem many_step (name : List UInt8) (ns : List ByteArray) (k : Nat) (h : k < ns.length) : manyN name ns (k + 1) = manyN name ns k + (if smallL ns[k].data.toList = smallL name then 1 else 0) := by
  unfold manyN
  rw [List.take_succ_eq_append_getElem h, List.filter_append, List.length_append]
  congr 1
  by_cases hc : smallL ns[k].data.toList = smallL name
  · rw [if_pos hc, List.filter_cons, if_pos (by simp [hc])]; rfl
  · rw [if_neg hc, List.filter_cons, if_neg (by simpa using hc)]; rfl
theorem many_le (name : List UInt8) (ns : List ByteArray) (k : Nat) : manyN name ns k ≤ k := by
  unfold manyN
  have h1 := List.length_filter_le (fun n : ByteArray => smallL n.data.toList == smallL name) (ns.take k)
  rw [List.length_take] at h1
  omega
theorem many_zip (name : List UInt8) : ∀ (ns vs : List ByteArray), ns.length ≤ vs.length → ((ns.zip vs).filter (sameN name)).length = (ns.filter fun n => smallL n.data.toList == smallL name).length
  | [], _, _ => rfl
  | n :: ns, [], h => by simp at h
  | n :: ns, v :: vs, h => by
    have ih := many_zip name ns vs (by simpa using h)
    rw [List.zip_cons_cons, List.filter_cons, List.filter_cons]
    have e : sameN name (n, v) = (smallL n.data.toList == smallL name) := rfl
    rw [e]
    split
    · rw [List.length_cons, List.length_cons, ih]
    · exact ih
theorem many_end (name : List UInt8) (ns vs : List ByteArray) (h : ns.length ≤ vs.length) : manyN name ns ns.length = ((ns.zip vs).filter (sameN name)).length := by
  unfold manyN
  rw [List.take_length, many_zip name ns vs h]
/-- a pair that the law speaks of -/
structure PairOk (p : ByteArray × ByteArray) : Prop where
  named : Named p.1.data.toList
  n1 : p.1.size ≤ 100
  n2 : p.2.size ≤ 300
theorem zip_take {ns vs : List ByteArray} (i : Nat) (h1 : i < ns.length) (h2 : i < vs.length) : (ns.zip vs).take (i + 1) = (ns.zip vs).take i ++ [(ns[i], vs[i])] := by
  have hl : i < (ns.zip vs).length := by rw [List.length_zip]; omega
  rw [List.take_succ_eq_append_getElem hl, List.getElem_zip]
theorem zip_len {ns vs : List ByteArray} (h : ns.length ≤ vs.length) : (ns.zip vs).length = ns.length := by rw [List.length_zip]; omega
end Hd
