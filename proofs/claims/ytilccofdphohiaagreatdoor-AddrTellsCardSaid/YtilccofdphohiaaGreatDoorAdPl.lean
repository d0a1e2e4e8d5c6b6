/- Plain: addresses and message ids: what the program reads and writes. Small laws of no program: slices of tokens at any offset; slices of such slices; addresses in memory. Plain: where a walk over the tokens of a list of addresses stands. Plain: where a walk over the pieces stands. Plain: message ids are found again. Plain: a search by runes is a search by bytes where no rune past 127 is looked for. Plain: the pieces of a list of addresses are no longer than the string. Plain: what is written is read back. -/
import Derived.Test.YtilccofdphohiaaGreatDoorTkQ
import Derived.Test.YtilccofdphohiaaGreatDoorTkS
import Derived.Test.YtilccofdphohiaaGreatDoorKitE
import Derived.Test.YtilccofdphohiaaGreatDoorKitG
import Derived.Test.YtilccofdphohiaaGreatDoorStrK
import Derived.Test.YtilccofdphohiaaGreatDoorUtx
import Derived.Shelf.GgClosure.StringsIndexFunc
namespace Ad
open Go Go.RowKit Pk Fo Tk

structure Adr where
  name : List UInt8
  loc : List UInt8
  dom : List UInt8
  deriving DecidableEq
def nilA : Adr := ⟨[], [], []⟩
/-- the token is this special -/
def isT (b : UInt8) (t : El) : Bool := t.kind == 4 && t.text.data.toList == [b]
/-- the tokens of each address; cur: of the one under way -/
def pcs : Bool → List El → List El → List (List El)
  | _, cur, [] => [cur]
  | true, cur, t :: r => pcs (!isT 62 t) (cur ++ [t]) r
  | false, cur, t :: r =>
    if isT 60 t = true then pcs true (cur ++ [t]) r
    else if isT 58 t = true then pcs false [] r
    else if (isT 44 t || isT 59 t) = true then cur :: pcs false [] r
    else pcs false (cur ++ [t]) r
def piecesL (s : List UInt8) : List (List El) := pcs false [] (bareE (sc s))
def valE (t : El) : List UInt8 := valL t.kind t.text.data.toList
/-- words of two kinds with dots between them; b: a word is due -/
def rowOk (one other : Nat) : Bool → List El → Bool
  | _, [] => true
  | true, t :: r => (t.kind == one || t.kind == other) && rowOk one other false r
  | false, t :: r => isT 46 t && rowOk one other true r
def vals (l : List El) : List UInt8 := l.flatMap valE
def rowP (one other : Nat) (l : List El) : List UInt8 × Bool := if rowOk one other true l = true then (vals l, l.length % 2 == 1) else ([], false)
def namOk (l : List El) : Bool := l.all fun t => t.kind == 1 || t.kind == 2 || isT 46 t
def namL : Bool → List El → List UInt8
  | _, [] => []
  | b, t :: r => (if b = true ∨ isT 46 t = true then valE t else 32 :: valE t) ++ namL false r
def namP (l : List El) : List UInt8 × Bool := if namOk l = true then (namL true l, true) else ([], false)
def blankA (c : UInt8) : Bool := c == 9 || c == 10 || c == 13 || c == 32
def bareS (l : List UInt8) : List UInt8 := l.filter fun c => !blankA c
/-- where the first of them stands -/
def ixT (b : UInt8) (l : List El) : Nat := l.findIdx (isT b)
def domP : List El → List UInt8 × Bool
  | [t] => if t.kind = 5 then (bareS t.text.data.toList, true) else rowP 1 1 [t]
  | l => rowP 1 1 l
def specP (l : List El) : Adr × Bool :=
  if ixT 64 l < l.length then
    (⟨[], (rowP 1 2 (l.take (ixT 64 l))).1, (domP (l.drop (ixT 64 l + 1))).1⟩, (rowP 1 2 (l.take (ixT 64 l))).2 && (domP (l.drop (ixT 64 l + 1))).2)
  else (nilA, false)
/-- behind a route -/
def routeL (l : List El) : List El := match l with
  | [] => []
  | t :: r => if isT 64 t = true then (if ixT 58 (t :: r) < (t :: r).length then (t :: r).drop (ixT 58 (t :: r) + 1) else t :: r) else t :: r
def oneP (l : List El) : Adr × Bool :=
  if ixT 60 l < l.length then
    if (namP (l.take (ixT 60 l))).2 = true ∧ ixT 62 (l.drop (ixT 60 l + 1)) + 1 = (l.drop (ixT 60 l + 1)).length then
      let p := specP (routeL ((l.drop (ixT 60 l + 1)).take (ixT 62 (l.drop (ixT 60 l + 1)))))
      (⟨(namP (l.take (ixT 60 l))).1, p.1.loc, p.1.dom⟩, p.2)
    else (nilA, false)
  else specP l
def goodL (L : List (List El)) : List Adr := L.filterMap fun l => if l = [] then none else if (oneP l).2 = true then some (oneP l).1 else none
def allL (L : List (List El)) : Bool := L.all fun l => l.isEmpty || (oneP l).2
def parseA (s : List UInt8) : List Adr × Bool := (goodL (piecesL s), allL (piecesL s))
/-- a dot-atom -/
def dotted (s : List UInt8) : Bool := (spl 46 s).all wordOk
def escA (c : UInt8) : List UInt8 := if c = 34 ∨ c = 92 then [92, c] else [c]
def locW (l : List UInt8) : List UInt8 := if dotted l = true then l else 34 :: (l.flatMap escA ++ [34])
def specW (a : Adr) : List UInt8 := locW a.loc ++ 64 :: a.dom
def writeA (a : Adr) : List UInt8 := if a.name = [] then specW a else quoteL a.name ++ 32 :: 60 :: (specW a ++ [62])
def joinA : List (List UInt8) → List UInt8
  | [] => []
  | [x] => x
  | x :: y :: r => x ++ 44 :: 32 :: joinA (y :: r)
def writeLst (l : List Adr) : List UInt8 := joinA (l.map writeA)
def plainA (low : Nat) (s : List UInt8) : Bool := s.all fun c => decide (low ≤ c.toNat) && !(c == 127)
def domOk (d : List UInt8) : Bool := match d with
  | 91 :: r => match r.getLast? with
    | some 93 => plainA 33 r.dropLast && !(r.dropLast.any fun c => c == 91 || c == 93 || c == 92)
    | _ => false
  | _ => dotted d
def rightA (a : Adr) : Bool := decide (1 ≤ a.loc.length) && (decide (a.loc.length ≤ 64) && (decide (a.dom.length ≤ 255) && (decide (a.name.length ≤ 200) && (plainA 32 (a.loc ++ a.name) && domOk a.dom))))
def lowA (c : UInt8) : UInt8 := if 65 ≤ c.toNat ∧ c.toNat ≤ 90 then c + 32 else c
def canonA (a : Adr) : List UInt8 := a.loc ++ 64 :: a.dom.map lowA
/-- the bytes that end a message id -/
def endI (c : UInt8) : Bool := decide (c.toNat ≤ 32) || c == 127 || c == 60 || c == 62
def idAt (r : List UInt8) : List (List UInt8) :=
  let n := r.findIdx endI
  if 0 < n ∧ n ≤ 250 ∧ r[n]? = some 62 then [r.take n] else []
def idsL : List UInt8 → List (List UInt8)
  | [] => []
  | c :: r => if c = 60 then idAt r ++ idsL r else idsL r
/-! the fixed examples -/
def ex1 : List UInt8 := [103, 58, 32, 97, 64, 98, 44, 32, 34, 120, 32, 121, 34, 32, 60, 99, 46, 100, 64, 69, 62, 32, 40, 122, 41, 59, 44, 32, 74, 46, 32, 68, 32, 60, 64, 113, 58, 34, 107, 32, 108, 34, 64, 91, 49, 32, 46, 50, 93, 62]
def ex2 : List UInt8 := [97, 64, 98, 32, 99, 44, 32, 60, 100, 64, 101, 62, 44, 32, 120]
def ad1 : Adr := ⟨[], [97], [98]⟩
def ad2 : Adr := ⟨[120, 32, 121], [99, 46, 100], [69]⟩
def ad3 : Adr := ⟨[74, 46, 32, 68], [107, 32, 108], [91, 49, 46, 50, 93]⟩
def ad4 : Adr := ⟨[], [100], [101]⟩
theorem ex1_is : parseA ex1 = ([ad1, ad2, ad3], true) := by decide +kernel
theorem ex2_is : parseA ex2 = ([ad4], false) := by decide +kernel
theorem ex3_is : canonA ad2 = [99, 46, 100, 64, 101] := by decide +kernel
theorem ex4_is : writeLst [ad1, ad3] = [97, 64, 98, 44, 32, 34, 74, 46, 32, 68, 34, 32, 60, 34, 107, 32, 108, 34, 64, 91, 49, 46, 50, 93, 62] := by decide +kernel
theorem ex5_is : rightA ad3 = true ∧ rightA ⟨[], [97], []⟩ = false := by decide +kernel
theorem ex6_is : idsL [60, 97, 64, 98, 62, 32, 120, 60, 60, 99, 62, 32, 60, 100, 32, 101, 62, 32, 60, 62] = [[97, 64, 98], [99]] := by decide +kernel
end Ad
namespace Pk
open Go Go.RowKit Ad Fo Tk

theorem laterW {w w' : World} (hb : Below w.heap.size w w') {g j : Nat} {v : Value} (h : w.cell? ⟨g, j, none⟩ = some v) : w'.cell? ⟨g, j, none⟩ = some v := (hb.cell (p := ⟨g, j, none⟩) (World.block_lt_of_cell? _ _ h)).trans h
/-- tokens from offset o on in block g -/
def tokAt (W : World) (g o : Nat) (m : List El) : Prop := ∀ j (h : j < m.length), W.cell? ⟨g, o + j * 2, none⟩ = some (.int .i64 m[j].kind) ∧ W.cell? ⟨g, o + j * 2 + 1, none⟩ = some (.string m[j].text)
theorem tokAt.later {W W' : World} {g o : Nat} {m : List El} (h : tokAt W g o m) (hb : Below W.heap.size W W') : tokAt W' g o m := fun j hj => ⟨laterW hb (h j hj).1, laterW hb (h j hj).2⟩
theorem tokAt.drop {W : World} {g o : Nat} {m : List El} (h : tokAt W g o m) (k : Nat) : tokAt W g (o + k * 2) (m.drop k) := fun j hj => by
  rw [List.length_drop] at hj
  have := h (k + j) (by omega)
  rw [show o + k * 2 + j * 2 = o + (k + j) * 2 by omega, List.getElem_drop]
  exact this
theorem tokAt.take {W : World} {g o : Nat} {m : List El} (h : tokAt W g o m) (k : Nat) : tokAt W g o (m.take k) := fun j hj => by
  rw [List.length_take] at hj
  have := h j (by omega)
  rw [List.getElem_take]
  exact this
/-- the triple of a slice is one of these tokens -/
def TSl (W : World) (p : Option Addr) (n c : Nat) (m : List El) : Prop := m.length = n ∧ n ≤ c ∧ (m = [] ∨ ∃ g o, p = some ⟨g, o, none⟩ ∧ tokAt W g o m)
theorem TSl.later {W W' : World} {p : Option Addr} {n c : Nat} {m : List El} (h : TSl W p n c m) (hb : Below W.heap.size W W') : TSl W' p n c m := by
  obtain ⟨h1, h2, h3⟩ := h
  refine ⟨h1, h2, ?_⟩
  rcases h3 with h3 | ⟨g, o, h4, h5⟩
  · exact .inl h3
  · exact .inr ⟨g, o, h4, h5.later hb⟩
theorem TSl.sub {W : World} {g o n c : Nat} {m : List El} (hc : n ≤ c) (h : tokAt W g o m) (hn : m.length = n) : TSl W (some ⟨g, o, none⟩) n c m := ⟨hn, hc, .inr ⟨g, o, rfl, h⟩⟩
theorem TSl.nilS {W : World} {p : Option Addr} {c : Nat} : TSl W p 0 c [] := ⟨rfl, Nat.zero_le _, .inl rfl⟩
theorem TSl.ne {W : World} {p : Option Addr} {n c : Nat} {m : List El} (h : TSl W p n c m) (h0 : 0 < n) : ∃ g o, p = some ⟨g, o, none⟩ ∧ tokAt W g o m := by
  obtain ⟨h1, -, h3⟩ := h
  rcases h3 with h3 | h3
  · rw [h3] at h1; simp at h1; omega
  · exact h3
theorem seesE_TSl {W : World} {C : Nat} {e : TypeId} {v : Value} {m : List El} (h : seesE W C e v m) : ∃ p c, v = .slice p m.length c ∧ TSl W p m.length c m := by
  obtain ⟨p, c, h1, h2, h3⟩ := h.form
  refine ⟨p, c, h1, rfl, h2, ?_⟩
  rcases h3 with h3 | ⟨g, h4, h5, h6⟩
  · exact .inl h3
  · refine .inr ⟨g, 0, h4, fun j hj => ?_⟩
    rw [Nat.zero_add]; exact h6 j hj
/-- a slice as one cell -/
def slLay : Lay (Option Addr × Nat × Nat) where
  enc x := [.slice x.1 x.2.1 x.2.2]
  k := 1
  hk _ := rfl
  h0 := Nat.one_pos
  one x u hu := by simp only [List.mem_singleton] at hu; rw [hu]; rfl
/-- an address in memory: name, local part, domain -/
structure AdB where
  name : ByteArray
  loc : ByteArray
  dom : ByteArray
def AdB.lst (a : AdB) : Adr := ⟨a.name.data.toList, a.loc.data.toList, a.dom.data.toList⟩
def adB (a : Adr) : AdB := ⟨⟨a.name.toArray⟩, ⟨a.loc.toArray⟩, ⟨a.dom.toArray⟩⟩
theorem adB_lst (a : Adr) : (adB a).lst = a := by cases a; simp [adB, AdB.lst]
def adLay : Lay AdB where
  enc x := [.string x.name, .string x.loc, .string x.dom]
  k := 3
  hk _ := rfl
  h0 := by decide
  one x u hu := by simp only [List.mem_cons, List.not_mem_nil, or_false] at hu; rcases hu with rfl | rfl | rfl <;> rfl
end Pk
namespace Ad
open Go Pk Fo Tk

/-- at the at-th token; the piece under way begins at the from-th -/
def PcAt (m : List El) (at' from' : Nat) (ins : Bool) : Prop := from' ≤ at' ∧ at' ≤ m.length ∧ pcs ins ((m.take at').drop from') (m.drop at') = pcs false [] m
theorem pc_start (m : List El) : PcAt m 0 0 false := ⟨Nat.le_refl _, Nat.zero_le _, by simp⟩
theorem take_snoc {m : List El} {a f : Nat} (h : a < m.length) (hf : f ≤ a) : (m.take (a + 1)).drop f = (m.take a).drop f ++ [m[a]] := by
  rw [List.take_succ_eq_append_getElem h, List.drop_append_of_le_length (by rw [List.length_take]; omega)]
theorem pc_in {m : List El} {a f : Nat} (h : PcAt m a f true) (ha : a < m.length) : PcAt m (a + 1) f (!isT 62 m[a]) := by
  obtain ⟨h1, h2, h3⟩ := h
  rw [List.drop_eq_getElem_cons ha, pcs] at h3
  exact ⟨by omega, ha, by rw [take_snoc ha h1]; exact h3⟩
theorem pc_out {m : List El} {a f : Nat} (h : PcAt m a f false) (ha : a < m.length) :
    (isT 60 m[a] = true → PcAt m (a + 1) f true) ∧
    (isT 60 m[a] = false → isT 58 m[a] = true → PcAt m (a + 1) (a + 1) false) ∧
    (isT 60 m[a] = false → isT 58 m[a] = false → (isT 44 m[a] || isT 59 m[a]) = true → pcs false [] m = (m.take a).drop f :: pcs false [] (m.drop (a + 1))) ∧
    (isT 60 m[a] = false → isT 58 m[a] = false → (isT 44 m[a] || isT 59 m[a]) = false → PcAt m (a + 1) f false) := by
  obtain ⟨h1, h2, h3⟩ := h
  rw [List.drop_eq_getElem_cons ha, pcs] at h3
  refine ⟨fun e => ?_, fun e1 e2 => ?_, fun e1 e2 e3 => ?_, fun e1 e2 e3 => ?_⟩
  · rw [if_pos e] at h3
    exact ⟨by omega, ha, by rw [take_snoc ha h1]; exact h3⟩
  · rw [if_neg (by rw [e1]; decide), if_pos e2] at h3
    exact ⟨Nat.le_refl _, ha, by rw [List.drop_eq_nil_of_le (by rw [List.length_take]; omega)]; exact h3⟩
  · rw [if_neg (by rw [e1]; decide), if_neg (by rw [e2]; decide), if_pos e3] at h3
    exact h3.symm
  · rw [if_neg (by rw [e1]; decide), if_neg (by rw [e2]; decide), if_neg (by rw [e3]; decide)] at h3
    exact ⟨by omega, ha, by rw [take_snoc ha h1]; exact h3⟩
theorem pc_end {m : List El} {a f : Nat} {b : Bool} (h : PcAt m a f b) (ha : ¬ a < m.length) : pcs false [] m = [(m.take a).drop f] := by
  obtain ⟨h1, h2, h3⟩ := h
  have e : m.drop a = [] := List.drop_eq_nil_of_le (by omega)
  rw [e] at h3
  rw [← h3]
  cases b <;> rfl
theorem pcs_len : ∀ (l cur : List El) (b : Bool), (pcs b cur l).length ≤ l.length + 1
  | [], cur, b => by cases b <;> simp [pcs]
  | t :: r, cur, true => by rw [pcs]; have := pcs_len r (cur ++ [t]) (!isT 62 t); rw [List.length_cons]; omega
  | t :: r, cur, false => by
    rw [pcs, List.length_cons]
    have h1 := pcs_len r (cur ++ [t]) true
    have h2 := pcs_len r [] false
    have h3 := pcs_len r (cur ++ [t]) false
    split
    · omega
    · split
      · omega
      · split
        · rw [List.length_cons]; omega
        · omega
end Ad
namespace Ad
open Go Pk Fo Tk

theorem goodL_cons (l : List El) (L : List (List El)) : goodL (l :: L) = (if l = [] then [] else if (oneP l).2 = true then [(oneP l).1] else []) ++ goodL L := by
  unfold goodL
  rw [List.filterMap_cons]
  split
  · rename_i h
    split at h
    · rename_i e; rw [if_pos e]; rfl
    · rename_i e
      split at h
      · cases h
      · rename_i e2; rw [if_neg e, if_neg e2]; rfl
  · rename_i b h
    split at h
    · cases h
    · rename_i e
      split at h
      · rename_i e2
        injection h with h
        rw [if_neg e, if_pos e2, h]; rfl
      · cases h
theorem allL_cons (l : List El) (L : List (List El)) : allL (l :: L) = ((l.isEmpty || (oneP l).2) && allL L) := rfl
/-- behind k pieces: out so far, all so far -/
def ParAt (L : List (List El)) (k : Nat) (acc : List Adr) (b : Bool) : Prop := acc ++ goodL (L.drop k) = goodL L ∧ (b && allL (L.drop k)) = allL L
theorem par_start (L : List (List El)) : ParAt L 0 [] true := ⟨rfl, rfl⟩
theorem par_step {L : List (List El)} {k : Nat} {acc : List Adr} {b : Bool} (h : ParAt L k acc b) (hk : k < L.length) :
    (L[k] = [] → ParAt L (k + 1) acc b) ∧ (L[k] ≠ [] → (oneP L[k]).2 = true → ParAt L (k + 1) (acc ++ [(oneP L[k]).1]) b) ∧ (L[k] ≠ [] → (oneP L[k]).2 = false → ParAt L (k + 1) acc false) := by
  obtain ⟨h1, h2⟩ := h
  rw [List.drop_eq_getElem_cons hk] at h1 h2
  rw [goodL_cons] at h1
  rw [allL_cons] at h2
  refine ⟨fun e => ⟨?_, ?_⟩, fun e e2 => ⟨?_, ?_⟩, fun e e2 => ⟨?_, ?_⟩⟩
  · rw [if_pos e] at h1; exact h1
  · rw [e] at h2; exact h2
  · rw [if_neg e, if_pos e2] at h1; rw [← h1]; simp
  · rw [e2, Bool.or_true, Bool.true_and] at h2; exact h2
  · rw [if_neg e, if_neg (by rw [e2]; decide)] at h1; exact h1
  · have : L[k].isEmpty = false := by cases hh : L[k] with
      | nil => exact absurd hh e
      | cons a r => rfl
    rw [this, e2] at h2
    rw [← h2]; simp
theorem par_end {L : List (List El)} {k : Nat} {acc : List Adr} {b : Bool} (h : ParAt L k acc b) (hk : ¬ k < L.length) : acc = goodL L ∧ b = allL L := by
  obtain ⟨h1, h2⟩ := h
  rw [List.drop_eq_nil_of_le (by omega)] at h1 h2
  exact ⟨by rw [← h1]; exact (List.append_nil _).symm, by rw [← h2]; exact (Bool.and_true _).symm⟩
end Ad
namespace Ad
open Go Go.RowKit Pk Fo Tk

def idOk (i : List UInt8) : Bool := i.all fun c => !endI c
theorem ids_skip : ∀ (b r : List UInt8), (∀ c ∈ b, c ≠ 60) → idsL (b ++ r) = idsL r
  | [], _, _ => rfl
  | c :: b, r, h => by
    rw [List.cons_append, idsL, if_neg (h c (List.mem_cons_self ..))]
    exact ids_skip b r (fun d hd => h d (List.mem_cons_of_mem _ hd))
theorem find_id (i r : List UInt8) (h : idOk i = true) : (i ++ 62 :: r).findIdx endI = i.length := by
  induction i with
  | nil => rfl
  | cons c i ih =>
    unfold idOk at h
    rw [List.all_cons, Bool.and_eq_true] at h
    rw [List.cons_append, List.findIdx_cons]
    have hc : endI c = false := by simpa using h.1
    rw [hc, ih h.2]; rfl
theorem end_60 : endI 60 = true := rfl
theorem id_no (i : List UInt8) (h : idOk i = true) : ∀ c ∈ i, c ≠ 60 := fun c hc e => by
  have := List.all_eq_true.1 h c hc
  rw [e] at this
  revert this; decide
theorem ids_one (i r : List UInt8) (h : idOk i = true) (h1 : 1 ≤ i.length) (h2 : i.length ≤ 250) : idsL (60 :: (i ++ 62 :: r)) = i :: idsL r := by
  rw [idsL, if_pos rfl, ids_skip i _ (id_no i h)]
  have e : idsL (62 :: r) = idsL r := by rw [idsL, if_neg (by decide)]
  rw [e]
  unfold idAt
  simp only
  rw [find_id i r h, if_pos ⟨h1, h2, by simp⟩]
  simp
theorem ids_none (b : List UInt8) (h : ∀ c ∈ b, c ≠ 60) : idsL b = [] := by
  have := ids_skip b [] h
  rwa [List.append_nil] at this
/-- the string with the ids in it: from the k-th on -/
def idStr : List (List UInt8) → List (List UInt8) → List UInt8
  | i :: is, b :: bs => b ++ 60 :: (i ++ 62 :: idStr is bs)
  | [], b :: _ => b
  | _, [] => []
theorem ids_str : ∀ (is bs : List (List UInt8)), bs.length = is.length + 1 → (∀ b ∈ bs, ∀ c ∈ b, c ≠ 60) → (∀ i ∈ is, idOk i = true ∧ 1 ≤ i.length ∧ i.length ≤ 250) → idsL (idStr is bs) = is
  | [], [], h, _, _ => by simp at h
  | [], b :: bs, _, hb, _ => by
    rw [idStr]
    exact ids_none b (hb b (List.mem_cons_self ..))
  | i :: is, [], h, _, _ => by simp at h
  | i :: is, b :: bs, h, hb, hi => by
    obtain ⟨h1, h2, h3⟩ := hi i (List.mem_cons_self ..)
    rw [idStr, ids_skip b _ (hb b (List.mem_cons_self ..)), ids_one i _ h1 h2 h3]
    rw [ids_str is bs (by simpa using h) (fun x hx => hb x (List.mem_cons_of_mem _ hx)) (fun x hx => hi x (List.mem_cons_of_mem _ hx))]
/-- what stands before the last part -/
def idPre : List (List UInt8) → List (List UInt8) → List UInt8
  | i :: is, b :: bs => b ++ 60 :: (i ++ 62 :: idPre is bs)
  | _, _ => []
theorem pre_snoc : ∀ (is bs : List (List UInt8)) (i b : List UInt8), is.length = bs.length → idPre (is ++ [i]) (bs ++ [b]) = idPre is bs ++ (b ++ 60 :: (i ++ [62]))
  | [], [], i, b, _ => by simp [idPre]
  | [], _ :: _, _, _, h => by simp at h
  | _ :: _, [], _, _, h => by simp at h
  | j :: is, c :: bs, i, b, h => by
    rw [List.cons_append, List.cons_append, idPre, idPre, pre_snoc is bs i b (by simpa using h)]
    simp
theorem str_pre : ∀ (is bs : List (List UInt8)) (b : List UInt8), is.length = bs.length → idStr is (bs ++ [b]) = idPre is bs ++ b
  | [], [], b, _ => by simp [idPre, idStr]
  | [], _ :: _, _, h => by simp at h
  | _ :: _, [], _, h => by simp at h
  | j :: is, c :: bs, b, h => by
    rw [List.cons_append, idStr, idPre, str_pre is bs b (by simpa using h)]
    simp
end Ad
namespace Ad
open Go Pk U8

theorem cont_hi {l : List UInt8} {k : Nat} (h : cont l k = true) : k < l.length ∧ 128 ≤ at' l k := by
  unfold cont at h
  rw [Bool.and_eq_true, decide_eq_true_eq, beq_iff_eq] at h
  exact ⟨h.1, by omega⟩
theorem dec_hi {l : List UInt8} (hl : l ≠ []) (h : 128 ≤ at' l 0) : 128 ≤ (dec l).1 ∧ 1 ≤ (dec l).2 ∧ (dec l).2 ≤ l.length ∧ ∀ k, k < (dec l).2 → 128 ≤ at' l k := by
  have hlen : 1 ≤ l.length := by
    cases l with
    | nil => exact absurd rfl hl
    | cons a r => simp
  have h1 : 128 ≤ 65533 ∧ 1 ≤ 1 ∧ 1 ≤ l.length ∧ ∀ k, k < 1 → 128 ≤ at' l k := ⟨by omega, by omega, hlen, fun k hk => by rw [show k = 0 by omega]; exact h⟩
  unfold dec
  rw [if_neg (by omega)]
  split
  · rename_i hc
    rw [Bool.and_eq_true] at hc
    have c1 := cont_hi hc.2
    split
    · rename_i hd
      refine ⟨hd, by show 1 ≤ 2; omega, by show 2 ≤ _; omega, fun k hk => ?_⟩
      have hk : k < 2 := hk
      rcases (show k = 0 ∨ k = 1 by omega) with rfl | rfl
      · exact h
      · exact c1.2
    · exact h1
  · split
    · rename_i hc
      rw [Bool.and_eq_true, Bool.and_eq_true] at hc
      have c1 := cont_hi hc.1.2
      have c2 := cont_hi hc.2
      split
      · rename_i hd
        rw [Bool.and_eq_true, decide_eq_true_eq] at hd
        refine ⟨by have := hd.1; show 128 ≤ _; omega, by show 1 ≤ 3; omega, by show 3 ≤ _; omega, fun k hk => ?_⟩
        have hk : k < 3 := hk
        rcases (show k = 0 ∨ k = 1 ∨ k = 2 by omega) with rfl | rfl | rfl
        · exact h
        · exact c1.2
        · exact c2.2
      · exact h1
    · split
      · rename_i hc
        rw [Bool.and_eq_true, Bool.and_eq_true, Bool.and_eq_true] at hc
        have c1 := cont_hi hc.1.1.2
        have c2 := cont_hi hc.1.2
        have c3 := cont_hi hc.2
        split
        · rename_i hd
          rw [Bool.and_eq_true, decide_eq_true_eq] at hd
          refine ⟨by have := hd.1; show 128 ≤ _; omega, by show 1 ≤ 4; omega, by show 4 ≤ _; omega, fun k hk => ?_⟩
          have hk : k < 4 := hk
          rcases (show k = 0 ∨ k = 1 ∨ k = 2 ∨ k = 3 by omega) with rfl | rfl | rfl | rfl
          · exact h
          · exact c1.2
          · exact c2.2
          · exact c3.2
        · exact h1
      · exact h1
theorem find_app {q : UInt8 → Bool} : ∀ (a b : List UInt8), (∀ x ∈ a, q x = false) → (a ++ b).findIdx q = a.length + b.findIdx q
  | [], b, _ => by simp
  | x :: a, b, h => by
    rw [List.cons_append, List.findIdx_cons, h x List.mem_cons_self, find_app a b (fun y hy => h y (List.mem_cons_of_mem _ hy)), List.length_cons]
    show _ + 1 = _
    omega
theorem idx_bytes (p : Nat → Bool) (q : UInt8 → Bool) (hpq : ∀ c : UInt8, c.toNat < 128 → p c.toNat = q c) (hp : ∀ n, 128 ≤ n → p n = false) (hq : ∀ c : UInt8, 128 ≤ c.toNat → q c = false) (s : ByteArray) :
    ∀ (f pos : Nat), s.size - pos ≤ f → Lib.idxFuncFrom p true s f pos = if (tl s pos).findIdx q < (tl s pos).length then ((pos + (tl s pos).findIdx q : Nat) : Int) else -1
  | 0, pos, hf => by
    rw [tl_end s pos (by omega)]
    rfl
  | f + 1, pos, hf => by
    by_cases hlt : pos < s.size
    · unfold Lib.idxFuncFrom
      rw [if_pos hlt, dec_eq]
      have hne : tl s pos ≠ [] := by rw [tl_cons s pos hlt]; simp
      by_cases h8 : at' (tl s pos) 0 < 128
      · have hd : dec (tl s pos) = (at' (tl s pos) 0, 1) := by unfold dec; rw [if_pos h8]
        rw [hd]
        have ha : at' (tl s pos) 0 = s[pos].toNat := by rw [tl_cons s pos hlt]; rfl
        rw [ha] at h8 ⊢
        show (if p s[pos].toNat = true then _ else _) = _
        rw [hpq _ h8, idx_bytes p q hpq hp hq s f (pos + 1) (by omega), tl_cons s pos hlt, List.findIdx_cons]
        cases q s[pos] with
        | true => simp
        | false =>
          rw [if_neg (by decide)]
          show _ = if (tl s (pos + 1)).findIdx q + 1 < (tl s (pos + 1)).length + 1 then _ else _
          by_cases hl : (tl s (pos + 1)).findIdx q < (tl s (pos + 1)).length
          · rw [if_pos hl, if_pos (by omega)]
            show ((_ : Nat) : Int) = ((pos + ((tl s (pos + 1)).findIdx q + 1) : Nat) : Int)
            congr 1
            omega
          · rw [if_neg hl, if_neg (by omega)]
      · obtain ⟨d1, d2, d3, d4⟩ := dec_hi hne (by omega)
        generalize (dec (tl s pos)).1 = rr at *
        generalize (dec (tl s pos)).2 = ww at *
        rw [hp rr d1, if_neg (by decide), idx_bytes p q hpq hp hq s f (pos + ww) (by omega)]
        have e1 : tl s (pos + ww) = (tl s pos).drop ww := by unfold tl; rw [List.drop_drop]
        have e2 : (tl s pos).findIdx q = ww + ((tl s pos).drop ww).findIdx q := by
          have := find_app (q := q) ((tl s pos).take ww) ((tl s pos).drop ww) (fun x hx => by
            obtain ⟨k, hk, rfl⟩ := List.getElem_of_mem hx
            rw [List.length_take] at hk
            apply hq
            have := d4 k (by omega)
            unfold at' at this
            rw [List.getD_eq_getElem?_getD, List.getElem?_eq_getElem (by omega)] at this
            rw [List.getElem_take]
            exact this)
          rw [List.take_append_drop, List.length_take] at this
          rw [this]
          congr 1
          omega
        rw [e1, e2]
        have hdl : ((tl s pos).drop ww).length = (tl s pos).length - ww := List.length_drop
        by_cases hl : ((tl s pos).drop ww).findIdx q < ((tl s pos).drop ww).length
        · rw [if_pos hl, if_pos (by omega)]
          congr 1
          omega
        · rw [if_neg hl, if_neg (by omega)]
    · unfold Lib.idxFuncFrom
      rw [if_neg hlt, tl_end s pos (by omega)]
      rfl
/-- what ends a message id, by code points -/
def endR (n : Nat) : Bool := decide (n ≤ 32) || n == 127 || n == 60 || n == 62
theorem endR_I (c : UInt8) : endR c.toNat = endI c := by
  unfold endR endI
  have : ∀ d : UInt8, (c.toNat == d.toNat) = (c == d) := fun d => by
    by_cases h : c = d
    · rw [h, beq_self_eq_true, beq_self_eq_true]
    · rw [beq_eq_false_iff_ne.2 h, beq_eq_false_iff_ne.2 (fun e => h (UInt8.toNat_inj.1 e))]
  rw [← this 127, ← this 60, ← this 62]
  rfl
theorem idx_id (s : ByteArray) : Lib.idxFunc endR true s = if s.data.toList.findIdx endI < s.size then ((s.data.toList.findIdx endI : Nat) : Int) else -1 := by
  unfold Lib.idxFunc
  rw [idx_bytes endR endI (fun c _ => endR_I c) (fun n hn => by unfold endR; simp; omega) (fun c hc => by rw [← endR_I]; unfold endR; simp; omega) s s.size 0 (by omega), tl_zero, Nat.zero_add]
  rfl
end Ad
namespace Ad
open Go Go.RowKit Pk Fo Tk

def sumE (f : El → Nat) (l : List El) : Nat := (l.map f).sum
theorem sumE_cons (f : El → Nat) (t : El) (l : List El) : sumE f (t :: l) = f t + sumE f l := by unfold sumE; rw [List.map_cons, List.sum_cons]
theorem sumE_snoc (f : El → Nat) (t : El) (l : List El) : sumE f (l ++ [t]) = sumE f l + f t := by unfold sumE; simp
theorem pcs_sum (f : El → Nat) : ∀ (l cur : List El) (b : Bool) (L : List El), L ∈ pcs b cur l → sumE f L ≤ sumE f cur + sumE f l
  | [], cur, b, L, h => by
    have : L = cur := by cases b <;> simpa [pcs] using h
    rw [this]; exact Nat.le_add_right ..
  | t :: r, cur, true, L, h => by
    rw [pcs] at h
    have := pcs_sum f r _ _ L h
    rw [sumE_snoc] at this
    rw [sumE_cons]; omega
  | t :: r, cur, false, L, h => by
    rw [pcs] at h
    rw [sumE_cons]
    split at h
    · have := pcs_sum f r _ _ L h
      rw [sumE_snoc] at this
      omega
    · split at h
      · have := pcs_sum f r _ _ L h
        have e : sumE f [] = 0 := rfl
        rw [e] at this
        omega
      · split at h
        · rcases List.mem_cons.1 h with h | h
          · rw [h]; omega
          · have := pcs_sum f r _ _ L h
            have e : sumE f [] = 0 := rfl
            rw [e] at this
            omega
        · have := pcs_sum f r _ _ L h
          rw [sumE_snoc] at this
          omega
theorem bareE_sum (f : El → Nat) : ∀ l : List El, sumE f (bareE l) ≤ sumE f l
  | [] => Nat.le_refl _
  | t :: r => by
    have := bareE_sum f r
    rw [bareE_cons, sumE_cons]
    split
    · rw [sumE_cons]; omega
    · omega
theorem sum_text (l : List El) : sumE (fun t => t.text.size) l = (joinE l).length := by
  induction l with
  | nil => rfl
  | cons t r ih =>
    rw [sumE_cons, ih]
    unfold joinE
    rw [List.flatMap_cons, List.length_append]; rfl
theorem sum_one (l : List El) : sumE (fun _ => 1) l = l.length := by
  induction l with
  | nil => rfl
  | cons t r ih => rw [sumE_cons, ih, List.length_cons]; omega
theorem mem_sum (f : El → Nat) : ∀ (l : List El) (t : El), t ∈ l → f t ≤ sumE f l
  | a :: r, t, h => by
    rw [sumE_cons]
    rcases List.mem_cons.1 h with h | h
    · rw [h]; omega
    · have := mem_sum f r t h; omega
theorem vals_sum (g : ∀ t : El, (valE t).length ≤ t.text.size) (l : List El) : (vals l).length ≤ sumE (fun t => t.text.size) l := by
  induction l with
  | nil => exact Nat.le_refl _
  | cons t r ih =>
    have e : vals (t :: r) = valE t ++ vals r := by unfold vals; rw [List.flatMap_cons]
    have := g t
    rw [e, sumE_cons, List.length_append]; omega
theorem valE_leP (t : El) : (valE t).length ≤ t.text.size := by
  have hd : t.text.data.toList.length = t.text.size := rfl
  unfold valE valL
  split
  · have h1 := ue_length ((t.text.data.toList.drop 1).take (t.text.data.toList.length - 2)) false
    have h2 : ((t.text.data.toList.drop 1).take (t.text.data.toList.length - 2)).length ≤ t.text.data.toList.length := by rw [List.length_take, List.length_drop]; omega
    omega
  · omega
theorem piece_le {s : List UInt8} {L : List El} (h : L ∈ piecesL s) : L.length ≤ s.length ∧ (vals L).length ≤ s.length ∧ ∀ t ∈ L, t.text.size ≤ s.length := by
  have h1 := pcs_sum (fun _ => 1) _ _ _ L h
  have h2 := pcs_sum (fun t => t.text.size) _ _ _ L h
  have h3 := bareE_sum (fun _ => 1) (sc s)
  have h4 := bareE_sum (fun t => t.text.size) (sc s)
  have h5 := sc_length _ s (Nat.le_refl _)
  have h6 := join_sc _ s (Nat.le_refl _)
  have e1 : ([] : List El).length = 0 := rfl
  have e2 : sumE (fun t => t.text.size) [] = 0 := rfl
  have h7 := vals_sum valE_leP L
  simp only [sum_one] at h1 h3
  rw [sum_text (sc s), h6] at h4
  refine ⟨by omega, by omega, fun t ht => ?_⟩
  have := mem_sum (fun t => t.text.size) L t ht
  omega
theorem pieces_le {s : List UInt8} : (piecesL s).length ≤ s.length + 1 := by
  have h1 := pcs_len (bareE (sc s)) [] false
  have h2 : (bareE (sc s)).length ≤ (sc s).length := List.length_filter_le _ _
  have h5 := sc_length _ s (Nat.le_refl _)
  unfold piecesL
  omega
end Ad
namespace Ad
open Go Go.RowKit Pk Su Fo Tk

def El.of (k : Nat) (x : List UInt8) : El := ⟨k, ⟨x.toArray⟩⟩
theorem of_l (k : Nat) (x : List UInt8) : (El.of k x).text.data.toList = x := by simp [El.of]
theorem sc_front {k : Nat} {x b : List UInt8} (h : x ≠ []) (hf : fr (x ++ b) = (k, x.length)) : sc (x ++ b) = El.of k x :: sc b := by
  have hne : x ++ b ≠ [] := fun e => h (List.append_eq_nil_iff.1 e).1
  have ht : tok (x ++ b) = El.of k x := by
    unfold tok El.of
    rw [hf, List.take_left]
  rw [sc_cons hne, hf, ht, List.drop_left]
/-- the next byte is no byte of an atom -/
def NA (b : List UInt8) : Prop := ∀ c r, b = c :: r → atm c = false
theorem NA.nil : NA [] := fun c r h => by cases h
theorem NA.cons {c : UInt8} {r : List UInt8} (h : atm c = false) : NA (c :: r) := fun c' r' e => by injection e with e1 e2; rw [← e1]; exact h
theorem tw_all (p : UInt8 → Bool) : ∀ (w b : List UInt8), w.all p = true → (∀ c r, b = c :: r → p c = false) → (w ++ b).takeWhile p = w
  | [], b, _, hb => by
    cases b with
    | nil => rfl
    | cons c r => rw [List.nil_append, List.takeWhile_cons, if_neg (by rw [hb c r rfl]; decide)]
  | c :: w, b, h, hb => by
    rw [List.all_cons, Bool.and_eq_true] at h
    rw [List.cons_append, List.takeWhile_cons, if_pos h.1, tw_all p w b h.2 hb]
theorem wordOk_ne {w : List UInt8} (h : wordOk w = true) : ∃ c r, w = c :: r ∧ atm c = true ∧ w.all atm = true := by
  unfold wordOk at h
  rw [Bool.and_eq_true] at h
  cases w with
  | nil => simp at h
  | cons c r =>
    have := h.2
    rw [List.all_cons, Bool.and_eq_true] at this
    exact ⟨c, r, rfl, this.1, h.2⟩
theorem sc_word {w b : List UInt8} (h : wordOk w = true) (hb : NA b) : sc (w ++ b) = El.of 1 w :: sc b := by
  obtain ⟨c, r, rfl, h1, h2⟩ := wordOk_ne h
  refine sc_front (by simp) ?_
  have := tw_all atm (c :: r) b h2 hb
  rw [List.cons_append] at this ⊢
  rw [fr_atoms h1, this]
theorem sc_spec {c : UInt8} {b : List UInt8} (h0 : blk c = false) (h1 : c ≠ 40) (h2 : c ≠ 34) (h3 : c ≠ 91) (h4 : spec c = true) : sc (c :: b) = El.of 4 [c] :: sc b := by
  have : sc ([c] ++ b) = El.of 4 [c] :: sc b := sc_front (by simp) (by
    show fr (c :: b) = _
    rw [fr_cons, if_neg (by rw [h0]; decide), if_neg h1, if_neg h2, if_neg h3, if_pos h4]; rfl)
  exact this
theorem sc_quo (s b : List UInt8) : sc (34 :: (repL s ++ 34 :: b)) = El.of 2 (34 :: (repL s ++ [34])) :: sc b := by
  have : sc ((34 :: (repL s ++ [34])) ++ b) = El.of 2 (34 :: (repL s ++ [34])) :: sc b := sc_front (by simp) (by
    have hc := clo_app (clo_rep s) b
    rw [List.cons_append, fr_cons, if_neg (by decide), if_neg (by decide), if_pos rfl, cls_some hc]
    simp)
  rw [← this]; simp
theorem clo_lit : ∀ (x b : List UInt8), (∀ c ∈ x, c ≠ 91 ∧ c ≠ 93 ∧ c ≠ 92) → clo 93 1 (x ++ 93 :: b) = some (x.length + 1)
  | [], b, _ => by rw [List.nil_append, clo_cons, if_neg (by decide), if_pos rfl, if_pos rfl]; rfl
  | c :: x, b, h => by
    obtain ⟨h1, h2, h3⟩ := h c (List.mem_cons_self ..)
    rw [List.cons_append, clo_cons, if_neg h3, if_neg h2, if_neg (fun e => by cases e.2), clo_lit x b (fun d hd => h d (List.mem_cons_of_mem _ hd))]; rfl
theorem sc_lit (x b : List UInt8) (h : ∀ c ∈ x, c ≠ 91 ∧ c ≠ 93 ∧ c ≠ 92) : sc (91 :: (x ++ 93 :: b)) = El.of 5 (91 :: (x ++ [93])) :: sc b := by
  have : sc ((91 :: (x ++ [93])) ++ b) = El.of 5 (91 :: (x ++ [93])) :: sc b := sc_front (by simp) (by
    have hc := clo_lit x b h
    have e : (91 :: (x ++ [93])) ++ b = 91 :: (x ++ 93 :: b) := by simp
    rw [e, fr_cons, if_neg (by decide), if_neg (by decide), if_neg (by decide), if_pos rfl, cls_some hc]
    simp)
  rw [← this]; simp
/-- white space counts for nothing -/
theorem tw_drop (p : UInt8 → Bool) : ∀ l : List UInt8, l.drop (l.takeWhile p).length = l.dropWhile p
  | [] => rfl
  | c :: r => by
    by_cases h : p c = true
    · rw [List.takeWhile_cons, if_pos h, List.dropWhile_cons, if_pos h, List.length_cons, List.drop_succ_cons, tw_drop p r]
    · rw [List.takeWhile_cons, if_neg h, List.dropWhile_cons, if_neg h]; rfl
theorem bare_dw (l : List UInt8) : bareE (sc l) = bareE (sc (l.dropWhile blk)) := by
  cases l with
  | nil => rfl
  | cons c r =>
    by_cases h : blk c = true
    · have hf : fr (c :: r) = (6, ((c :: r).takeWhile blk).length) := by rw [fr_cons, if_pos h]
      rw [sc_cons (by simp), hf, tw_drop, bareE_cons]
      have hk : (tok (c :: r)).kind = 6 := by unfold tok; rw [hf]
      rw [hk]; rfl
    · rw [List.dropWhile_cons, if_neg h]
theorem bare_blk {c : UInt8} (h : blk c = true) (r : List UInt8) : bareE (sc (c :: r)) = bareE (sc r) := by
  rw [bare_dw, List.dropWhile_cons, if_pos h, ← bare_dw]
/-- words with one byte between them -/
def joinC (c : UInt8) : List (List UInt8) → List UInt8
  | [] => []
  | [w] => w
  | w :: x :: r => w ++ c :: joinC c (x :: r)
theorem joinC_cons (c b : UInt8) (h : List UInt8) (t : List (List UInt8)) : joinC c ((b :: h) :: t) = b :: joinC c (h :: t) := by
  cases t <;> rfl
theorem join_spl (c : UInt8) : ∀ l, joinC c (spl c l) = l
  | [] => rfl
  | b :: r => by
    have ih := join_spl c r
    unfold spl
    by_cases h : b = c
    · rw [if_pos h]
      cases hs : spl c r with
      | nil => exact absurd hs (spl_ne c r)
      | cons x t => rw [hs] at ih; rw [joinC, ih, h]; rfl
    · rw [if_neg h]
      cases hs : spl c r with
      | nil => exact absurd hs (spl_ne c r)
      | cons x t => rw [hs] at ih; rw [joinC_cons, ih]
/-- the tokens of a dot-atom -/
def dotT : List (List UInt8) → List El
  | [] => []
  | [w] => [El.of 1 w]
  | w :: x :: r => El.of 1 w :: El.of 4 [46] :: dotT (x :: r)
theorem sc_dot : ∀ (L : List (List UInt8)) (b : List UInt8), L ≠ [] → L.all wordOk = true → NA b → sc (joinC 46 L ++ b) = dotT L ++ sc b
  | [], _, h, _, _ => absurd rfl h
  | [w], b, _, h, hb => by
    rw [List.all_cons, Bool.and_eq_true] at h
    exact sc_word h.1 hb
  | w :: x :: r, b, _, h, hb => by
    rw [List.all_cons, Bool.and_eq_true] at h
    have e : joinC 46 (w :: x :: r) ++ b = w ++ 46 :: (joinC 46 (x :: r) ++ b) := by rw [joinC]; simp
    rw [e, sc_word h.1 (NA.cons (by decide)), sc_spec (by decide) (by decide) (by decide) (by decide) (by decide), sc_dot (x :: r) b (by simp) h.2 hb]
    rfl
theorem val1 (w : List UInt8) : valE (El.of 1 w) = w := by
  unfold valE valL
  rw [if_neg (fun h => by rcases h.1 with h | h <;> cases h), of_l]
theorem val4 (w : List UInt8) : valE (El.of 4 w) = w := by
  unfold valE valL
  rw [if_neg (fun h => by rcases h.1 with h | h <;> cases h), of_l]
theorem val2 (s : List UInt8) : valE (El.of 2 (34 :: (repL s ++ [34]))) = s := by
  unfold valE
  rw [of_l]
  unfold valL
  have hl : (34 :: (repL s ++ [34])).length = (repL s).length + 2 := by simp
  rw [if_pos ⟨.inl rfl, by omega⟩, hl]
  have : ((34 :: (repL s ++ [34])).drop 1).take ((repL s).length + 2 - 2) = repL s := by
    rw [List.drop_succ_cons, List.drop_zero, Nat.add_sub_cancel]
    exact List.take_left
  rw [this, ue_rep]
theorem row_dot (o : Nat) : ∀ L : List (List UInt8), L ≠ [] → rowOk 1 o true (dotT L) = true ∧ vals (dotT L) = joinC 46 L ∧ (dotT L).length % 2 = 1
  | [], h => absurd rfl h
  | [w], _ => by
    refine ⟨rfl, ?_, rfl⟩
    unfold dotT vals joinC
    rw [List.flatMap_cons, val1]; simp
  | w :: x :: r, _ => by
    obtain ⟨h1, h2, h3⟩ := row_dot o (x :: r) (by simp)
    refine ⟨?_, ?_, ?_⟩
    · rw [dotT, rowOk, rowOk, h1]
      rfl
    · rw [dotT]
      unfold vals at *
      rw [List.flatMap_cons, List.flatMap_cons, h2, val1, val4, joinC]; rfl
    · rw [dotT, List.length_cons, List.length_cons]; omega
theorem rowP_dot (o : Nat) {L : List (List UInt8)} (h : L ≠ []) : rowP 1 o (dotT L) = (joinC 46 L, true) := by
  obtain ⟨h1, h2, h3⟩ := row_dot o L h
  unfold rowP
  rw [if_pos h1, h2, h3]; rfl
/-- none of these bytes is a special of its own here -/
def neut (F : UInt8 → Bool) (l : List El) : Bool := l.all fun t => !(t.kind == 4) || (match t.text.data.toList with | [c] => F c | _ => true)
theorem neut_is {F : UInt8 → Bool} {l : List El} (h : neut F l = true) {b : UInt8} (hb : F b = false) : ∀ t ∈ l, isT b t = false := fun t ht => by
  have := List.all_eq_true.1 h t ht
  unfold isT
  cases hk : (t.kind == 4) with
  | false => rfl
  | true =>
    rw [hk] at this
    rw [Bool.true_and]
    cases he : (t.text.data.toList == [b]) with
    | false => rfl
    | true =>
      have e : t.text.data.toList = [b] := by simpa using he
      rw [e] at this
      simp [hb] at this
theorem neut_app (F : UInt8 → Bool) (a b : List El) : neut F (a ++ b) = (neut F a && neut F b) := List.all_append ..
theorem neut_dot : ∀ L : List (List UInt8), neut (fun c => c == 46) (dotT L) = true
  | [] => rfl
  | [w] => rfl
  | w :: x :: r => by
    have := neut_dot (x :: r)
    unfold neut at *
    rw [dotT, List.all_cons, List.all_cons, this]; rfl
theorem ix_front {b : UInt8} {X Y : List El} {t : El} (h : ∀ x ∈ X, isT b x = false) (ht : isT b t = true) : ixT b (X ++ t :: Y) = X.length := by
  unfold ixT
  induction X with
  | nil => rw [List.nil_append, List.findIdx_cons, ht]; rfl
  | cons x X ih =>
    rw [List.cons_append, List.findIdx_cons, h x (List.mem_cons_self ..), ih (fun y hy => h y (List.mem_cons_of_mem _ hy))]; rfl
theorem ix_none {b : UInt8} {X : List El} (h : ∀ x ∈ X, isT b x = false) : ixT b X = X.length := by
  unfold ixT
  exact List.findIdx_eq_length.2 h
/-! one address -/
def locT (l : List UInt8) : List El := if dotted l = true then dotT (spl 46 l) else [El.of 2 (34 :: (repL l ++ [34]))]
def domT (d : List UInt8) : List El := if dotted d = true then dotT (spl 46 d) else [El.of 5 d]
theorem esc_same {c : UInt8} (h : 32 ≤ c.toNat) : escA c = esc c := by
  unfold escA esc
  have h10 : c ≠ 10 := fun e => by rw [e] at h; exact absurd h (by decide)
  have h13 : c ≠ 13 := fun e => by rw [e] at h; exact absurd h (by decide)
  by_cases h1 : c = 34 ∨ c = 92
  · rw [if_pos h1, if_pos (by rcases h1 with h1 | h1; exact .inr (.inl h1); exact .inl h1)]
  · rw [if_neg h1, if_neg (fun x => by rcases x with x | x | x | x; exact h1 (.inr x); exact h1 (.inl x); exact h10 x; exact h13 x)]
theorem esc_all {l : List UInt8} (h : plainA 32 l = true) : l.flatMap escA = repL l := by
  unfold plainA at h
  unfold repL
  induction l with
  | nil => rfl
  | cons c r ih =>
    rw [List.all_cons, Bool.and_eq_true, Bool.and_eq_true] at h
    rw [List.flatMap_cons, List.flatMap_cons, ih h.2, esc_same (of_decide_eq_true h.1.1)]
theorem plainA_app (k : Nat) (a b : List UInt8) : plainA k (a ++ b) = (plainA k a && plainA k b) := List.all_append ..
theorem sc_loc {l b : List UInt8} (h : plainA 32 l = true) (hb : NA b) : sc (locW l ++ b) = locT l ++ sc b := by
  unfold locW locT
  by_cases hd : dotted l = true
  · rw [if_pos hd, if_pos hd]
    have := sc_dot (spl 46 l) b (spl_ne 46 l) hd hb
    rw [join_spl] at this
    exact this
  · rw [if_neg hd, if_neg hd, esc_all h]
    have := sc_quo l b
    rw [← List.singleton_append (l := sc b), ← List.cons_append] at this
    rw [← List.singleton_append] at this ⊢
    simpa using this
theorem domOk_form {d : List UInt8} (h : domOk d = true) (hd : ¬ dotted d = true) : ∃ x, d = 91 :: (x ++ [93]) ∧ plainA 33 x = true ∧ ∀ c ∈ x, c ≠ 91 ∧ c ≠ 93 ∧ c ≠ 92 := by
  unfold domOk at h
  split at h
  · rename_i r
    split at h
    · rename_i hl
      rw [Bool.and_eq_true] at h
      obtain ⟨h1, h2⟩ := h
      have hne : r ≠ [] := fun e => by rw [e] at hl; cases hl
      have e : r.dropLast ++ [93] = r := by
        have := List.dropLast_concat_getLast hne
        rw [List.getLast?_eq_some_getLast hne] at hl
        injection hl with hl
        rw [hl] at this
        exact this
      refine ⟨r.dropLast, by rw [e], h1, fun c hc => ?_⟩
      have h2 : (r.dropLast.any fun c => c == 91 || c == 93 || c == 92) = false := by simpa using h2
      have := List.any_eq_false.1 h2 c hc
      simp at this
      exact ⟨this.1.1, this.1.2, this.2⟩
    · cases h
  · exact absurd h hd
theorem bare_id {l : List UInt8} (h : ∀ c ∈ l, blankA c = false) : bareS l = l := by
  unfold bareS
  exact List.filter_eq_self.2 (fun c hc => by rw [h c hc]; rfl)
theorem blank_no {c : UInt8} (h : 33 ≤ c.toNat) : blankA c = false := by
  have : ∀ d : UInt8, d.toNat < 33 → c ≠ d := fun d hd e => by rw [e] at h; omega
  unfold blankA
  rw [beq_eq_false_iff_ne.2 (this 9 (by decide)), beq_eq_false_iff_ne.2 (this 10 (by decide)), beq_eq_false_iff_ne.2 (this 13 (by decide)), beq_eq_false_iff_ne.2 (this 32 (by decide))]; rfl
theorem domP_one (t : El) : domP [t] = if t.kind = 5 then (bareS t.text.data.toList, true) else rowP 1 1 [t] := rfl
theorem sc_dom {d b : List UInt8} (h : domOk d = true) (hb : NA b) : sc (d ++ b) = domT d ++ sc b ∧ domP (domT d) = (d, true) := by
  unfold domT
  by_cases hd : dotted d = true
  · rw [if_pos hd]
    have h1 := sc_dot (spl 46 d) b (spl_ne 46 d) hd hb
    have h2 := rowP_dot 1 (spl_ne 46 d)
    rw [join_spl] at h1 h2
    refine ⟨h1, ?_⟩
    rw [← h2]
    cases hs : spl 46 d with
    | nil => exact absurd hs (spl_ne 46 d)
    | cons w t =>
      cases t with
      | nil =>
        show (if (El.of 1 w).kind = 5 then (bareS (El.of 1 w).text.data.toList, true) else rowP 1 1 [El.of 1 w]) = rowP 1 1 [El.of 1 w]
        exact if_neg (fun h : (1 : Nat) = 5 => by cases h)
      | cons x r => rfl
  · rw [if_neg hd]
    obtain ⟨x, rfl, hp, hx⟩ := domOk_form h hd
    have h1 := sc_lit x b hx
    refine ⟨by rw [show 91 :: (x ++ [93]) ++ b = 91 :: (x ++ 93 :: b) by simp, h1]; rfl, ?_⟩
    show domP [El.of 5 (91 :: (x ++ [93]))] = _
    rw [domP_one, if_pos (show (El.of 5 (91 :: (x ++ [93]))).kind = 5 from rfl), of_l, bare_id]
    intro c hc
    rcases List.mem_cons.1 hc with hc | hc
    · rw [hc]; rfl
    · rcases List.mem_append.1 hc with hc | hc
      · have := List.all_eq_true.1 hp c hc
        rw [Bool.and_eq_true] at this
        exact blank_no (of_decide_eq_true this.1)
      · rw [List.mem_singleton.1 hc]; rfl
theorem rowP_loc (l : List UInt8) : rowP 1 2 (locT l) = (l, true) := by
  unfold locT
  by_cases hd : dotted l = true
  · rw [if_pos hd, rowP_dot 2 (spl_ne 46 l), join_spl]
  · rw [if_neg hd]
    unfold rowP
    have h1 : rowOk 1 2 true [El.of 2 (34 :: (repL l ++ [34]))] = true := rfl
    rw [if_pos h1]
    unfold vals
    rw [List.flatMap_cons, val2]; simp
theorem loc_neut (l : List UInt8) : neut (fun c => c == 46) (locT l) = true := by
  unfold locT
  split
  · exact neut_dot _
  · rfl
theorem dom_neut (l : List UInt8) : neut (fun c => c == 46) (domT l) = true := by
  unfold domT
  split
  · exact neut_dot _
  · rfl
theorem loc_head (l : List UInt8) : ∃ t r, locT l = t :: r ∧ isT 64 t = false := by
  unfold locT
  split
  · cases hs : spl 46 l with
    | nil => exact absurd hs (spl_ne 46 l)
    | cons w t => cases t <;> exact ⟨_, _, rfl, rfl⟩
  · exact ⟨_, _, rfl, rfl⟩
def spcT (a : Adr) : List El := locT a.loc ++ El.of 4 [64] :: domT a.dom
theorem specP_spc {a : Adr} (h : domOk a.dom = true) : specP (spcT a) = (⟨[], a.loc, a.dom⟩, true) := by
  have hi : ixT 64 (spcT a) = (locT a.loc).length := ix_front (neut_is (loc_neut a.loc) (by decide)) (by rfl)
  unfold specP
  rw [hi, if_pos (by unfold spcT; rw [List.length_append, List.length_cons]; omega)]
  have e1 : (spcT a).take (locT a.loc).length = locT a.loc := List.take_left
  have e2 : (spcT a).drop ((locT a.loc).length + 1) = domT a.dom := by
    unfold spcT
    rw [← List.drop_drop, List.drop_left]; rfl
  rw [e1, e2, rowP_loc, (sc_dom h NA.nil).2]; rfl
theorem spc_neut (a : Adr) : neut (fun c => c == 46 || c == 64) (spcT a) = true := by
  have mono : ∀ l, neut (fun c => c == 46) l = true → neut (fun c => c == 46 || c == 64) l = true := fun l h => by
    unfold neut at *
    rw [List.all_eq_true] at *
    intro t ht
    have := h t ht
    revert this
    cases (t.kind == 4) with
    | false => intro _; rfl
    | true =>
      rw [Bool.not_true, Bool.false_or, Bool.false_or]
      split
      · rename_i c hq
        intro hh
        have hh : (c == 46) = true := hh
        show (c == 46 || c == 64) = true
        rw [hh]; rfl
      · intro _; rfl
  unfold spcT
  rw [neut_app, mono _ (loc_neut _), Bool.true_and]
  have := mono _ (dom_neut a.dom)
  unfold neut at *
  rw [List.all_cons, this]; rfl
theorem sc_spc {a : Adr} {b : List UInt8} (hl : plainA 32 a.loc = true) (hd : domOk a.dom = true) (hb : NA b) : sc (specW a ++ b) = spcT a ++ sc b := by
  unfold specW spcT
  rw [List.append_assoc, List.cons_append, sc_loc hl (NA.cons (by decide)), sc_spec (by decide) (by decide) (by decide) (by decide) (by decide), (sc_dom hd hb).1]
  simp
/-! the name -/
def namT (n : List UInt8) : List El := if plainQ n = true then (spl 32 n).map (El.of 1) else [El.of 2 (quoteL n)]
theorem sc_sp : ∀ (L : List (List UInt8)) (b : List UInt8), L ≠ [] → L.all wordOk = true → NA b → bareE (sc (joinC 32 L ++ b)) = L.map (El.of 1) ++ bareE (sc b)
  | [], _, h, _, _ => absurd rfl h
  | [w], b, _, h, hb => by
    rw [List.all_cons, Bool.and_eq_true] at h
    have := sc_word h.1 hb
    rw [joinC, this, bareE_cons]; rfl
  | w :: x :: r, b, _, h, hb => by
    rw [List.all_cons, Bool.and_eq_true] at h
    have e : joinC 32 (w :: x :: r) ++ b = w ++ 32 :: (joinC 32 (x :: r) ++ b) := by rw [joinC]; simp
    rw [e, sc_word h.1 (NA.cons (by decide)), bareE_cons]
    show El.of 1 w :: bareE (sc (32 :: (joinC 32 (x :: r) ++ b))) = _
    rw [bare_blk (by decide), sc_sp (x :: r) b (by simp) h.2 hb]; rfl
theorem sc_nam {n b : List UInt8} (hb : NA b) : bareE (sc (quoteL n ++ b)) = namT n ++ bareE (sc b) := by
  unfold namT
  by_cases hp : plainQ n = true
  · rw [if_pos hp]
    have hq : quoteL n = n := by unfold quoteL; rw [if_pos hp]
    rw [hq]
    have := sc_sp (spl 32 n) b (spl_ne 32 n) (by rw [← plainQ_spl]; exact hp) hb
    rw [join_spl] at this
    exact this
  · rw [if_neg hp]
    have hq : quoteL n = 34 :: (repL n ++ [34]) := by unfold quoteL; rw [if_neg hp]; rfl
    rw [hq, show 34 :: (repL n ++ [34]) ++ b = 34 :: (repL n ++ 34 :: b) by simp, sc_quo, bareE_cons]; rfl
theorem nam_words : ∀ (L : List (List UInt8)), namOk (L.map (El.of 1)) = true ∧ (L ≠ [] → namL true (L.map (El.of 1)) = joinC 32 L) ∧ (L ≠ [] → namL false (L.map (El.of 1)) = 32 :: joinC 32 L)
  | [] => ⟨rfl, fun h => absurd rfl h, fun h => absurd rfl h⟩
  | [w] => by
    refine ⟨rfl, fun _ => ?_, fun _ => ?_⟩
    · show (if true = true ∨ isT 46 (El.of 1 w) = true then valE (El.of 1 w) else _) ++ namL false [] = _
      rw [if_pos (.inl rfl), val1]; simp [namL, joinC]
    · show (if false = true ∨ isT 46 (El.of 1 w) = true then _ else 32 :: valE (El.of 1 w)) ++ namL false [] = _
      rw [if_neg (fun h => by rcases h with h | h <;> cases h), val1]; simp [namL, joinC]
  | w :: x :: r => by
    obtain ⟨h1, h2, h3⟩ := nam_words (x :: r)
    refine ⟨?_, fun _ => ?_, fun _ => ?_⟩
    · unfold namOk at *
      rw [List.map_cons, List.all_cons, h1]; rfl
    · rw [List.map_cons, namL, h3 (by simp), if_pos (.inl rfl), val1, joinC]
    · rw [List.map_cons, namL, h3 (by simp), if_neg (fun h => by rcases h with h | h <;> cases h), val1, joinC]; rfl
theorem namP_nam (n : List UInt8) : namP (namT n) = (n, true) := by
  unfold namT
  by_cases hp : plainQ n = true
  · rw [if_pos hp]
    obtain ⟨h1, h2, -⟩ := nam_words (spl 32 n)
    unfold namP
    rw [if_pos h1, h2 (spl_ne 32 n), join_spl]
  · rw [if_neg hp]
    have hq : quoteL n = 34 :: (repL n ++ [34]) := by unfold quoteL; rw [if_neg hp]; rfl
    rw [hq]
    unfold namP
    rw [if_pos (by rfl)]
    show ((if true = true ∨ _ then valE (El.of 2 (34 :: (repL n ++ [34]))) else _) ++ namL false [], true) = _
    rw [if_pos (.inl rfl), val2]; simp [namL]
theorem nam_neut (n : List UInt8) : neut (fun _ => false) (namT n) = true := by
  unfold namT
  split
  · unfold neut
    rw [List.all_eq_true]
    intro t ht
    obtain ⟨w, -, rfl⟩ := List.mem_map.1 ht
    rfl
  · rfl
/-! the whole address -/
def adrT (a : Adr) : List El := if a.name = [] then spcT a else namT a.name ++ El.of 4 [60] :: (spcT a ++ [El.of 4 [62]])
theorem bare_app (a b : List El) : bareE (a ++ b) = bareE a ++ bareE b := List.filter_append ..
theorem bare_dot : ∀ L : List (List UInt8), bareE (dotT L) = dotT L
  | [] => rfl
  | [w] => rfl
  | w :: x :: r => by
    have := bare_dot (x :: r)
    rw [dotT, bareE_cons, if_pos (by rfl), bareE_cons, if_pos (by rfl), this]
theorem bare_spc (a : Adr) : bareE (spcT a) = spcT a := by
  have h1 : bareE (locT a.loc) = locT a.loc := by
    unfold locT
    split
    · exact bare_dot _
    · rfl
  have h2 : bareE (domT a.dom) = domT a.dom := by
    unfold domT
    split
    · exact bare_dot _
    · rfl
  unfold spcT
  rw [bare_app, h1, bareE_cons, if_pos (by rfl), h2]
theorem right_parts {a : Adr} (h : rightA a = true) : plainA 32 a.loc = true ∧ plainA 32 a.name = true ∧ domOk a.dom = true := by
  unfold rightA at h
  simp only [Bool.and_eq_true] at h
  obtain ⟨-, -, -, -, h5, h6⟩ := h
  rw [plainA_app, Bool.and_eq_true] at h5
  exact ⟨h5.1, h5.2, h6⟩
theorem sc_adr {a : Adr} (h : rightA a = true) {b : List UInt8} (hb : NA b) : bareE (sc (writeA a ++ b)) = adrT a ++ bareE (sc b) := by
  obtain ⟨h1, -, h3⟩ := right_parts h
  unfold writeA adrT
  by_cases hn : a.name = []
  · rw [if_pos hn, if_pos hn, sc_spc h1 h3 hb, bare_app, bare_spc]
  · rw [if_neg hn, if_neg hn]
    have e : quoteL a.name ++ 32 :: 60 :: (specW a ++ [62]) ++ b = quoteL a.name ++ 32 :: 60 :: (specW a ++ 62 :: b) := by simp
    rw [e, sc_nam (NA.cons (by decide)), bare_blk (by decide), sc_spec (by decide) (by decide) (by decide) (by decide) (by decide), sc_spc h1 h3 (NA.cons (by decide)), sc_spec (by decide) (by decide) (by decide) (by decide) (by decide), bareE_cons, if_pos (by rfl), bare_app, bare_spc, bareE_cons, if_pos (by rfl)]
    simp
theorem oneP_adr {a : Adr} (h : rightA a = true) : oneP (adrT a) = (a, true) ∧ adrT a ≠ [] := by
  obtain ⟨-, -, h3⟩ := right_parts h
  have hs := specP_spc h3
  have hsn : ∀ {b : UInt8}, (b == 46 || b == 64) = false → ∀ t ∈ spcT a, isT b t = false := fun hb => neut_is (spc_neut a) hb
  obtain ⟨t, r, ht, h64⟩ := loc_head a.loc
  have hsp : spcT a = t :: (r ++ El.of 4 [64] :: domT a.dom) := by unfold spcT; rw [ht]; rfl
  unfold adrT
  by_cases hn : a.name = []
  · rw [if_pos hn]
    refine ⟨?_, by rw [hsp]; simp⟩
    unfold oneP
    rw [ix_none (hsn (b := 60) (by decide)), if_neg (Nat.lt_irrefl _), hs]
    obtain ⟨n, l, d⟩ := a
    have hn : n = [] := hn
    rw [hn]
  · rw [if_neg hn]
    refine ⟨?_, by simp⟩
    have hi : ixT 60 (namT a.name ++ El.of 4 [60] :: (spcT a ++ [El.of 4 [62]])) = (namT a.name).length := ix_front (neut_is (nam_neut a.name) rfl) (by rfl)
    have e1 : (namT a.name ++ El.of 4 [60] :: (spcT a ++ [El.of 4 [62]])).take (namT a.name).length = namT a.name := List.take_left
    have e2 : (namT a.name ++ El.of 4 [60] :: (spcT a ++ [El.of 4 [62]])).drop ((namT a.name).length + 1) = spcT a ++ [El.of 4 [62]] := by
      rw [← List.drop_drop, List.drop_left]; rfl
    have hj : ixT 62 (spcT a ++ [El.of 4 [62]]) = (spcT a).length := ix_front (hsn (by decide)) (by rfl)
    unfold oneP
    rw [hi, if_pos (by rw [List.length_append, List.length_cons]; omega), e1, e2, hj, namP_nam, if_pos ⟨rfl, by simp⟩, List.take_left]
    have hr : routeL (spcT a) = spcT a := by
      rw [hsp]
      show (if isT 64 t = true then _ else _) = _
      rw [if_neg (by rw [h64]; decide)]
    show (Adr.mk a.name (specP (routeL (spcT a))).1.loc (specP (routeL (spcT a))).1.dom, (specP (routeL (spcT a))).2) = _
    rw [hr, hs]
/-! the list -/
theorem pcs_neut : ∀ (T cur r : List El), (∀ t ∈ T, isT 60 t = false ∧ isT 58 t = false ∧ isT 44 t = false ∧ isT 59 t = false) → pcs false cur (T ++ r) = pcs false (cur ++ T) r
  | [], cur, r, _ => by simp
  | t :: T, cur, r, h => by
    obtain ⟨h1, h2, h3, h4⟩ := h t (List.mem_cons_self ..)
    rw [List.cons_append, pcs, if_neg (by rw [h1]; decide), if_neg (by rw [h2]; decide), if_neg (by rw [h3, h4]; decide), pcs_neut T _ r (fun x hx => h x (List.mem_cons_of_mem _ hx))]
    simp
theorem pcs_in : ∀ (T cur r : List El), (∀ t ∈ T, isT 62 t = false) → pcs true cur (T ++ r) = pcs true (cur ++ T) r
  | [], cur, r, _ => by simp
  | t :: T, cur, r, h => by
    rw [List.cons_append, pcs, h t (List.mem_cons_self ..), Bool.not_false, pcs_in T _ r (fun x hx => h x (List.mem_cons_of_mem _ hx))]
    simp
theorem pcs_adr (a : Adr) (r : List El) : pcs false [] (adrT a ++ r) = pcs false (adrT a) r := by
  have hsn : ∀ {b : UInt8}, (b == 46 || b == 64) = false → ∀ t ∈ spcT a, isT b t = false := fun hb => neut_is (spc_neut a) hb
  unfold adrT
  by_cases hn : a.name = []
  · rw [if_pos hn, pcs_neut _ _ _ (fun t ht => ⟨hsn (b := 60) (by decide) t ht, hsn (b := 58) (by decide) t ht, hsn (b := 44) (by decide) t ht, hsn (b := 59) (by decide) t ht⟩)]; rfl
  · rw [if_neg hn]
    have hnn : ∀ {b : UInt8}, true = true → ∀ t ∈ namT a.name, isT b t = false := fun _ => neut_is (nam_neut a.name) rfl
    have e : namT a.name ++ El.of 4 [60] :: (spcT a ++ [El.of 4 [62]]) ++ r = namT a.name ++ (El.of 4 [60] :: (spcT a ++ (El.of 4 [62] :: r))) := by simp
    rw [e, pcs_neut _ _ _ (fun t ht => ⟨hnn (b := 60) rfl t ht, hnn (b := 58) rfl t ht, hnn (b := 44) rfl t ht, hnn (b := 59) rfl t ht⟩), pcs, if_pos (by rfl), pcs_in _ _ _ (hsn (by decide)), pcs]
    have : isT 62 (El.of 4 [62]) = true := rfl
    rw [this]
    simp
theorem pieces_lst : ∀ (l : List Adr), l ≠ [] → (∀ a ∈ l, rightA a = true) → pcs false [] (bareE (sc (writeLst l))) = l.map adrT
  | [], h, _ => absurd rfl h
  | [a], _, h => by
    have := sc_adr (h a (List.mem_cons_self ..)) NA.nil
    rw [List.append_nil, sc_nil] at this
    show pcs false [] (bareE (sc (writeA a))) = _
    rw [this, pcs_adr]; rfl
  | a :: b :: r, _, h => by
    have ih := pieces_lst (b :: r) (by simp) (fun x hx => h x (List.mem_cons_of_mem _ hx))
    have e : writeLst (a :: b :: r) = writeA a ++ 44 :: 32 :: writeLst (b :: r) := rfl
    rw [e, sc_adr (h a (List.mem_cons_self ..)) (NA.cons (by decide)), sc_spec (by decide) (by decide) (by decide) (by decide) (by decide), bareE_cons, if_pos (by rfl), bare_blk (by decide), pcs_adr, pcs, if_neg (by decide), if_neg (by decide), if_pos (by decide), ih]
    rfl
/-- THE LAW: a written list is read back -/
theorem back_adr (l : List Adr) (h : ∀ a ∈ l, rightA a = true) : parseA (writeLst l) = (l, true) := by
  by_cases hl : l = []
  · subst hl; rfl
  · have hp : piecesL (writeLst l) = l.map adrT := pieces_lst l hl h
    unfold parseA
    rw [hp]
    have hg : goodL (l.map adrT) = l := by
      unfold goodL
      rw [List.filterMap_map]
      clear hp hl
      induction l with
      | nil => rfl
      | cons a r ih =>
        obtain ⟨h1, h2⟩ := oneP_adr (h a (List.mem_cons_self ..))
        have e : ((fun l => if l = [] then none else if (oneP l).2 = true then some (oneP l).1 else none) ∘ adrT) a = some a := by
          show (if adrT a = [] then none else if (oneP (adrT a)).2 = true then some (oneP (adrT a)).1 else none) = _
          rw [if_neg h2, h1]; rfl
        rw [List.filterMap_cons, e, ih (fun x hx => h x (List.mem_cons_of_mem _ hx))]
    have ha : allL (l.map adrT) = true := by
      unfold allL
      rw [List.all_map, List.all_eq_true]
      intro a ha
      obtain ⟨h1, h2⟩ := oneP_adr (h a ha)
      show ((adrT a).isEmpty || (oneP (adrT a)).2) = true
      rw [h1, Bool.or_true]
    rw [hg, ha]
end Ad
