/- Plain: a mail session over bytes. -/
import Derived.Test.YtjoipgekmnnlpaaGreatDoorPlain1
import Derived.Test.YtjoipgekmnnlpaaGreatDoorLnP
namespace Sm
open Go C1

def blk (c : UInt8) : Bool := c == 32 || c == 9
def up (c : UInt8) : UInt8 := if 97 ≤ c.toNat ∧ c.toNat ≤ 122 then c - 32 else c
def trimW (l : List UInt8) : List UInt8 := ((l.reverse.dropWhile blk).reverse).dropWhile blk
def wordW (l : List UInt8) : List UInt8 × List UInt8 := ((trimW l).takeWhile (fun c => !blk c), trimW ((trimW l).dropWhile (fun c => !blk c)))
/-- what stands behind a beginning, matched in any case -/
def beginW (b l : List UInt8) : Option (List UInt8) := if (l.take b.length).map up = b then some (l.drop b.length) else none
def okA (c : UInt8) : Bool := decide (32 < c.toNat) && (decide (c.toNat < 127) && decide (c ≠ 60))
/-- an address in angle brackets and what follows -/
def pathW : List UInt8 → Option (List UInt8 × List UInt8)
  | [] => none
  | c :: l => if c = 60 ∧ (l.dropWhile (fun c => decide (c ≠ 62))) ≠ [] ∧ (l.takeWhile (fun c => decide (c ≠ 62))).all okA = true then some (l.takeWhile (fun c => decide (c ≠ 62)), (l.dropWhile (fun c => decide (c ≠ 62))).tail) else none
def mayW (a : List UInt8) : Bool := decide (a.length ≤ 254) && (a.drop 1).dropLast.contains 64
def numV (l : List UInt8) : Option Nat := if l.all digC = true ∧ l ≠ [] ∧ (l.head? ≠ some 48 ∨ l = [48]) ∧ val 0 l ≤ 9223372036854775807 then some (val 0 l) else none
theorem numV_parse (l : List UInt8) : parseL l 0 9223372036854775807 = match numV l with | some v => ((v : Int), true) | none => (0, false) := by
  unfold numV
  split
  · rename_i v hv
    split at hv
    · rename_i h
      injection hv with hv
      subst hv
      obtain ⟨h1, h2, h3, h4⟩ := h
      have hd : ∀ c ∈ l, digC c = true := fun c hc => List.all_eq_true.1 h1 c hc
      have hn : negL l = false := by
        unfold negL
        cases l with
        | nil => rfl
        | cons c r =>
          have := (digC_iff c).1 (hd c (by simp))
          simp
          intro e; subst e; simp at this
      have hb : body l = l := by unfold body; rw [hn]; rfl
      have hi : ival l = (val 0 l : Int) := by unfold ival; rw [hn, hb]; rfl
      have hc : C1.Can l := by
        unfold C1.Can
        rw [hb]
        refine ⟨hd, h2, ?_⟩
        rcases h3 with h3 | h3
        · exact .inl fun c hc e => h3 (by rw [hc, e])
        · exact .inr h3
      unfold parseL
      rw [prs_some hc (by rw [hi]; omega) (by rw [hi]; omega), hi]
      exact if_pos ⟨by omega, by omega⟩
    · cases hv
  · rename_i hv
    split at hv
    · cases hv
    · rename_i h
      unfold parseL
      by_cases hp : C1.Can l ∧ -9223372036854775808 ≤ ival l ∧ ival l ≤ 9223372036854775807
      · rw [prs_some hp.1 hp.2.1 hp.2.2]
        refine if_neg fun hr => h ?_
        obtain ⟨⟨c1, c2, c3⟩, -, hu⟩ := hp
        cases hn : negL l with
        | true =>
          exfalso
          have hz : ∀ c, (body l).head? = some c → c ≠ 48 := by
            rcases c3 with c3 | c3
            · exact c3
            · subst c3; cases hn
          have hpos := val_pos _ c2 c1 hz
          have : ival l = -(val 0 (body l) : Int) := by unfold ival; rw [if_pos hn]
          omega
        | false =>
          have hb : body l = l := by unfold body; rw [hn]; rfl
          have hi : ival l = (val 0 l : Int) := by unfold ival; rw [hn, hb]; rfl
          rw [hb] at c1 c2 c3
          refine ⟨List.all_eq_true.2 c1, c2, ?_, by omega⟩
          rcases c3 with c3 | c3
          · exact .inl fun e => c3 48 e rfl
          · exact .inr c3
      · rw [prs_none hp]; rfl
def sizeK : List UInt8 := [83, 73, 90, 69, 61]
def body7 : List UInt8 := [66, 79, 68, 89, 61, 55, 66, 73, 84]
def body8 : List UInt8 := [66, 79, 68, 89, 61, 56, 66, 73, 84, 77, 73, 77, 69]
/-- an option of MAIL: a size, or a body's kind -/
def optW (p : List UInt8) : Option (Option Nat) := if p.map up = body7 ∨ p.map up = body8 then some none else match beginW sizeK p with | some v => (numV v).map some | none => none
/-- the options, each kind once -/
def optsW : Nat → List UInt8 → Bool → Bool → Nat → Option Nat
  | _, [], _, _, n => some n
  | 0, _ :: _, _, _, _ => none
  | m + 1, c :: l, s, b, n => match optW (wordW (c :: l)).1 with
    | none => none
    | some none => if b = true then none else optsW m (wordW (c :: l)).2 s true n
    | some (some k) => if s = true then none else optsW m (wordW (c :: l)).2 true b k
structure Ses where
  greeted : Bool
  sender : Option (List UInt8)
  to : List (List UInt8)
  body : Option (List UInt8)
  long : Bool
  waits : Bool
  over : Bool
def new0 : Ses := ⟨false, none, [], none, false, false, false⟩
def saidW : Nat → List UInt8
  | 220 => [112, 111, 117, 99, 104, 32, 114, 101, 97, 100, 121]
  | 221 => [66, 121, 101]
  | 250 => [79, 75]
  | 252 => [67, 97, 110, 110, 111, 116, 32, 118, 101, 114, 105, 102, 121, 32, 117, 115, 101, 114]
  | 354 => [83, 116, 97, 114, 116, 32, 109, 97, 105, 108, 32, 105, 110, 112, 117, 116]
  | 451 => [76, 111, 99, 97, 108, 32, 101, 114, 114, 111, 114]
  | 452 => [73, 110, 115, 117, 102, 102, 105, 99, 105, 101, 110, 116, 32, 115, 116, 111, 114, 97, 103, 101]
  | 500 => [83, 121, 110, 116, 97, 120, 32, 101, 114, 114, 111, 114]
  | 501 => [83, 121, 110, 116, 97, 120, 32, 101, 114, 114, 111, 114, 32, 105, 110, 32, 112, 97, 114, 97, 109, 101, 116, 101, 114, 115]
  | 503 => [66, 97, 100, 32, 115, 101, 113, 117, 101, 110, 99, 101, 32, 111, 102, 32, 99, 111, 109, 109, 97, 110, 100, 115]
  | 552 => [77, 101, 115, 115, 97, 103, 101, 32, 115, 105, 122, 101, 32, 101, 120, 99, 101, 101, 100, 115, 32, 108, 105, 109, 105, 116]
  | 554 => [84, 114, 97, 110, 115, 97, 99, 116, 105, 111, 110, 32, 102, 97, 105, 108, 101, 100]
  | _ => []
def dig3 (n : Nat) : List UInt8 := [UInt8.ofNat (48 + n / 100), UInt8.ofNat (48 + n / 10 % 10), UInt8.ofNat (48 + n % 10)]
def repW (n : Nat) : List UInt8 := dig3 n ++ 32 :: (saidW n ++ [13, 10])
def ehloL (most : Nat) : List UInt8 := [50, 53, 48, 45, 112, 111, 117, 99, 104, 13, 10, 50, 53, 48, 45, 80, 73, 80, 69, 76, 73, 78, 73, 78, 71, 13, 10, 50, 53, 48, 45, 83, 73, 90, 69, 32] ++ Lib.itoa most ++ [13, 10]
def reset (st : Ses) : Ses := { st with sender := none, to := [] }
def fromK : List UInt8 := [70, 82, 79, 77, 58]
def toK : List UInt8 := [84, 79, 58]
def path2 (k l : List UInt8) : Option (List UInt8 × List UInt8) := (beginW k l).bind fun x => pathW (x.dropWhile blk)
/-- it begins with no blank -/
def hdB : List UInt8 → Bool
  | [] => false
  | c :: _ => !blk c
def mailW (most : Nat) (st : Ses) (rest : List UInt8) : Ses × List UInt8 :=
  if (!st.greeted || st.sender.isSome) = true then (st, repW 503) else
  match path2 fromK rest with
  | none => (st, repW 501)
  | some (a, y) =>
    if ((!a.isEmpty && !mayW a) || hdB y) = true then (st, repW 501) else
    match optsW y.length y false false 0 with
    | none => (st, repW 501)
    | some n => if most < n then (st, repW 552) else ({ st with sender := some a }, repW 250)
def rcptW (st : Ses) (rest : List UInt8) : Ses × List UInt8 :=
  if st.sender.isSome = false then (st, repW 503) else
  match path2 toK rest with
  | none => (st, repW 501)
  | some (a, y) =>
    if (!y.isEmpty || !mayW a) = true then (st, repW 501) else
    if st.to.contains a = true then (st, repW 250) else
    if 16 ≤ st.to.length then (st, repW 452) else ({ st with to := st.to ++ [a] }, repW 250)
def chopS (c : UInt8) (l : List UInt8) : List UInt8 := if l.getLast? = some c then l.dropLast else l
def bareS (l : List UInt8) : List UInt8 := if l.getLast? = some 10 then chopS 13 l.dropLast else l
def helloW (most : Nat) (ext : Bool) (st : Ses) (rest : List UInt8) : Ses × List UInt8 :=
  if rest.isEmpty = true then (st, repW 501) else ({ reset st with greeted := true }, (if ext = true then ehloL most else []) ++ repW 250)
def dataW (st : Ses) (rest : List UInt8) : Ses × List UInt8 :=
  if rest.isEmpty = false then (st, repW 501) else if st.to.isEmpty = true then (st, repW 503) else ({ st with body := some [], long := false }, repW 354)
def rsetW (st : Ses) (rest : List UInt8) : Ses × List UInt8 := if rest.isEmpty = false then (st, repW 501) else (reset st, repW 250)
def quitW (st : Ses) (rest : List UInt8) : Ses × List UInt8 := if rest.isEmpty = false then (st, repW 501) else ({ st with over := true }, repW 221)
/-- which command a verb is -/
def verbW (v : List UInt8) : Nat :=
  if v = [69, 72, 76, 79] then 0 else if v = [72, 69, 76, 79] then 1 else if v = [77, 65, 73, 76] then 2 else if v = [82, 67, 80, 84] then 3 else
  if v = [68, 65, 84, 65] then 4 else if v = [82, 83, 69, 84] then 5 else if v = [81, 85, 73, 84] then 6 else if v = [78, 79, 79, 80] then 7 else if v = [86, 82, 70, 89] then 8 else 9
def doW (most : Nat) (k : Nat) (st : Ses) (rest : List UInt8) : Ses × List UInt8 :=
  match k with
  | 0 => helloW most true st rest
  | 1 => helloW most false st rest
  | 2 => mailW most st rest
  | 3 => rcptW st rest
  | 4 => dataW st rest
  | 5 => rsetW st rest
  | 6 => quitW st rest
  | 7 => (st, repW 250)
  | 8 => (st, repW 252)
  | _ => (st, repW 500)
def commandW (most : Nat) (st : Ses) (l : List UInt8) : Ses × List UInt8 :=
  if l.getLast? ≠ some 10 then (st, repW 500) else doW most (verbW ((wordW (bareS l)).1.map up)) st (wordW (bareS l)).2
/-- a dot at the beginning falls -/
def undot : List UInt8 → List UInt8
  | 46 :: r => r
  | l => l
def lineW (most : Nat) (st : Ses) (b l : List UInt8) : Ses × List UInt8 :=
  if (decide (l.getLast? = some 10) && decide (bareS l = [46])) = false then ({ st with long := st.long || !decide (l.getLast? = some 10), body := some (b ++ undot l) }, [])
  else if st.long = true then ({ reset st with body := none }, repW 500)
  else if most < b.length then ({ reset st with body := none }, repW 552)
  else ({ st with waits := true }, [])
def stepW (most : Nat) (st : Ses) (l : List UInt8) : Ses × List UInt8 :=
  match st.body with
  | some b => lineW most st b l
  | none => commandW most st l
/-- lines, until a message waits or the session is over -/
def runW (most : Nat) : Ses → List (List UInt8) → Ses × List UInt8 × List (List UInt8)
  | st, [] => (st, [], [])
  | st, l :: r => if (st.waits || st.over) = true then (st, [], l :: r) else
    let p := stepW most st l
    let q := runW most p.1 r
    (q.1, p.2 ++ q.2.1, q.2.2)
def answerC : Int → Nat
  | 0 => 250
  | 16 => 552
  | 3 => 452
  | 13 => 451
  | 14 => 451
  | 22 => 451
  | _ => 554
def answerW (st : Ses) (e : Int) : Ses × List UInt8 :=
  if st.waits = false then (st, []) else ({ reset st with waits := false, body := none }, repW (answerC e))
/-- input that comes in pieces: the lines that it completes, and what is left of the last one -/
def pushW : List UInt8 → List UInt8 → List (List UInt8) × List UInt8
  | r, [] => ([], r)
  | r, c :: l => if c = 10 then ((r ++ [10]).take 1000 :: (pushW [] l).1, (pushW [] l).2) else pushW ((r ++ [c]).take 1000) l
/-- a session with its input -/
structure Whl where
  st : Ses
  rest : List UInt8
  kept : List (List UInt8)
def begin0 : Whl := ⟨new0, [], []⟩
def feedW (most : Nat) (s : Whl) (chunk : List UInt8) : Whl × List UInt8 :=
  let p := pushW s.rest chunk
  let q := runW most s.st (s.kept ++ p.1)
  (⟨q.1, p.2, q.2.2⟩, q.2.1)
theorem pushW_cons (r : List UInt8) (c : UInt8) (l : List UInt8) : pushW r (c :: l) = if c = 10 then ((r ++ [10]).take 1000 :: (pushW [] l).1, (pushW [] l).2) else pushW ((r ++ [c]).take 1000) l := rfl
theorem runW_cons (most : Nat) (st : Ses) (l : List UInt8) (r : List (List UInt8)) : runW most st (l :: r) = if (st.waits || st.over) = true then (st, [], l :: r) else ((runW most (stepW most st l).1 r).1, (stepW most st l).2 ++ (runW most (stepW most st l).1 r).2.1, (runW most (stepW most st l).1 r).2.2) := rfl
theorem pushW_app : ∀ (x y r : List UInt8), pushW r (x ++ y) = ((pushW r x).1 ++ (pushW (pushW r x).2 y).1, (pushW (pushW r x).2 y).2)
  | [], y, r => rfl
  | c :: x, y, r => by
    rw [List.cons_append, pushW_cons, pushW_cons]
    by_cases h : c = 10
    · rw [if_pos h, if_pos h, pushW_app x y []]
      rfl
    · rw [if_neg h, if_neg h, pushW_app x y _]
theorem runW_app (most : Nat) : ∀ (a b : List (List UInt8)) (st : Ses), runW most st (a ++ b) = (if (runW most st a).2.2 = [] then ((runW most (runW most st a).1 b).1, (runW most st a).2.1 ++ (runW most (runW most st a).1 b).2.1, (runW most (runW most st a).1 b).2.2) else ((runW most st a).1, (runW most st a).2.1, (runW most st a).2.2 ++ b))
  | [], b, st => by
    rw [if_pos (show (runW most st []).2.2 = [] from rfl)]
    rfl
  | l :: a, b, st => by
    rw [List.cons_append, runW_cons, runW_cons]
    by_cases h : (st.waits || st.over) = true
    · rw [if_pos h, if_pos h, if_neg (by simp)]
      rfl
    · rw [if_neg h, if_neg h]
      simp only
      rw [runW_app most a b]
      split
      · simp
      · rfl
/-- the fixed examples -/
def smX1 : List UInt8 := [104, 101, 108, 111, 32, 120, 13, 10, 77, 65, 73, 76, 32, 102, 114, 111, 109, 58, 60, 97, 64, 98, 62, 32, 115, 105, 122, 101, 61, 49, 48, 48, 13, 10, 82, 67, 80, 84, 32, 84, 79, 58, 32, 60, 99, 64, 100, 62, 13, 10, 82, 67, 80, 84, 32, 84, 79, 58, 60, 99, 64, 100, 62, 10, 68, 65]
theorem smX1_ok : (feedW 100 begin0 smX1).2 = repW 250 ++ repW 250 ++ repW 250 ++ repW 250 := by decide +kernel
end Sm
