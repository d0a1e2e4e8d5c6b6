/- Plain: the parser of filter scripts over tokens. Plain: the parser of filter scripts, places changed by a relation; the parser and what follows behind. Plain: formatting of scripts, valid scripts, and how what is written is read again. Plain: the tokens of a valid tree parse to the tree, but for places. Plain: the tokens of a scan in their source forms; a parsed script is valid; how much is written. Plain: how long what is written is. -/
import Derived.Test.YtgimgkjggaijoaaGreatDoorLxT
import Derived.Test.YtgimgkjggaijoaaGreatDoorLxB
namespace Sv
open Go Lx

structure ArgT where
  k : Int
  tag : ByteArray
  n : Int
  texts : List ByteArray
  list : Bool
inductive TestT where
  | mk (name : ByteArray) (args : List ArgT) (kids : List TestT) (at_ : Int)
inductive CmdT where
  | mk (name : ByteArray) (args : List ArgT) (tests : List TestT) (block : List CmdT) (braces : Bool) (at_ : Int)
abbrev Res (α : Type) := Except (Int × Int) (α × List Lex)
def atL (E : Int) : List Lex → Int
  | [] => E
  | x :: _ => x.a
/-- the first token is this mark -/
def isM (c : UInt8) : List Lex → Bool
  | [] => false
  | x :: _ => decide (x.k = 5) && (x.t.data.toList == [c])
def bad {α : Type} (E : Int) (l : List Lex) : Res α := .error (2, atL E l)
def mustR (E : Int) (c : UInt8) (l : List Lex) : Res Unit := if isM c l = true then .ok ((), l.tail) else bad E l
def nameR (E : Int) (d : Nat) : List Lex → Res (ByteArray × Int)
  | [] => bad E []
  | x :: r => if x.k = 1 then (if 8 < d then .error (10, x.a) else .ok ((x.t, x.a), r)) else bad E (x :: r)
/-- the texts behind an opening bracket -/
def textsR (E : Int) : Nat → List Lex → Option (Res (List ByteArray))
  | 0, _ => none
  | _ + 1, [] => some (bad E [])
  | m + 1, x :: r =>
    if x.k = 4 then
      if isM 44 r = true then (textsR E m r.tail).map fun e => e.map fun p => (x.t :: p.1, p.2)
      else some ((mustR E 93 r).map fun p => ([x.t], p.2))
    else some (bad E (x :: r))
/-- the argument that a token stands for -/
def argOf (x : Lex) : Option ArgT :=
  if x.k = 2 then some ⟨1, x.t, 0, [], false⟩ else if x.k = 3 then some ⟨2, ⟨#[]⟩, x.n, [], false⟩ else if x.k = 4 then some ⟨3, ⟨#[]⟩, 0, [x.t], false⟩ else none
def argsR (E : Int) : Nat → List Lex → Option (Res (List ArgT))
  | 0, _ => none
  | _ + 1, [] => some (.ok ([], []))
  | m + 1, x :: r =>
    if isM 91 (x :: r) = true then
      match textsR E m r with
      | none => none
      | some (.error e) => some (.error e)
      | some (.ok (ts, q)) => (argsR E m q).map fun e => e.map fun p => (⟨3, ⟨#[]⟩, 0, ts, true⟩ :: p.1, p.2)
    else match argOf x with
      | none => some (.ok ([], x :: r))
      | some a => (argsR E m r).map fun e => e.map fun p => (a :: p.1, p.2)
mutual
def testR (E : Int) : Nat → Nat → List Lex → Option (Res TestT)
  | 0, _, _ => none
  | m + 1, d, l =>
    match nameR E d l with
    | .error e => some (.error e)
    | .ok (n, l1) =>
      match argsR E m l1 with
      | none => none
      | some (.error e) => some (.error e)
      | some (.ok (ag, l2)) => (testsR E m (d + 1) l2).map fun e => e.map fun p => (.mk n.1 ag p.1 n.2, p.2)
def testsR (E : Int) : Nat → Nat → List Lex → Option (Res (List TestT))
  | 0, _, _ => none
  | m + 1, d, l =>
    if l.head?.map (·.k) = some 1 then (testR E m d l).map fun e => e.map fun p => ([p.1], p.2)
    else if isM 40 l = true then
      match testR E m d l.tail with
      | none => none
      | some (.error e) => some (.error e)
      | some (.ok (t, l1)) => (moreR E m d l1).map fun e => e.map fun p => (t :: p.1, p.2)
    else some (.ok ([], l))
/-- behind a test in brackets -/
def moreR (E : Int) : Nat → Nat → List Lex → Option (Res (List TestT))
  | 0, _, _ => none
  | m + 1, d, l =>
    if isM 44 l = true then
      match testR E m d l.tail with
      | none => none
      | some (.error e) => some (.error e)
      | some (.ok (t, l1)) => (moreR E m d l1).map fun e => e.map fun p => (t :: p.1, p.2)
    else some ((mustR E 41 l).map fun p => ([], p.2))
end
mutual
def cmdR (E : Int) : Nat → Nat → List Lex → Option (Res CmdT)
  | 0, _, _ => none
  | m + 1, d, l =>
    match nameR E d l with
    | .error e => some (.error e)
    | .ok (n, l1) =>
      match argsR E m l1 with
      | none => none
      | some (.error e) => some (.error e)
      | some (.ok (ag, l2)) =>
        match testsR E m (d + 1) l2 with
        | none => none
        | some (.error e) => some (.error e)
        | some (.ok (ts, l3)) =>
          if isM 123 l3 = true then (blockR E m (d + 1) l3.tail).map fun e => e.map fun p => (.mk n.1 ag ts p.1 true n.2, p.2)
          else some ((mustR E 59 l3).map fun p => (.mk n.1 ag ts [] false n.2, p.2))
/-- behind an opening brace -/
def blockR (E : Int) : Nat → Nat → List Lex → Option (Res (List CmdT))
  | 0, _, _ => none
  | m + 1, d, l =>
    if isM 125 l = true then some (.ok ([], l.tail))
    else match cmdR E m d l with
      | none => none
      | some (.error e) => some (.error e)
      | some (.ok (c, l1)) => (blockR E m d l1).map fun e => e.map fun p => (c :: p.1, p.2)
end
def parseR (E : Int) : Nat → List Lex → Option (Except (Int × Int) (List CmdT))
  | 0, _ => none
  | _ + 1, [] => some (.ok [])
  | m + 1, l@(_ :: _) =>
    match cmdR E m 0 l with
    | none => none
    | some (.error e) => some (.error e)
    | some (.ok (c, l1)) => (parseR E m l1).map fun e => e.map fun p => c :: p

/-! more steps change nothing -/
theorem map_some {α β : Type} {o o' : Option α} {f : α → β} {b : β} (h : ∀ a, o = some a → o' = some a) (hb : o.map f = some b) : o'.map f = some b := by
  cases o with
  | none => cases hb
  | some a => rw [h a rfl]; exact hb
theorem textsR_more (E : Int) : ∀ (m m' : Nat) (l : List Lex) r, m ≤ m' → textsR E m l = some r → textsR E m' l = some r
  | m + 1, m' + 1, l, r, hm, h => by
    cases l with
    | nil => exact h
    | cons x q =>
      unfold textsR at h ⊢
      by_cases h1 : x.k = 4
      · rw [if_pos h1] at h ⊢
        by_cases h2 : isM 44 q = true
        · rw [if_pos h2] at h ⊢
          exact map_some (fun a ha => textsR_more E m m' _ a (by omega) ha) h
        · rw [if_neg h2] at h ⊢; exact h
      · rw [if_neg h1] at h ⊢; exact h
theorem argsR_more (E : Int) : ∀ (m m' : Nat) (l : List Lex) r, m ≤ m' → argsR E m l = some r → argsR E m' l = some r
  | m + 1, m' + 1, l, r, hm, h => by
    cases l with
    | nil => exact h
    | cons x q =>
      unfold argsR at h ⊢
      by_cases h1 : isM 91 (x :: q) = true
      · rw [if_pos h1] at h ⊢
        cases ht : textsR E m q with
        | none => rw [ht] at h; cases h
        | some a =>
          rw [ht] at h
          rw [textsR_more E m m' q a (by omega) ht]
          cases a with
          | error e => exact h
          | ok p => exact map_some (fun a ha => argsR_more E m m' _ a (by omega) ha) h
      · rw [if_neg h1] at h ⊢
        cases ha : argOf x with
        | none => rw [ha] at h; exact h
        | some a => rw [ha] at h; exact map_some (fun a ha => argsR_more E m m' _ a (by omega) ha) h
theorem tests_more (E : Int) : ∀ (m m' : Nat), m ≤ m' → (∀ d l r, testR E m d l = some r → testR E m' d l = some r) ∧ (∀ d l r, testsR E m d l = some r → testsR E m' d l = some r) ∧ (∀ d l r, moreR E m d l = some r → moreR E m' d l = some r)
  | 0, m', _ => ⟨fun d l r h => by (unfold testR at h; cases h), fun d l r h => by (unfold testsR at h; cases h), fun d l r h => by (unfold moreR at h; cases h)⟩
  | m + 1, m' + 1, hm => by
    obtain ⟨h1, h2, h3⟩ := tests_more E m m' (by omega)
    refine ⟨fun d l r h => ?_, fun d l r h => ?_, fun d l r h => ?_⟩
    · unfold testR at h ⊢
      cases hn : nameR E d l with
      | error e => rw [hn] at h; exact h
      | ok p =>
        rw [hn] at h
        simp only at h ⊢
        cases ha : argsR E m p.2 with
        | none => rw [ha] at h; cases h
        | some a =>
          rw [ha] at h
          rw [argsR_more E m m' _ a (by omega) ha]
          cases a with
          | error e => exact h
          | ok q => exact map_some (fun a ha => h2 _ _ a ha) h
    · unfold testsR at h ⊢
      by_cases c1 : l.head?.map (·.k) = some 1
      · rw [if_pos c1] at h ⊢; exact map_some (fun a ha => h1 _ _ a ha) h
      · rw [if_neg c1] at h ⊢
        by_cases c2 : isM 40 l = true
        · rw [if_pos c2] at h ⊢
          cases ht : testR E m d l.tail with
          | none => rw [ht] at h; cases h
          | some a =>
            rw [ht] at h
            rw [h1 _ _ a ht]
            cases a with
            | error e => exact h
            | ok q => exact map_some (fun a ha => h3 _ _ a ha) h
        · rw [if_neg c2] at h ⊢; exact h
    · unfold moreR at h ⊢
      by_cases c2 : isM 44 l = true
      · rw [if_pos c2] at h ⊢
        cases ht : testR E m d l.tail with
        | none => rw [ht] at h; cases h
        | some a =>
          rw [ht] at h
          rw [h1 _ _ a ht]
          cases a with
          | error e => exact h
          | ok q => exact map_some (fun a ha => h3 _ _ a ha) h
      · rw [if_neg c2] at h ⊢; exact h
theorem cmd_more (E : Int) : ∀ (m m' : Nat), m ≤ m' → (∀ d l r, cmdR E m d l = some r → cmdR E m' d l = some r) ∧ (∀ d l r, blockR E m d l = some r → blockR E m' d l = some r)
  | 0, m', _ => ⟨fun d l r h => by (unfold cmdR at h; cases h), fun d l r h => by (unfold blockR at h; cases h)⟩
  | m + 1, m' + 1, hm => by
    obtain ⟨h1, h2⟩ := cmd_more E m m' (by omega)
    obtain ⟨-, h4, -⟩ := tests_more E m m' (by omega)
    refine ⟨fun d l r h => ?_, fun d l r h => ?_⟩
    · unfold cmdR at h ⊢
      cases hn : nameR E d l with
      | error e => rw [hn] at h; exact h
      | ok p =>
        rw [hn] at h
        simp only at h ⊢
        cases ha : argsR E m p.2 with
        | none => rw [ha] at h; cases h
        | some a =>
          rw [ha] at h
          rw [argsR_more E m m' _ a (by omega) ha]
          cases a with
          | error e => exact h
          | ok q =>
            simp only at h ⊢
            cases ht : testsR E m (d + 1) q.2 with
            | none => rw [ht] at h; cases h
            | some b =>
              rw [ht] at h
              rw [h4 _ _ b ht]
              cases b with
              | error e => exact h
              | ok u =>
                simp only at h ⊢
                by_cases c1 : isM 123 u.2 = true
                · rw [if_pos c1] at h ⊢; exact map_some (fun a ha => h2 _ _ a ha) h
                · rw [if_neg c1] at h ⊢; exact h
    · unfold blockR at h ⊢
      by_cases c1 : isM 125 l = true
      · rw [if_pos c1] at h ⊢; exact h
      · rw [if_neg c1] at h ⊢
        cases ht : cmdR E m d l with
        | none => rw [ht] at h; cases h
        | some a =>
          rw [ht] at h
          rw [h1 _ _ a ht]
          cases a with
          | error e => exact h
          | ok q => exact map_some (fun a ha => h2 _ _ a ha) h
theorem parse_more (E : Int) : ∀ (m m' : Nat) (l : List Lex) r, m ≤ m' → parseR E m l = some r → parseR E m' l = some r
  | m + 1, m' + 1, [], r, _, h => h
  | m + 1, m' + 1, x :: q, r, hm, h => by
    unfold parseR at h ⊢
    obtain ⟨h1, -⟩ := cmd_more E m m' (by omega)
    cases ht : cmdR E m 0 (x :: q) with
    | none => rw [ht] at h; cases h
    | some a =>
      rw [ht] at h
      rw [h1 _ _ a ht]
      cases a with
      | error e => exact h
      | ok p => exact map_some (fun a ha => parse_more E m m' _ a (by omega) ha) h

/-! enough steps end -/
theorem isM_cons {c : UInt8} {l : List Lex} (h : isM c l = true) : 0 < l.length := by
  cases l with
  | nil => cases h
  | cons x r => simp
theorem mustR_ok {E : Int} {c : UInt8} {l : List Lex} {p : Unit × List Lex} (h : mustR E c l = .ok p) : isM c l = true ∧ p = ((), l.tail) := by
  unfold mustR at h
  by_cases h1 : isM c l = true
  · rw [if_pos h1] at h
    injection h with h
    exact ⟨h1, h.symm⟩
  · rw [if_neg h1] at h; cases h
theorem nameR_cons (E : Int) (d : Nat) (x : Lex) (r : List Lex) : nameR E d (x :: r) = if x.k = 1 then (if 8 < d then .error (10, x.a) else .ok ((x.t, x.a), r)) else bad E (x :: r) := rfl
theorem nameR_ok {E : Int} {d : Nat} {l : List Lex} {p} (h : nameR E d l = .ok p) : ∃ x r, l = x :: r ∧ x.k = 1 ∧ d ≤ 8 ∧ p = ((x.t, x.a), r) := by
  cases l with
  | nil => cases h
  | cons x r =>
    rw [nameR_cons] at h
    by_cases h1 : x.k = 1
    · rw [if_pos h1] at h
      by_cases h2 : 8 < d
      · rw [if_pos h2] at h; cases h
      · rw [if_neg h2] at h
        injection h with h
        exact ⟨x, r, rfl, h1, by omega, h.symm⟩
    · rw [if_neg h1] at h; cases h
theorem emap_ok {α β : Type} {e : Except (Int × Int) α} {f : α → β} {b : β} (h : e.map f = .ok b) : ∃ a, e = .ok a ∧ b = f a := by
  cases e with
  | error x => cases h
  | ok a => injection h with h; exact ⟨a, rfl, h.symm⟩
theorem textsR_end (E : Int) : ∀ (m : Nat) (l : List Lex), l.length + 1 ≤ m → ∃ r, textsR E m l = some r ∧ ∀ p, r = .ok p → p.2.length < l.length
  | m + 1, [], _ => ⟨_, rfl, fun p h => by cases h⟩
  | m + 1, x :: r, hm => by
    rw [List.length_cons] at hm
    unfold textsR
    by_cases h1 : x.k = 4
    · rw [if_pos h1]
      by_cases h2 : isM 44 r = true
      · rw [if_pos h2]
        have := isM_cons h2
        obtain ⟨q, e1, e2⟩ := textsR_end E m r.tail (by rw [List.length_tail]; omega)
        rw [e1]
        refine ⟨_, rfl, fun p hp => ?_⟩
        obtain ⟨a, rfl, rfl⟩ := emap_ok hp
        have := e2 a rfl
        rw [List.length_tail] at this
        rw [List.length_cons]
        show a.2.length < _
        omega
      · rw [if_neg h2]
        refine ⟨_, rfl, fun p hp => ?_⟩
        obtain ⟨a, ha, rfl⟩ := emap_ok hp
        obtain ⟨-, rfl⟩ := mustR_ok ha
        show r.tail.length < _
        rw [List.length_tail, List.length_cons]; omega
    · rw [if_neg h1]
      exact ⟨_, rfl, fun p h => by cases h⟩
theorem argsR_end (E : Int) : ∀ (m : Nat) (l : List Lex), l.length + 1 ≤ m → ∃ r, argsR E m l = some r ∧ ∀ p, r = .ok p → p.2.length ≤ l.length
  | m + 1, [], _ => ⟨_, rfl, fun p h => by injection h with h; rw [← h]; exact Nat.le_refl _⟩
  | m + 1, x :: r, hm => by
    rw [List.length_cons] at hm
    unfold argsR
    by_cases h1 : isM 91 (x :: r) = true
    · rw [if_pos h1]
      obtain ⟨q, e1, e2⟩ := textsR_end E m r (by omega)
      rw [e1]
      cases q with
      | error e => exact ⟨_, rfl, fun p h => by cases h⟩
      | ok p =>
        have := e2 p rfl
        obtain ⟨q, e3, e4⟩ := argsR_end E m p.2 (by omega)
        simp only
        rw [e3]
        refine ⟨_, rfl, fun p hp => ?_⟩
        obtain ⟨a, rfl, rfl⟩ := emap_ok hp
        have := e4 a rfl
        rw [List.length_cons]
        show a.2.length ≤ _
        omega
    · rw [if_neg h1]
      cases ha : argOf x with
      | none => exact ⟨_, rfl, fun p h => by injection h with h; rw [← h]; exact Nat.le_refl _⟩
      | some a =>
        obtain ⟨q, e3, e4⟩ := argsR_end E m r (by omega)
        simp only
        rw [e3]
        refine ⟨_, rfl, fun p hp => ?_⟩
        obtain ⟨b, rfl, rfl⟩ := emap_ok hp
        have := e4 b rfl
        rw [List.length_cons]
        show b.2.length ≤ _
        omega
theorem tests_end (E : Int) : ∀ (m : Nat), (∀ d l, 2 * l.length + 1 ≤ m → ∃ r, testR E m d l = some r ∧ ∀ p, r = .ok p → p.2.length < l.length) ∧ (∀ d l, 2 * l.length + 2 ≤ m → ∃ r, testsR E m d l = some r ∧ ∀ p, r = .ok p → p.2.length ≤ l.length) ∧ (∀ d l, 2 * l.length + 1 ≤ m → ∃ r, moreR E m d l = some r ∧ ∀ p, r = .ok p → p.2.length < l.length)
  | 0 => ⟨fun d l h => by omega, fun d l h => by omega, fun d l h => by omega⟩
  | m + 1 => by
    obtain ⟨h1, h2, h3⟩ := tests_end E m
    refine ⟨fun d l hm => ?_, fun d l hm => ?_, fun d l hm => ?_⟩
    · unfold testR
      cases hn : nameR E d l with
      | error e => exact ⟨_, rfl, fun p h => by cases h⟩
      | ok p =>
        obtain ⟨x, r, rfl, -, -, rfl⟩ := nameR_ok hn
        rw [List.length_cons] at hm
        obtain ⟨q, e1, e2⟩ := argsR_end E m r (by omega)
        simp only
        rw [e1]
        cases q with
        | error e => exact ⟨_, rfl, fun p h => by cases h⟩
        | ok q =>
          have := e2 q rfl
          obtain ⟨u, e3, e4⟩ := h2 (d + 1) q.2 (by omega)
          simp only
          rw [e3]
          refine ⟨_, rfl, fun p hp => ?_⟩
          obtain ⟨a, rfl, rfl⟩ := emap_ok hp
          have := e4 a rfl
          rw [List.length_cons]
          show a.2.length < _
          omega
    · unfold testsR
      by_cases c1 : l.head?.map (·.k) = some 1
      · rw [if_pos c1]
        obtain ⟨u, e3, e4⟩ := h1 d l (by omega)
        rw [e3]
        refine ⟨_, rfl, fun p hp => ?_⟩
        obtain ⟨a, rfl, rfl⟩ := emap_ok hp
        have := e4 a rfl
        show a.2.length ≤ _
        omega
      · rw [if_neg c1]
        by_cases c2 : isM 40 l = true
        · rw [if_pos c2]
          have := isM_cons c2
          obtain ⟨u, e3, e4⟩ := h1 d l.tail (by rw [List.length_tail]; omega)
          rw [e3]
          cases u with
          | error e => exact ⟨_, rfl, fun p h => by cases h⟩
          | ok q =>
            have := e4 q rfl
            rw [List.length_tail] at this
            obtain ⟨u, e5, e6⟩ := h3 d q.2 (by omega)
            simp only
            rw [e5]
            refine ⟨_, rfl, fun p hp => ?_⟩
            obtain ⟨a, rfl, rfl⟩ := emap_ok hp
            have := e6 a rfl
            show a.2.length ≤ _
            omega
        · rw [if_neg c2]
          exact ⟨_, rfl, fun p h => by injection h with h; rw [← h]; exact Nat.le_refl _⟩
    · unfold moreR
      by_cases c2 : isM 44 l = true
      · rw [if_pos c2]
        have := isM_cons c2
        obtain ⟨u, e3, e4⟩ := h1 d l.tail (by rw [List.length_tail]; omega)
        rw [e3]
        cases u with
        | error e => exact ⟨_, rfl, fun p h => by cases h⟩
        | ok q =>
          have := e4 q rfl
          rw [List.length_tail] at this
          obtain ⟨u, e5, e6⟩ := h3 d q.2 (by omega)
          simp only
          rw [e5]
          refine ⟨_, rfl, fun p hp => ?_⟩
          obtain ⟨a, rfl, rfl⟩ := emap_ok hp
          have := e6 a rfl
          show a.2.length < _
          omega
      · rw [if_neg c2]
        refine ⟨_, rfl, fun p hp => ?_⟩
        obtain ⟨a, ha, rfl⟩ := emap_ok hp
        obtain ⟨h5, rfl⟩ := mustR_ok ha
        have := isM_cons h5
        show l.tail.length < _
        rw [List.length_tail]; omega
theorem cmd_end (E : Int) : ∀ (m : Nat), (∀ d l, 2 * l.length + 1 ≤ m → ∃ r, cmdR E m d l = some r ∧ ∀ p, r = .ok p → p.2.length < l.length) ∧ (∀ d l, 2 * l.length + 2 ≤ m → ∃ r, blockR E m d l = some r ∧ ∀ p, r = .ok p → p.2.length < l.length)
  | 0 => ⟨fun d l h => by omega, fun d l h => by omega⟩
  | m + 1 => by
    obtain ⟨h1, h2⟩ := cmd_end E m
    obtain ⟨-, h3, -⟩ := tests_end E m
    refine ⟨fun d l hm => ?_, fun d l hm => ?_⟩
    · unfold cmdR
      cases hn : nameR E d l with
      | error e => exact ⟨_, rfl, fun p h => by cases h⟩
      | ok p =>
        obtain ⟨x, r, rfl, -, -, rfl⟩ := nameR_ok hn
        rw [List.length_cons] at hm
        obtain ⟨q, e1, e2⟩ := argsR_end E m r (by omega)
        simp only
        rw [e1]
        cases q with
        | error e => exact ⟨_, rfl, fun p h => by cases h⟩
        | ok q =>
          have := e2 q rfl
          obtain ⟨u, e3, e4⟩ := h3 (d + 1) q.2 (by omega)
          simp only
          rw [e3]
          cases u with
          | error e => exact ⟨_, rfl, fun p h => by cases h⟩
          | ok u =>
            have := e4 u rfl
            simp only
            by_cases c1 : isM 123 u.2 = true
            · rw [if_pos c1]
              obtain ⟨v, e5, e6⟩ := h2 (d + 1) u.2.tail (by rw [List.length_tail]; omega)
              rw [e5]
              refine ⟨_, rfl, fun p hp => ?_⟩
              obtain ⟨a, rfl, rfl⟩ := emap_ok hp
              have := e6 a rfl
              rw [List.length_tail] at this
              rw [List.length_cons]
              show a.2.length < _
              omega
            · rw [if_neg c1]
              refine ⟨_, rfl, fun p hp => ?_⟩
              obtain ⟨a, ha, rfl⟩ := emap_ok hp
              obtain ⟨h5, rfl⟩ := mustR_ok ha
              have := isM_cons h5
              rw [List.length_cons]
              show u.2.tail.length < _
              rw [List.length_tail]; omega
    · unfold blockR
      by_cases c1 : isM 125 l = true
      · rw [if_pos c1]
        have := isM_cons c1
        refine ⟨_, rfl, fun p h => ?_⟩
        injection h with h
        rw [← h]
        show l.tail.length < _
        rw [List.length_tail]; omega
      · rw [if_neg c1]
        obtain ⟨u, e3, e4⟩ := h1 d l (by omega)
        rw [e3]
        cases u with
        | error e => exact ⟨_, rfl, fun p h => by cases h⟩
        | ok q =>
          have := e4 q rfl
          obtain ⟨u, e5, e6⟩ := h2 d q.2 (by omega)
          simp only
          rw [e5]
          refine ⟨_, rfl, fun p hp => ?_⟩
          obtain ⟨a, rfl, rfl⟩ := emap_ok hp
          have := e6 a rfl
          show a.2.length < _
          omega
theorem parse_end (E : Int) : ∀ (m : Nat) (l : List Lex), 2 * l.length + 2 ≤ m → ∃ r, parseR E m l = some r
  | m + 1, [], _ => ⟨_, rfl⟩
  | m + 1, x :: q, hm => by
    unfold parseR
    obtain ⟨u, e3, e4⟩ := (cmd_end E m).1 0 (x :: q) (by omega)
    rw [e3]
    cases u with
    | error e => exact ⟨_, rfl⟩
    | ok p =>
      have := e4 p rfl
      obtain ⟨u, e5⟩ := parse_end E m p.2 (by omega)
      simp only
      rw [e5]
      exact ⟨_, rfl⟩
end Sv
namespace Sv
open Go Lx

/-! lists of tokens that differ in their places -/
inductive Al (P : Int → Int → Prop) : List Lex → List Lex → Prop
  | nil : Al P [] []
  | cons {x y : Lex} {l l' : List Lex} (hk : x.k = y.k) (ht : x.t = y.t) (hn : x.n = y.n) (ha : P x.a y.a) (h : Al P l l') : Al P (x :: l) (y :: l')
mutual
inductive TR (P : Int → Int → Prop) : TestT → TestT → Prop
  | mk {n : ByteArray} {ag : List ArgT} {ks ks' : List TestT} {a a' : Int} (hk : TL P ks ks') (ha : P a a') : TR P (.mk n ag ks a) (.mk n ag ks' a')
inductive TL (P : Int → Int → Prop) : List TestT → List TestT → Prop
  | nil : TL P [] []
  | cons {t t' : TestT} {l l' : List TestT} (ht : TR P t t') (hl : TL P l l') : TL P (t :: l) (t' :: l')
end
mutual
inductive CR (P : Int → Int → Prop) : CmdT → CmdT → Prop
  | mk {n : ByteArray} {ag : List ArgT} {ts ts' : List TestT} {bl bl' : List CmdT} {b : Bool} {a a' : Int} (ht : TL P ts ts') (hb : CL P bl bl') (ha : P a a') : CR P (.mk n ag ts bl b a) (.mk n ag ts' bl' b a')
inductive CL (P : Int → Int → Prop) : List CmdT → List CmdT → Prop
  | nil : CL P [] []
  | cons {t t' : CmdT} {l l' : List CmdT} (ht : CR P t t') (hl : CL P l l') : CL P (t :: l) (t' :: l')
end
/-- results alike -/
def ER {α β : Type} (P : Int → Int → Prop) (R : α → β → Prop) : Res α → Res β → Prop
  | .error e, .error e' => e.1 = e'.1 ∧ P e.2 e'.2
  | .ok p, .ok p' => R p.1 p'.1 ∧ Al P p.2 p'.2
  | _, _ => False
def OR {α β : Type} (P : Int → Int → Prop) (R : α → β → Prop) : Option (Res α) → Option (Res β) → Prop
  | none, none => True
  | some r, some r' => ER P R r r'
  | _, _ => False
theorem OR.err {α β : Type} {P : Int → Int → Prop} {R : α → β → Prop} {o : Option (Res β)} {e : Int × Int} (h : OR (α := α) P R (some (.error e)) o) : ∃ e', o = some (.error e') ∧ e.1 = e'.1 ∧ P e.2 e'.2 := by
  match o, h with
  | some (.error e'), h => exact ⟨e', rfl, h⟩
  | some (.ok p), h => exact h.elim
  | none, h => exact h.elim
theorem OR.ok {α β : Type} {P : Int → Int → Prop} {R : α → β → Prop} {o : Option (Res β)} {p : α × List Lex} (h : OR (α := α) P R (some (.ok p)) o) : ∃ p', o = some (.ok p') ∧ R p.1 p'.1 ∧ Al P p.2 p'.2 := by
  match o, h with
  | some (.error e'), h => exact h.elim
  | some (.ok p'), h => exact ⟨p', rfl, h⟩
  | none, h => exact h.elim
theorem OR.non {α β : Type} {P : Int → Int → Prop} {R : α → β → Prop} {o : Option (Res β)} (h : OR (α := α) P R none o) : o = none := by
  match o, h with
  | none, _ => rfl
  | some (.ok p'), h => exact h.elim
  | some (.error p'), h => exact h.elim
theorem ER.map {α β γ δ : Type} {P : Int → Int → Prop} {R : α → β → Prop} {S : γ → δ → Prop} {r : Res α} {r' : Res β} (h : ER P R r r') (f : α → γ) (g : β → δ) (hfg : ∀ a b, R a b → S (f a) (g b)) : ER P S (r.map fun p => (f p.1, p.2)) (r'.map fun p => (g p.1, p.2)) := by
  match r, r', h with
  | .error e, .error e', h => exact h
  | .ok p, .ok p', h => exact ⟨hfg _ _ h.1, h.2⟩
theorem OR.map {α β γ δ : Type} {P : Int → Int → Prop} {R : α → β → Prop} {S : γ → δ → Prop} {r : Option (Res α)} {r' : Option (Res β)} (h : OR P R r r') (f : α → γ) (g : β → δ) (hfg : ∀ a b, R a b → S (f a) (g b)) : OR P S (r.map fun e => e.map fun p => (f p.1, p.2)) (r'.map fun e => e.map fun p => (g p.1, p.2)) := by
  match r, r', h with
  | none, none, _ => trivial
  | some r, some r', h => exact ER.map h f g hfg
theorem Al.isM {P : Int → Int → Prop} {l l' : List Lex} (h : Al P l l') (c : UInt8) : isM c l = isM c l' := by
  cases h with
  | nil => rfl
  | @cons x y l l' hk ht hn ha h => show (decide (x.k = 5) && (x.t.data.toList == [c])) = (decide (y.k = 5) && (y.t.data.toList == [c])); rw [hk, ht]
theorem Al.tail {P : Int → Int → Prop} {l l' : List Lex} (h : Al P l l') : Al P l.tail l'.tail := by
  cases h with
  | nil => exact .nil
  | cons hk ht hn ha h => exact h
theorem Al.hd {P : Int → Int → Prop} {l l' : List Lex} (h : Al P l l') : l.head?.map (·.k) = l'.head?.map (·.k) := by
  cases h with
  | nil => rfl
  | @cons x y l l' hk ht hn ha h => show some x.k = some y.k; rw [hk]
theorem Al.atL {P : Int → Int → Prop} {E E' : Int} (hE : P E E') {l l' : List Lex} (h : Al P l l') : P (atL E l) (atL E' l') := by
  cases h with
  | nil => exact hE
  | cons hk ht hn ha h => exact ha
theorem mustR_al {P : Int → Int → Prop} {E E' : Int} (hE : P E E') {l l' : List Lex} (h : Al P l l') (c : UInt8) : ER P (fun _ _ => True) (mustR E c l) (mustR E' c l') := by
  unfold mustR
  rw [h.isM c]
  split
  · exact ⟨trivial, h.tail⟩
  · exact ⟨rfl, h.atL hE⟩
theorem nameR_al {P : Int → Int → Prop} {E E' : Int} (hE : P E E') {l l' : List Lex} (h : Al P l l') (d : Nat) : ER P (fun a b => a.1 = b.1 ∧ P a.2 b.2) (nameR E d l) (nameR E' d l') := by
  cases h with
  | nil => exact ⟨rfl, hE⟩
  | cons hk ht hn ha h =>
    rw [nameR_cons, nameR_cons, hk]
    split
    · split
      · exact ⟨rfl, ha⟩
      · exact ⟨⟨ht, ha⟩, h⟩
    · exact ⟨rfl, ha⟩
theorem textsR_al {P : Int → Int → Prop} {E E' : Int} (hE : P E E') : ∀ (m : Nat) {l l' : List Lex}, Al P l l' → OR P Eq (textsR E m l) (textsR E' m l')
  | 0, _, _, _ => trivial
  | m + 1, _, _, .nil => ⟨rfl, hE⟩
  | m + 1, _, _, .cons (x := x) (y := y) (l := l) (l' := l') hk ht hn ha h => by
    unfold textsR
    rw [hk, h.isM 44]
    by_cases h1 : y.k = 4
    · rw [if_pos h1, if_pos h1]
      by_cases h2 : isM 44 l' = true
      · rw [if_pos h2, if_pos h2]
        exact (textsR_al hE m h.tail).map (x.t :: ·) (y.t :: ·) fun a b e => by rw [e, ht]
      · rw [if_neg h2, if_neg h2]
        exact (mustR_al hE h 93).map (fun _ => [x.t]) (fun _ => [y.t]) fun a b e => by rw [ht]
    · rw [if_neg h1, if_neg h1]
      exact ⟨rfl, ha⟩
theorem argOf_al {x y : Lex} (hk : x.k = y.k) (ht : x.t = y.t) (hn : x.n = y.n) : argOf x = argOf y := by unfold argOf; rw [hk, ht, hn]
theorem argsR_al {P : Int → Int → Prop} {E E' : Int} (hE : P E E') : ∀ (m : Nat) {l l' : List Lex}, Al P l l' → OR P Eq (argsR E m l) (argsR E' m l')
  | 0, _, _, _ => trivial
  | m + 1, _, _, .nil => ⟨rfl, .nil⟩
  | m + 1, _, _, .cons (x := x) (y := y) (l := l) (l' := l') hk ht hn ha h => by
    have hc : Al P (x :: l) (y :: l') := .cons hk ht hn ha h
    unfold argsR
    rw [hc.isM 91, argOf_al hk ht hn]
    by_cases h1 : isM 91 (y :: l') = true
    · rw [if_pos h1, if_pos h1]
      have ih := textsR_al hE m h
      cases ht : textsR E m l with
      | none => rw [ht] at ih; rw [ih.non]; trivial
      | some r =>
        rw [ht] at ih
        cases r with
        | error e => obtain ⟨e', h2, h3⟩ := ih.err; rw [h2]; exact h3
        | ok p =>
          obtain ⟨p', h2, h3, h4⟩ := ih.ok
          rw [h2]
          simp only
          exact (argsR_al hE m h4).map _ _ fun a b e => by rw [e, h3]
    · rw [if_neg h1, if_neg h1]
      cases argOf y with
      | none => exact ⟨rfl, hc⟩
      | some b => exact (argsR_al hE m h).map _ _ fun a b e => by rw [e]
theorem tests_al {P : Int → Int → Prop} {E E' : Int} (hE : P E E') : ∀ (m : Nat), (∀ d l l', Al P l l' → OR P (TR P) (testR E m d l) (testR E' m d l')) ∧ (∀ d l l', Al P l l' → OR P (TL P) (testsR E m d l) (testsR E' m d l')) ∧ (∀ d l l', Al P l l' → OR P (TL P) (moreR E m d l) (moreR E' m d l'))
  | 0 => ⟨fun d l l' h => by (unfold testR; trivial), fun d l l' h => by (unfold testsR; trivial), fun d l l' h => by (unfold moreR; trivial)⟩
  | m + 1 => by
    obtain ⟨h1, h2, h3⟩ := tests_al hE m
    have next : ∀ d l l' (f : TestT → List TestT → List TestT), f = List.cons → Al P l l' → OR P (TL P) (match testR E m d l with | none => none | some (.error e) => some (.error e) | some (.ok (t, l1)) => (moreR E m d l1).map fun e => e.map fun p => (f t p.1, p.2)) (match testR E' m d l' with | none => none | some (.error e) => some (.error e) | some (.ok (t, l1)) => (moreR E' m d l1).map fun e => e.map fun p => (f t p.1, p.2)) := by
      intro d l l' f hf h
      subst hf
      have ih := h1 d l l' h
      cases ht : testR E m d l with
      | none => rw [ht] at ih; rw [ih.non]; trivial
      | some r =>
        rw [ht] at ih
        cases r with
        | error e => obtain ⟨e', h2, h3⟩ := ih.err; rw [h2]; exact h3
        | ok p =>
          obtain ⟨p', h4, h5, h6⟩ := ih.ok
          rw [h4]
          simp only
          exact OR.map (R := TL P) (S := TL P) (h3 d _ _ h6) (fun x => p.1 :: x) (fun x => p'.1 :: x) fun a b e => .cons h5 e
    refine ⟨fun d l l' h => ?_, fun d l l' h => ?_, fun d l l' h => ?_⟩
    · unfold testR
      have ihn := nameR_al hE h d
      revert ihn
      cases nameR E d l with
      | error e =>
        cases nameR E' d l' with
        | error e' => exact fun h => h
        | ok p => exact fun h => h.elim
      | ok p =>
        cases nameR E' d l' with
        | error e' => exact fun h => h.elim
        | ok p' =>
          rintro ⟨⟨q1, q2⟩, q3⟩
          simp only
          have ih := argsR_al hE m q3
          cases ht : argsR E m p.2 with
          | none => rw [ht] at ih; rw [ih.non]; trivial
          | some r =>
            rw [ht] at ih
            cases r with
            | error e => obtain ⟨e', h4, h5⟩ := ih.err; rw [h4]; exact h5
            | ok u =>
              obtain ⟨u', h4, h5, h6⟩ := ih.ok
              rw [h4]
              simp only
              refine OR.map (R := TL P) (S := TR P) (h2 (d + 1) _ _ h6) (fun x => TestT.mk p.1.1 u.1 x p.1.2) (fun x => TestT.mk p'.1.1 u'.1 x p'.1.2) fun a b e => ?_
              rw [q1, h5]
              exact .mk e q2
    · unfold testsR
      rw [h.hd, h.isM 40]
      by_cases c1 : l'.head?.map (·.k) = some 1
      · rw [if_pos c1, if_pos c1]
        exact OR.map (R := TR P) (S := TL P) (h1 d _ _ h) (fun x => [x]) (fun x => [x]) fun a b e => .cons e .nil
      · rw [if_neg c1, if_neg c1]
        by_cases c2 : isM 40 l' = true
        · rw [if_pos c2, if_pos c2]
          exact next d _ _ _ rfl h.tail
        · rw [if_neg c2, if_neg c2]
          exact ⟨.nil, h⟩
    · unfold moreR
      rw [h.isM 44]
      by_cases c2 : isM 44 l' = true
      · rw [if_pos c2, if_pos c2]
        exact next d _ _ _ rfl h.tail
      · rw [if_neg c2, if_neg c2]
        exact (mustR_al hE h 41).map (fun _ => []) (fun _ => []) fun _ _ _ => .nil
theorem cmd_al {P : Int → Int → Prop} {E E' : Int} (hE : P E E') : ∀ (m : Nat), (∀ d l l', Al P l l' → OR P (CR P) (cmdR E m d l) (cmdR E' m d l')) ∧ (∀ d l l', Al P l l' → OR P (CL P) (blockR E m d l) (blockR E' m d l'))
  | 0 => ⟨fun d l l' h => by (unfold cmdR; trivial), fun d l l' h => by (unfold blockR; trivial)⟩
  | m + 1 => by
    obtain ⟨h1, h2⟩ := cmd_al hE m
    refine ⟨fun d l l' h => ?_, fun d l l' h => ?_⟩
    · unfold cmdR
      have ihn := nameR_al hE h d
      revert ihn
      cases nameR E d l with
      | error e =>
        cases nameR E' d l' with
        | error e' => exact fun h => h
        | ok p => exact fun h => h.elim
      | ok p =>
        cases nameR E' d l' with
        | error e' => exact fun h => h.elim
        | ok p' =>
          rintro ⟨⟨q1, q2⟩, q3⟩
          simp only
          have ih := argsR_al hE m q3
          cases ht : argsR E m p.2 with
          | none => rw [ht] at ih; rw [ih.non]; trivial
          | some r =>
            rw [ht] at ih
            cases r with
            | error e => obtain ⟨e', h4, h5⟩ := ih.err; rw [h4]; exact h5
            | ok u =>
              obtain ⟨u', h4, h5, h6⟩ := ih.ok
              rw [h4]
              simp only
              have ih2 := (tests_al hE m).2.1 (d + 1) _ _ h6
              cases ht2 : testsR E m (d + 1) u.2 with
              | none => rw [ht2] at ih2; rw [ih2.non]; trivial
              | some r =>
                rw [ht2] at ih2
                cases r with
                | error e => obtain ⟨e', h7, h8⟩ := ih2.err; rw [h7]; exact h8
                | ok v =>
                  obtain ⟨v', h7, h8, h9⟩ := ih2.ok
                  rw [h7]
                  simp only
                  rw [h9.isM 123]
                  by_cases c1 : isM 123 v'.2 = true
                  · rw [if_pos c1, if_pos c1]
                    refine OR.map (R := CL P) (S := CR P) (h2 (d + 1) _ _ h9.tail) (fun x => CmdT.mk p.1.1 u.1 v.1 x true p.1.2) (fun x => CmdT.mk p'.1.1 u'.1 v'.1 x true p'.1.2) fun a b e => ?_
                    rw [q1, h5]
                    exact .mk h8 e q2
                  · rw [if_neg c1, if_neg c1]
                    refine ER.map (R := fun _ _ => True) (S := CR P) (mustR_al hE h9 59) (fun _ => CmdT.mk p.1.1 u.1 v.1 [] false p.1.2) (fun _ => CmdT.mk p'.1.1 u'.1 v'.1 [] false p'.1.2) fun _ _ _ => ?_
                    rw [q1, h5]
                    exact .mk h8 .nil q2
    · unfold blockR
      rw [h.isM 125]
      by_cases c1 : isM 125 l' = true
      · rw [if_pos c1, if_pos c1]
        exact ⟨.nil, h.tail⟩
      · rw [if_neg c1, if_neg c1]
        have ih := h1 d l l' h
        cases ht : cmdR E m d l with
        | none => rw [ht] at ih; rw [ih.non]; trivial
        | some r =>
          rw [ht] at ih
          cases r with
          | error e => obtain ⟨e', h2, h3⟩ := ih.err; rw [h2]; exact h3
          | ok p =>
            obtain ⟨p', h4, h5, h6⟩ := ih.ok
            rw [h4]
            simp only
            exact OR.map (R := CL P) (S := CL P) (h2 d _ _ h6) (fun x => p.1 :: x) (fun x => p'.1 :: x) fun a b e => .cons h5 e
/-- a script's result, alike -/
def PRel (P : Int → Int → Prop) : Except (Int × Int) (List CmdT) → Except (Int × Int) (List CmdT) → Prop
  | .error e, .error e' => e.1 = e'.1 ∧ P e.2 e'.2
  | .ok p, .ok p' => CL P p p'
  | _, _ => False
theorem parse_al {P : Int → Int → Prop} {E E' : Int} (hE : P E E') : ∀ (m : Nat) {l l' : List Lex} r, Al P l l' → parseR E m l = some r → ∃ r', parseR E' m l' = some r' ∧ PRel P r r'
  | m + 1, _, _, r, .nil, h => by
    injection h with h
    subst h
    exact ⟨_, rfl, .nil⟩
  | m + 1, _, _, r, .cons (x := x) (y := y) (l := l) (l' := l') hk ht hn ha h, hr => by
    unfold parseR at hr ⊢
    have ih := (cmd_al hE m).1 0 _ _ (.cons hk ht hn ha h)
    cases hc : cmdR E m 0 (x :: l) with
    | none => rw [hc] at hr; cases hr
    | some u =>
      rw [hc] at hr ih
      cases u with
      | error e =>
        obtain ⟨e', h2, h3⟩ := ih.err
        rw [h2]
        injection hr with hr
        subst hr
        exact ⟨_, rfl, h3⟩
      | ok p =>
        obtain ⟨p', h4, h5, h6⟩ := ih.ok
        rw [h4]
        simp only at hr ⊢
        cases hp : parseR E m p.2 with
        | none => rw [hp] at hr; cases hr
        | some u =>
          rw [hp] at hr
          obtain ⟨u', h7, h8⟩ := parse_al hE m _ h6 hp
          rw [h7]
          injection hr with hr
          subst hr
          refine ⟨_, rfl, ?_⟩
          match u, u', h8 with
          | .error e, .error e', h8 => exact h8
          | .ok q, .ok q', h8 => exact .cons h5 h8

/-! what follows behind -/
theorem isM_app {c : UInt8} {l : List Lex} (h : l ≠ []) (Z : List Lex) : isM c (l ++ Z) = isM c l := by
  cases l with
  | nil => exact absurd rfl h
  | cons x r => rfl
theorem tail_app {l : List Lex} (h : l ≠ []) (Z : List Lex) : (l ++ Z).tail = l.tail ++ Z := by
  cases l with
  | nil => exact absurd rfl h
  | cons x r => rfl
theorem isM_ne {c : UInt8} {l : List Lex} (h : isM c l = true) : l ≠ [] := by
  intro e; subst e; cases h
theorem mustR_app {E E' : Int} {c : UInt8} {l Z : List Lex} {p} (h : mustR E c l = .ok p) : mustR E' c (l ++ Z) = .ok ((), p.2 ++ Z) := by
  obtain ⟨h1, rfl⟩ := mustR_ok h
  unfold mustR
  rw [isM_app (isM_ne h1), if_pos h1, tail_app (isM_ne h1)]
theorem nameR_app {E E' : Int} {d : Nat} {l Z : List Lex} {p} (h : nameR E d l = .ok p) : nameR E' d (l ++ Z) = .ok (p.1, p.2 ++ Z) := by
  obtain ⟨x, r, rfl, h1, h2, rfl⟩ := nameR_ok h
  rw [List.cons_append, nameR_cons, if_pos h1, if_neg (by omega)]
theorem textsR_app {E E' : Int} : ∀ {m : Nat} {l Z : List Lex} {p}, textsR E m l = some (.ok p) → textsR E' m (l ++ Z) = some (.ok (p.1, p.2 ++ Z))
  | m + 1, [], Z, p, h => by injection h with h; cases h
  | m + 1, x :: r, Z, p, h => by
    rw [List.cons_append]
    unfold textsR at h ⊢
    by_cases h1 : x.k = 4
    · rw [if_pos h1] at h ⊢
      by_cases h2 : isM 44 r = true
      · rw [if_pos h2] at h
        rw [isM_app (isM_ne h2), if_pos h2, tail_app (isM_ne h2)]
        cases ht : textsR E m r.tail with
        | none => rw [ht] at h; cases h
        | some q =>
          rw [ht] at h
          injection h with h
          obtain ⟨u, rfl, rfl⟩ := emap_ok h
          rw [textsR_app ht]
          rfl
      · rw [if_neg h2] at h
        injection h with h
        obtain ⟨u, hu, rfl⟩ := emap_ok h
        have h3 := mustR_ok hu
        have h4 := isM_ne h3.1
        rw [isM_app h4, if_neg h2, mustR_app hu]
        rfl
    · rw [if_neg h1] at h
      injection h with h
      cases h
theorem argsR_app {E E' : Int} : ∀ {m : Nat} {l Z : List Lex} {p}, argsR E m l = some (.ok p) → p.2 ≠ [] → argsR E' m (l ++ Z) = some (.ok (p.1, p.2 ++ Z))
  | m + 1, [], Z, p, h, hp => by injection h with h; injection h with h; rw [← h] at hp; exact absurd rfl hp
  | m + 1, x :: r, Z, p, h, hp => by
    rw [List.cons_append]
    unfold argsR at h ⊢
    have e1 : isM 91 (x :: (r ++ Z)) = isM 91 (x :: r) := rfl
    rw [e1]
    by_cases h1 : isM 91 (x :: r) = true
    · rw [if_pos h1] at h ⊢
      cases ht : textsR E m r with
      | none => rw [ht] at h; cases h
      | some q =>
        rw [ht] at h
        cases q with
        | error e => injection h with h; cases h
        | ok q =>
          rw [textsR_app ht]
          simp only at h ⊢
          cases ha : argsR E m q.2 with
          | none => rw [ha] at h; cases h
          | some u =>
            rw [ha] at h
            injection h with h
            obtain ⟨v, rfl, rfl⟩ := emap_ok h
            rw [argsR_app ha hp]
            rfl
    · rw [if_neg h1] at h ⊢
      cases hx : argOf x with
      | none =>
        rw [hx] at h
        injection h with h
        injection h with h
        rw [← h]
        rfl
      | some b =>
        rw [hx] at h
        simp only at h ⊢
        cases ha : argsR E m r with
        | none => rw [ha] at h; cases h
        | some u =>
          rw [ha] at h
          injection h with h
          obtain ⟨v, rfl, rfl⟩ := emap_ok h
          rw [argsR_app ha hp]
          rfl
theorem ne_of_len {l l' : List Lex} (h : l.length ≤ l'.length) (hl : l ≠ []) : l' ≠ [] := by
  intro e
  subst e
  exact hl (List.eq_nil_of_length_eq_zero (by simpa using h))
theorem tests_app {E E' : Int} : ∀ (m : Nat), (∀ d l Z p, testR E m d l = some (.ok p) → p.2 ≠ [] → testR E' m d (l ++ Z) = some (.ok (p.1, p.2 ++ Z))) ∧ (∀ d l Z p, testsR E m d l = some (.ok p) → p.2 ≠ [] → testsR E' m d (l ++ Z) = some (.ok (p.1, p.2 ++ Z))) ∧ (∀ d l Z p, moreR E m d l = some (.ok p) → moreR E' m d (l ++ Z) = some (.ok (p.1, p.2 ++ Z)))
  | 0 => ⟨fun d l Z p h => by (unfold testR at h; cases h), fun d l Z p h => by (unfold testsR at h; cases h), fun d l Z p h => by (unfold moreR at h; cases h)⟩
  | m + 1 => by
    obtain ⟨h1, h2, h3⟩ := tests_app (E := E) (E' := E') m
    have next : ∀ d l Z p, (match testR E m d l with | none => none | some (.error e) => some (.error e) | some (.ok (t, l1)) => (moreR E m d l1).map fun e => e.map fun p => (t :: p.1, p.2)) = some (.ok p) → (match testR E' m d (l ++ Z) with | none => none | some (.error e) => some (.error e) | some (.ok (t, l1)) => (moreR E' m d l1).map fun e => e.map fun p => (t :: p.1, p.2)) = some (.ok (p.1, p.2 ++ Z)) := by
      intro d l Z p h
      cases ht : testR E m d l with
      | none => rw [ht] at h; cases h
      | some r =>
        rw [ht] at h
        cases r with
        | error e => injection h with h; cases h
        | ok q =>
          simp only at h
          cases hm : moreR E m d q.2 with
          | none => rw [hm] at h; cases h
          | some u =>
            rw [hm] at h
            injection h with h
            obtain ⟨v, rfl, rfl⟩ := emap_ok h
            have hne : q.2 ≠ [] := by
              intro e
              rw [e] at hm
              cases m with
              | zero => unfold moreR at hm; cases hm
              | succ m => unfold moreR at hm; injection hm with hm; cases hm
            rw [h1 d l Z q ht hne]
            simp only
            rw [h3 d _ Z v hm]
            rfl
    refine ⟨fun d l Z p h hp => ?_, fun d l Z p h hp => ?_, fun d l Z p h => ?_⟩
    · unfold testR at h ⊢
      cases hn : nameR E d l with
      | error e => rw [hn] at h; injection h with h; cases h
      | ok q =>
        rw [hn] at h
        rw [nameR_app hn]
        simp only at h ⊢
        cases ha : argsR E m q.2 with
        | none => rw [ha] at h; cases h
        | some r =>
          rw [ha] at h
          cases r with
          | error e => injection h with h; cases h
          | ok u =>
            simp only at h
            cases ht : testsR E m (d + 1) u.2 with
            | none => rw [ht] at h; cases h
            | some v =>
              rw [ht] at h
              injection h with h
              obtain ⟨v, rfl, rfl⟩ := emap_ok h
              have hl : v.2.length ≤ u.2.length := by
                obtain ⟨r, k1, k2⟩ := (tests_end E (max m (2 * u.2.length + 2))).2.1 (d + 1) u.2 (Nat.le_max_right _ _)
                have := (tests_more E m _ (Nat.le_max_left m (2 * u.2.length + 2))).2.1 _ _ _ ht
                rw [this] at k1
                injection k1 with k1
                exact k2 v k1.symm
              rw [argsR_app ha (ne_of_len hl hp)]
              simp only
              rw [h2 _ _ Z v ht hp]
              rfl
    · unfold testsR at h ⊢
      by_cases hl : l = []
      · subst hl
        rw [if_neg (by simp), if_neg (by intro e; cases e)] at h
        injection h with h; injection h with h
        rw [← h] at hp
        exact absurd rfl hp
      · have e1 : (l ++ Z).head?.map (·.k) = l.head?.map (·.k) := by
          cases l with
          | nil => exact absurd rfl hl
          | cons x r => rfl
        rw [e1, isM_app hl, tail_app hl]
        by_cases c1 : l.head?.map (·.k) = some 1
        · rw [if_pos c1] at h ⊢
          cases ht : testR E m d l with
          | none => rw [ht] at h; cases h
          | some v =>
            rw [ht] at h
            injection h with h
            obtain ⟨v, rfl, rfl⟩ := emap_ok h
            rw [h1 d l Z v ht hp]
            rfl
        · rw [if_neg c1] at h ⊢
          by_cases c2 : isM 40 l = true
          · rw [if_pos c2] at h ⊢
            exact next d _ Z p h
          · rw [if_neg c2] at h ⊢
            injection h with h; injection h with h
            rw [← h]
    · unfold moreR at h ⊢
      have hl : l ≠ [] := by
        intro e
        subst e
        rw [if_neg (by intro e; cases e)] at h
        injection h with h
        cases h
      rw [isM_app hl, tail_app hl]
      by_cases c2 : isM 44 l = true
      · rw [if_pos c2] at h ⊢
        exact next d _ Z p h
      · rw [if_neg c2] at h ⊢
        injection h with h
        obtain ⟨u, hu, rfl⟩ := emap_ok h
        rw [mustR_app hu]
        rfl
theorem testsR_len {E : Int} {m d : Nat} {l : List Lex} {p} (h : testsR E m d l = some (.ok p)) : p.2.length ≤ l.length := by
  obtain ⟨r, k1, k2⟩ := (tests_end E (max m (2 * l.length + 2))).2.1 d l (Nat.le_max_right _ _)
  have := (tests_more E m _ (Nat.le_max_left m (2 * l.length + 2))).2.1 _ _ _ h
  rw [this] at k1
  injection k1 with k1
  exact k2 p k1.symm
theorem cmd_app {E E' : Int} : ∀ (m : Nat), (∀ d l Z p, cmdR E m d l = some (.ok p) → cmdR E' m d (l ++ Z) = some (.ok (p.1, p.2 ++ Z))) ∧ (∀ d l Z p, blockR E m d l = some (.ok p) → blockR E' m d (l ++ Z) = some (.ok (p.1, p.2 ++ Z)))
  | 0 => ⟨fun d l Z p h => by (unfold cmdR at h; cases h), fun d l Z p h => by (unfold blockR at h; cases h)⟩
  | m + 1 => by
    obtain ⟨h1, h2⟩ := cmd_app (E := E) (E' := E') m
    refine ⟨fun d l Z p h => ?_, fun d l Z p h => ?_⟩
    · unfold cmdR at h ⊢
      cases hn : nameR E d l with
      | error e => rw [hn] at h; injection h with h; cases h
      | ok q =>
        rw [hn] at h
        rw [nameR_app hn]
        simp only at h ⊢
        cases ha : argsR E m q.2 with
        | none => rw [ha] at h; cases h
        | some r =>
          rw [ha] at h
          cases r with
          | error e => injection h with h; cases h
          | ok u =>
            simp only at h
            cases ht : testsR E m (d + 1) u.2 with
            | none => rw [ht] at h; cases h
            | some v =>
              rw [ht] at h
              cases v with
              | error e => injection h with h; cases h
              | ok v =>
                have hl := testsR_len ht
                simp only at h
                by_cases c1 : isM 123 v.2 = true
                · rw [if_pos c1] at h
                  have hv := isM_ne c1
                  rw [argsR_app ha (ne_of_len hl hv)]
                  simp only
                  rw [(tests_app m).2.1 _ _ Z v ht hv]
                  simp only
                  rw [isM_app hv, if_pos c1, tail_app hv]
                  cases hb : blockR E m (d + 1) v.2.tail with
                  | none => rw [hb] at h; cases h
                  | some r =>
                    rw [hb] at h
                    injection h with h
                    obtain ⟨k, rfl, rfl⟩ := emap_ok h
                    rw [h2 _ _ Z k hb]
                    rfl
                · rw [if_neg c1] at h
                  injection h with h
                  obtain ⟨k, hk, rfl⟩ := emap_ok h
                  have hv := isM_ne (mustR_ok hk).1
                  rw [argsR_app ha (ne_of_len hl hv)]
                  simp only
                  rw [(tests_app m).2.1 _ _ Z v ht hv]
                  simp only
                  rw [isM_app hv, if_neg c1, mustR_app hk]
                  rfl
    · unfold blockR at h ⊢
      by_cases c1 : isM 125 l = true
      · rw [if_pos c1] at h
        have hv := isM_ne c1
        rw [isM_app hv, if_pos c1, tail_app hv]
        injection h with h; injection h with h
        rw [← h]
      · rw [if_neg c1] at h
        have hv : l ≠ [] := by
          intro e
          subst e
          cases m with
          | zero => unfold cmdR at h; cases h
          | succ m =>
            unfold cmdR at h
            cases h
        rw [isM_app hv, if_neg c1]
        cases ht : cmdR E m d l with
        | none => rw [ht] at h; cases h
        | some r =>
          rw [ht] at h
          cases r with
          | error e => injection h with h; cases h
          | ok q =>
            simp only at h
            rw [h1 d l Z q ht]
            simp only
            cases hb : blockR E m d q.2 with
            | none => rw [hb] at h; cases h
            | some r =>
              rw [hb] at h
              injection h with h
              obtain ⟨k, rfl, rfl⟩ := emap_ok h
              rw [h2 _ _ Z k hb]
              rfl
/-- a script that is well, with another behind it -/
theorem parse_app {E E' : Int} : ∀ (m : Nat) (l Z : List Lex) (a : List CmdT) (m' : Nat) r, parseR E m l = some (.ok a) → parseR E' m' Z = some r → ∃ M, parseR E' M (l ++ Z) = some (r.map fun b => a ++ b)
  | m + 1, [], Z, a, m', r, h, hZ => by
    injection h with h; injection h with h
    subst h
    refine ⟨m', ?_⟩
    rw [List.nil_append, hZ]
    cases r <;> rfl
  | m + 1, x :: q, Z, a, m', r, h, hZ => by
    unfold parseR at h
    cases hc : cmdR E m 0 (x :: q) with
    | none => rw [hc] at h; cases h
    | some u =>
      rw [hc] at h
      cases u with
      | error e => injection h with h; cases h
      | ok p =>
        simp only at h
        cases hp : parseR E m p.2 with
        | none => rw [hp] at h; cases h
        | some u =>
          rw [hp] at h
          injection h with h
          obtain ⟨v, rfl, rfl⟩ := (show ∃ v, u = .ok v ∧ a = p.1 :: v from by cases u with | error e => cases h | ok v => injection h with h; exact ⟨v, rfl, h.symm⟩)
          obtain ⟨M, hM⟩ := parse_app m p.2 Z v m' r hp hZ
          refine ⟨max m M + 1, ?_⟩
          rw [List.cons_append]
          unfold parseR
          have e1 := (cmd_more E' m (max m M) (Nat.le_max_left _ _)).1 _ _ _ ((cmd_app (E := E) (E' := E') m).1 0 _ Z _ hc)
          rw [List.cons_append] at e1
          rw [e1]
          simp only
          rw [parse_more E' M (max m M) _ _ (Nat.le_max_right _ _) hM]
          cases r <;> rfl
theorem parse_det {E : Int} {m m' : Nat} {l : List Lex} {r r'} (h : parseR E m l = some r) (h' : parseR E m' l = some r') : r = r' := by
  have h1 := parse_more E m (max m m') l r (Nat.le_max_left _ _) h
  have h2 := parse_more E m' (max m m') l r' (Nat.le_max_right _ _) h'
  rw [h1] at h2
  injection h2
end Sv
namespace Sv
open Go Lx C1

/-! the text of a tree -/
def joinL (sep : List UInt8) : List (List UInt8) → List UInt8
  | [] => []
  | x :: r => x ++ r.flatMap (sep ++ ·)
def numW (n : Int) : List UInt8 := if 999999999999 < n then Lib.itoa (n / 1024) ++ [75] else Lib.itoa n
def argW (a : ArgT) : List UInt8 :=
  if a.k = 1 then 32 :: 58 :: a.tag.data.toList else if a.k = 2 then 32 :: numW a.n
  else 32 :: (if a.list = true then 91 :: (joinL [44, 32] (a.texts.map fun t => textL t.data.toList) ++ [93]) else joinL [44, 32] (a.texts.map fun t => textL t.data.toList))
def endW : List (List UInt8) → List UInt8
  | [] => []
  | [x] => 32 :: x
  | x :: y :: r => 32 :: 40 :: (joinL [44, 32] (x :: y :: r) ++ [41])
def whatW (n : ByteArray) (ag : List ArgT) (ks : List (List UInt8)) : List UInt8 := n.data.toList ++ ag.flatMap argW ++ endW ks
mutual
def testW : TestT → List UInt8
  | .mk n ag ks _ => whatW n ag (testsW ks)
def testsW : List TestT → List (List UInt8)
  | [] => []
  | t :: r => testW t :: testsW r
end
mutual
def cmdW : CmdT → List UInt8
  | .mk n ag ts bl br _ => whatW n ag (testsW ts) ++ (if br = true then [32, 123, 10] ++ cmdsW bl ++ [125, 10] else [59, 10])
def cmdsW : List CmdT → List UInt8
  | [] => []
  | c :: r => cmdW c ++ cmdsW r
end
/-! its tokens -/
def mk (c : UInt8) : Tok := ⟨5, [c], 0⟩
def joinT (sep : Tok) : List (List Tok) → List Tok
  | [] => []
  | x :: r => x ++ r.flatMap (sep :: ·)
def txK (t : ByteArray) : List Tok := [⟨4, t.data.toList, 0⟩]
def argK (a : ArgT) : List Tok :=
  if a.k = 1 then [⟨2, a.tag.data.toList, 0⟩] else if a.k = 2 then [⟨3, [], a.n.toNat⟩]
  else if a.list = true then mk 91 :: (joinT (mk 44) (a.texts.map txK) ++ [mk 93]) else joinT (mk 44) (a.texts.map txK)
def endK : List (List Tok) → List Tok
  | [] => []
  | [x] => x
  | x :: y :: r => mk 40 :: (joinT (mk 44) (x :: y :: r) ++ [mk 41])
def whatK (n : ByteArray) (ag : List ArgT) (ks : List (List Tok)) : List Tok := ⟨1, n.data.toList, 0⟩ :: (ag.flatMap argK ++ endK ks)
mutual
def testK : TestT → List Tok
  | .mk n ag ks _ => whatK n ag (testsK ks)
def testsK : List TestT → List (List Tok)
  | [] => []
  | t :: r => testK t :: testsK r
end
mutual
def cmdK : CmdT → List Tok
  | .mk n ag ts bl br _ => whatK n ag (testsK ts) ++ (if br = true then mk 123 :: (cmdsK bl ++ [mk 125]) else [mk 59])
def cmdsK : List CmdT → List Tok
  | [] => []
  | c :: r => cmdK c ++ cmdsK r
end
/-! valid trees -/
def fitsB (a : ArgT) : Bool :=
  if a.k = 1 then nameB a.tag.data.toList && (decide (a.n = 0) && (decide (a.texts.length = 0) && !a.list))
  else if a.k = 2 then decide (a.tag.size = 0) && (decide (a.texts.length = 0) && (!a.list && (decide (0 ≤ a.n) && (decide (a.n ≤ 999999999999) || (decide (a.n ≤ 1099511627776) && decide (a.n % 1024 = 0))))))
  else if a.k = 3 then decide (a.tag.size = 0) && (decide (a.n = 0) && (decide (0 < a.texts.length) && (a.list || decide (a.texts.length = 1))))
  else false
mutual
def rightT (d : Nat) : TestT → Bool
  | .mk n ag ks _ => decide (d ≤ 8) && (nameB n.data.toList && (ag.all fitsB && rightsT (d + 1) ks))
def rightsT (d : Nat) : List TestT → Bool
  | [] => true
  | t :: r => rightT d t && rightsT d r
end
def mayB (d : Nat) (n : ByteArray) (ag : List ArgT) (ts : List TestT) : Bool := decide (d ≤ 8) && (nameB n.data.toList && (ag.all fitsB && rightsT (d + 1) ts))
mutual
def rightC (d : Nat) : CmdT → Bool
  | .mk n ag ts bl br _ => mayB d n ag ts && ((br || bl.isEmpty) && rightsC (d + 1) bl)
def rightsC (d : Nat) : List CmdT → Bool
  | [] => true
  | c :: r => rightC d c && rightsC d r
end

/-! what is written, read: words -/
def gd (Z : List UInt8) : Prop := hdW Z = false ∧ Z.head? ≠ some 58
def LxA (any : Bool) (s : List UInt8) (ts : List Tok) : Prop :=
  ∀ Z k ts' e, (any = true ∨ gd Z) → Run Z (k + s.length) ts' e → ∃ tp, tp.map (·.1) = ts ∧ Run (s ++ Z) k (tp ++ ts') e
theorem gd_app {s Z : List UInt8} (h : gd s) (hs : s ≠ []) : gd (s ++ Z) := by
  cases s with
  | nil => exact absurd rfl hs
  | cons c r => exact h
theorem LxA.app {b b' : Bool} {s s' : List UInt8} {ts ts' : List Tok} (h : LxA b s ts) (h' : LxA b' s' ts') (hg : b = true ∨ (s' ≠ [] ∧ gd s')) : LxA b' (s ++ s') (ts ++ ts') := by
  intro Z k tz e hZ hr
  rw [List.length_append, ← Nat.add_assoc] at hr
  obtain ⟨tp', h1, h2⟩ := h' Z _ _ _ hZ hr
  obtain ⟨tp, h3, h4⟩ := h (s' ++ Z) k _ _ (hg.imp_right fun g => gd_app g.2 g.1) h2
  exact ⟨tp ++ tp', by rw [List.map_append, h3, h1], by rw [List.append_assoc, List.append_assoc]; exact h4⟩
theorem LxA.weak {s : List UInt8} {ts : List Tok} {b : Bool} (h : LxA true s ts) : LxA b s ts := fun Z k ts' e _ hr => h Z k ts' e (.inl rfl) hr
theorem LxA.nil (b : Bool) : LxA b [] [] := fun Z k ts' e _ hr => ⟨[], rfl, hr⟩
theorem LxA.wr {w : List UInt8} {t : Tok} (h : Wr w t) : LxA false w [t] := by
  intro Z k ts' e hZ hr
  rcases hZ with hZ | hZ
  · cases hZ
  · have h0 : 0 < w.length := List.length_pos_iff.2 h.1
    refine ⟨[(t, k)], rfl, Run.tok (by simp [h.1]) ?_ (tokenL_app w (32 :: []) Z t (by simp) h0 (.inr hZ) (h.2 []).2) ?_⟩
    · refine spaceL_tok w (32 :: []) Z h.1 (fun e => tok_hd (h.2 []).2 ?_) (h.2 []).1
      cases w with
      | nil => exact absurd rfl h.1
      | cons c r => exact e
    · rw [drop_app (Nat.le_refl _), List.drop_eq_nil_of_le (Nat.le_refl _), List.nil_append]; exact hr
theorem LxA.mark {c : UInt8} (h : isMk c = true) : LxA true [c] [mk c] := by
  intro Z k ts' e _ hr
  exact ⟨[(mk c, k)], rfl, Run.tok (by simp) (read_mark h Z).1 (read_mark h Z).2 hr⟩
theorem LxA.blank {c : UInt8} (h : isWs c = true) : LxA true [c] [] := by
  intro Z k ts' e _ hr
  exact ⟨[], rfl, Run.sp (n := 1) (by decide) (by rw [List.singleton_append, spaceL_cons, if_pos h]) hr⟩
theorem LxA.nl {b : Bool} {s : List UInt8} {ts : List Tok} {c : UInt8} (h : isWs c = true) (hs : LxA b s ts) : LxA b (c :: s) ts := by
  have := (LxA.blank h).app hs (.inl rfl)
  exact this
theorem LxA.mk' {b : Bool} {s : List UInt8} {ts : List Tok} {c : UInt8} (h : isMk c = true) (hs : LxA b s ts) : LxA b (c :: s) (mk c :: ts) := (LxA.mark h).app hs (.inl rfl)
theorem LxA.run {b : Bool} {s : List UInt8} {ts : List Tok} (h : LxA b s ts) : ∃ tp, tp.map (·.1) = ts ∧ Run s 0 tp none := by
  obtain ⟨tp, h1, h2⟩ := h [] 0 [] none (.inr ⟨rfl, by simp⟩) (Run.fin _)
  rw [List.append_nil, List.append_nil] at h2
  exact ⟨tp, h1, h2⟩

/-! numbers with a suffix -/
theorem read_k {u : Nat} {c : UInt8} (h : u ≤ 1073741824) (hc : kmg c = 1) : Wr (Lib.decDigits u ++ [c]) ⟨3, [], u * 1024⟩ := by
  have hcc : c = 75 ∨ c = 107 := by
    unfold kmg at hc
    by_cases h1 : c = 75 ∨ c = 107
    · exact h1
    · rw [if_neg h1] at hc
      by_cases h2 : c = 77 ∨ c = 109
      · rw [if_pos h2] at hc; cases hc
      · rw [if_neg h2] at hc
        by_cases h3 : c = 71 ∨ c = 103
        · rw [if_pos h3] at hc; cases hc
        · rw [if_neg h3] at hc; cases hc
  have hnd : ∀ Z, hdP isDig (c :: Z) = false := fun Z => by rcases hcc with rfl | rfl <;> rfl
  have hl := dd_len 11 u (by simp; omega)
  have hd := dd_digits u
  have hv := dd_val u
  have hne := dd_ne u
  refine ⟨by simp, fun Z => ?_⟩
  have hs := span_all isDig (Lib.decDigits u) (c :: 32 :: Z) hd (hnd _)
  have e1 : Lib.decDigits u ++ [c] ++ 32 :: Z = Lib.decDigits u ++ c :: 32 :: Z := by simp
  rw [e1, List.length_append, List.length_singleton]
  generalize Lib.decDigits u = l at *
  have hn : numL (l ++ c :: 32 :: Z) = some (u * 1024, l.length + 1) := by
    unfold numL
    simp only
    have k0 : hdK ([] ++ c :: 32 :: Z) = 1 := hc
    have k1 : (l ++ c :: 32 :: Z).drop (l.length + 1) = 32 :: Z := by rw [← List.drop_drop, drop_app (Nat.le_refl _), List.drop_eq_nil_of_le (Nat.le_refl _)]; rfl
    rw [hs, k1, take_app (Nat.le_refl _), List.take_of_length_le (Nat.le_refl _), drop_app (Nat.le_refl _), List.drop_eq_nil_of_le (Nat.le_refl _), hv, if_neg (by unfold most; omega), k0, if_neg (by decide), if_neg (by unfold most; omega), if_neg (by show ¬ false = true; decide), Nat.pow_one]
  cases l with
  | nil => exact absurd rfl hne
  | cons x r =>
    have hx := hd x (by simp)
    have hx' := (digC_iff x).1 hx
    have e0 : identL (x :: (r ++ c :: 32 :: Z)) = 0 := by
      rw [identL_cons, if_neg]
      unfold isLet
      rw [decide_eq_true_iff]; omega
    rw [List.cons_append] at hn ⊢
    refine ⟨?_, ?_⟩
    · rw [spaceL_cons, if_neg, if_neg, if_neg]
      · rintro ⟨rfl, -⟩; simp at hx'
      · rintro rfl; simp at hx'
      · intro h
        unfold isWs at h
        rcases of_decide_eq_true h with rfl | rfl | rfl | rfl <;> simp at hx'
    · rw [tokenL_cons e0, if_neg (by rintro ⟨rfl, -⟩; simp at hx'), if_pos (show isDig x = true from hx), hn]
      rfl
/-- a number that may stand in a script -/
def numOk (n : Int) : Prop := 0 ≤ n ∧ (n ≤ 999999999999 ∨ (n ≤ 1099511627776 ∧ n % 1024 = 0))
theorem wr_numW {n : Int} (h : numOk n) : Wr (numW n) ⟨3, [], n.toNat⟩ := by
  obtain ⟨h0, h1⟩ := h
  obtain ⟨u, rfl⟩ := Int.eq_ofNat_of_zero_le h0
  unfold numW
  by_cases hb : (999999999999 : Int) < (u : Int)
  · rw [if_pos hb]
    have h2 : (u : Int) ≤ 1099511627776 ∧ (u : Int) % 1024 = 0 := by
      rcases h1 with h1 | h1
      · omega
      · exact h1
    have e1 : ((u : Int) / 1024) = ((u / 1024 : Nat) : Int) := by omega
    rw [e1, Lib.itoa_nonneg]
    have := read_k (u := u / 1024) (c := 75) (by omega) rfl
    have e2 : u / 1024 * 1024 = u := by omega
    rw [e2] at this
    exact this
  · rw [if_neg hb, Lib.itoa_nonneg]
    exact wr_num (by omega)

/-! valid trees, read as words -/
inductive L2 : List (List UInt8) → List (List Tok) → Prop
  | nil : L2 [] []
  | cons {s : List UInt8} {ts : List Tok} {l : List (List UInt8)} {l' : List (List Tok)} (h : LxA false s ts) (hl : L2 l l') : L2 (s :: l) (ts :: l')
theorem gd_mk {c : UInt8} {Z : List UInt8} (h : isMk c = true) : gd (c :: Z) := by
  have hc := of_decide_eq_true (show decide _ = true from h)
  rcases hc with rfl | rfl | rfl | rfl | rfl | rfl | rfl | rfl <;> exact ⟨rfl, by simp⟩
theorem gd_sp (Z : List UInt8) : gd (32 :: Z) := ⟨rfl, by simp⟩
theorem l2_tail {l : List (List UInt8)} {l' : List (List Tok)} (h : L2 l l') : ∀ {s : List UInt8} {ts : List Tok}, LxA false s ts → LxA false (s ++ l.flatMap ([44, 32] ++ ·)) (ts ++ l'.flatMap (mk 44 :: ·)) := by
  induction h with
  | nil => intro s ts hs; simpa using hs
  | @cons x tx l l' hx hl ih =>
    intro s ts hs
    rw [List.flatMap_cons, List.flatMap_cons, ← List.append_assoc s, ← List.append_assoc ts]
    refine ih (hs.app (s' := [44, 32] ++ x) ?_ (.inr ⟨by simp, gd_mk rfl⟩))
    exact LxA.mk' rfl (LxA.nl rfl hx)
theorem l2_join {l : List (List UInt8)} {l' : List (List Tok)} (h : L2 l l') (hne : l ≠ []) : LxA false (joinL [44, 32] l) (joinT (mk 44) l') := by
  cases h with
  | nil => exact absurd rfl hne
  | cons hx hl => exact l2_tail hl hx
theorem l2_texts (l : List ByteArray) : L2 (l.map fun t => textL t.data.toList) (l.map txK) := by
  induction l with
  | nil => exact .nil
  | cons t r ih => exact .cons (LxA.wr (wr_text _)) ih
theorem fits_num {a : ArgT} (h : fitsB a = true) (h1 : ¬ a.k = 1) (h2 : a.k = 2) : a.tag.size = 0 ∧ a.texts = [] ∧ a.list = false ∧ numOk a.n := by
  unfold fitsB at h
  rw [if_neg h1, if_pos h2, Bool.and_eq_true, Bool.and_eq_true, Bool.and_eq_true, Bool.and_eq_true, Bool.or_eq_true, Bool.and_eq_true] at h
  obtain ⟨a1, a2, a3, a4, a5⟩ := h
  refine ⟨of_decide_eq_true a1, List.eq_nil_of_length_eq_zero (of_decide_eq_true a2), by simpa using a3, of_decide_eq_true a4, ?_⟩
  rcases a5 with a5 | a5
  · exact .inl (of_decide_eq_true a5)
  · exact .inr ⟨of_decide_eq_true a5.1, of_decide_eq_true a5.2⟩
theorem fits_tag {a : ArgT} (h : fitsB a = true) (h1 : a.k = 1) : nameB a.tag.data.toList = true ∧ a.n = 0 ∧ a.texts = [] ∧ a.list = false := by
  unfold fitsB at h
  rw [if_pos h1, Bool.and_eq_true, Bool.and_eq_true, Bool.and_eq_true] at h
  obtain ⟨a1, a2, a3, a4⟩ := h
  exact ⟨a1, of_decide_eq_true a2, List.eq_nil_of_length_eq_zero (of_decide_eq_true a3), by simpa using a4⟩
theorem fits_text {a : ArgT} (h : fitsB a = true) (h1 : ¬ a.k = 1) (h2 : ¬ a.k = 2) : a.k = 3 ∧ a.tag.size = 0 ∧ a.n = 0 ∧ a.texts ≠ [] ∧ (a.list = true ∨ (a.list = false ∧ ∃ t, a.texts = [t])) := by
  unfold fitsB at h
  rw [if_neg h1, if_neg h2] at h
  by_cases h3 : a.k = 3
  · rw [if_pos h3, Bool.and_eq_true, Bool.and_eq_true, Bool.and_eq_true, Bool.or_eq_true] at h
    obtain ⟨a1, a2, a3, a4⟩ := h
    have a3 := of_decide_eq_true a3
    refine ⟨h3, of_decide_eq_true a1, of_decide_eq_true a2, List.length_pos_iff.1 a3, ?_⟩
    cases hl : a.list with
    | true => exact .inl rfl
    | false =>
      rw [hl] at a4
      rcases a4 with a4 | a4
      · cases a4
      · exact .inr ⟨rfl, List.length_eq_one_iff.1 (of_decide_eq_true a4)⟩
  · rw [if_neg h3] at h; cases h
theorem arg_lex {a : ArgT} (h : fitsB a = true) : LxA false (argW a) (argK a) ∧ ∃ r, argW a = 32 :: r := by
  unfold argW argK
  by_cases h1 : a.k = 1
  · rw [if_pos h1, if_pos h1]
    exact ⟨LxA.nl rfl (LxA.wr (wr_tag (fits_tag h h1).1)), _, rfl⟩
  · rw [if_neg h1, if_neg h1]
    by_cases h2 : a.k = 2
    · rw [if_pos h2, if_pos h2]
      exact ⟨LxA.nl rfl (LxA.wr (wr_numW (fits_num h h1 h2).2.2.2)), _, rfl⟩
    · rw [if_neg h2, if_neg h2]
      obtain ⟨h3, h4, h5, h6, h7⟩ := fits_text h h1 h2
      have hj := l2_join (l2_texts a.texts) (by simpa using h6)
      refine ⟨LxA.nl rfl ?_, _, rfl⟩
      rcases h7 with h7 | h7
      · rw [if_pos h7, if_pos h7]
        exact LxA.mk' rfl (hj.app ((LxA.mark (c := 93) rfl).weak) (.inr ⟨by simp, gd_mk rfl⟩))
      · rw [h7.1, if_neg (by decide), if_neg (by decide)]
        exact hj
theorem args_lex : ∀ (ag : List ArgT) {s : List UInt8} {ts : List Tok}, ag.all fitsB = true → LxA false s ts → LxA false (s ++ ag.flatMap argW) (ts ++ ag.flatMap argK)
  | [], s, ts, _, hs => by simpa using hs
  | a :: r, s, ts, h, hs => by
    rw [List.all_cons, Bool.and_eq_true] at h
    obtain ⟨h1, q, h2⟩ := arg_lex h.1
    rw [List.flatMap_cons, List.flatMap_cons, ← List.append_assoc, ← List.append_assoc]
    exact args_lex r h.2 (hs.app h1 (.inr ⟨by rw [h2]; simp, by rw [h2]; exact gd_sp _⟩))
theorem end_lex {ks : List (List UInt8)} {kt : List (List Tok)} (h : L2 ks kt) {s : List UInt8} {ts : List Tok} (hs : LxA false s ts) : LxA false (s ++ endW ks) (ts ++ endK kt) := by
  match ks, kt, h with
  | [], [], _ => simpa [endW, endK] using hs
  | [x], [tx], .cons hx .nil => exact hs.app (s' := 32 :: x) (LxA.nl rfl hx) (.inr ⟨by simp, gd_sp _⟩)
  | x :: y :: r, tx :: ty :: tr, h =>
    have hj := l2_join h (by simp)
    exact hs.app (s' := 32 :: 40 :: (joinL [44, 32] (x :: y :: r) ++ [41])) (LxA.nl rfl (LxA.mk' rfl (hj.app ((LxA.mark (c := 41) rfl).weak) (.inr ⟨by simp, gd_mk rfl⟩)))) (.inr ⟨by simp, gd_sp _⟩)
theorem what_lex {n : ByteArray} {ag : List ArgT} {ks : List (List UInt8)} {kt : List (List Tok)} (hn : nameB n.data.toList = true) (ha : ag.all fitsB = true) (h : L2 ks kt) : LxA false (whatW n ag ks) (whatK n ag kt) := by
  have := end_lex h (args_lex ag ha (LxA.wr (wr_name hn)))
  exact this
mutual
theorem test_lex : ∀ (t : TestT) (d : Nat), rightT d t = true → LxA false (testW t) (testK t)
  | .mk n ag ks a, d, h => by
    unfold rightT at h
    rw [Bool.and_eq_true, Bool.and_eq_true, Bool.and_eq_true] at h
    unfold testW testK
    exact what_lex h.2.1 h.2.2.1 (tests_lex ks (d + 1) h.2.2.2)
theorem tests_lex : ∀ (ks : List TestT) (d : Nat), rightsT d ks = true → L2 (testsW ks) (testsK ks)
  | [], d, h => .nil
  | t :: r, d, h => by
    unfold rightsT at h
    rw [Bool.and_eq_true] at h
    unfold testsW testsK
    exact .cons (test_lex t d h.1) (tests_lex r d h.2)
end
theorem may_of {d : Nat} {n : ByteArray} {ag : List ArgT} {ts : List TestT} (h : mayB d n ag ts = true) : d ≤ 8 ∧ nameB n.data.toList = true ∧ ag.all fitsB = true ∧ rightsT (d + 1) ts = true := by
  unfold mayB at h
  rw [Bool.and_eq_true, Bool.and_eq_true, Bool.and_eq_true] at h
  exact ⟨of_decide_eq_true h.1, h.2.1, h.2.2.1, h.2.2.2⟩
mutual
theorem cmd_lex : ∀ (c : CmdT) (d : Nat), rightC d c = true → LxA true (cmdW c) (cmdK c)
  | .mk n ag ts bl br a, d, h => by
    unfold rightC at h
    rw [Bool.and_eq_true, Bool.and_eq_true] at h
    obtain ⟨-, h1, h2, h3⟩ := may_of h.1
    have hw := what_lex h1 h2 (tests_lex ts (d + 1) h3)
    unfold cmdW cmdK
    cases br with
    | true =>
      rw [if_pos rfl, if_pos rfl]
      refine hw.app (s' := [32, 123, 10] ++ cmdsW bl ++ [125, 10]) ?_ (.inr ⟨by simp, gd_sp _⟩)
      rw [List.append_assoc]
      exact LxA.nl rfl (LxA.mk' rfl (LxA.nl rfl ((cmds_lex bl (d + 1) h.2.2).app (LxA.mk' rfl (LxA.blank rfl)) (.inl rfl))))
    | false =>
      rw [if_neg (by decide), if_neg (by decide)]
      exact hw.app (s' := [59, 10]) (LxA.mk' rfl (LxA.blank rfl)) (.inr ⟨by simp, gd_mk rfl⟩)
theorem cmds_lex : ∀ (l : List CmdT) (d : Nat), rightsC d l = true → LxA true (cmdsW l) (cmdsK l)
  | [], d, h => LxA.nil _
  | c :: r, d, h => by
    unfold rightsC at h
    rw [Bool.and_eq_true] at h
    unfold cmdsW cmdsK
    exact (cmd_lex c d h.1).app (cmds_lex r d h.2) (.inl rfl)
end
end Sv
namespace Sv
open Go Lx C1

def lx0 (t : Tok) : Lex := ⟨t.k, ⟨t.t.toArray⟩, t.n, 0⟩
abbrev Any : Int → Int → Prop := fun _ _ => True
theorem mkB (b : ByteArray) : (⟨b.data.toList.toArray⟩ : ByteArray) = b := by cases b; simp
theorem isM_mk (c d : UInt8) (Z : List Lex) : isM c (lx0 (mk d) :: Z) = decide (d = c) := by
  unfold isM lx0 mk
  by_cases h : d = c
  · subst h; simp
  · simp [h]
theorem isM_k {c : UInt8} {x : Lex} {Z : List Lex} (h : x.k ≠ 5) : isM c (x :: Z) = false := by
  show (decide (x.k = 5) && (x.t.data.toList == [c])) = false
  rw [decide_eq_false h, Bool.false_and]
theorem mustR_mk (E : Int) (c : UInt8) (Z : List Lex) : mustR E c (lx0 (mk c) :: Z) = .ok ((), Z) := by
  unfold mustR
  rw [isM_mk, if_pos (decide_eq_true rfl)]
  rfl
/-- what may follow tests -/
def Stop (Z : List Lex) : Prop := ∃ c r, Z = lx0 (mk c) :: r ∧ (c = 44 ∨ c = 41 ∨ c = 59 ∨ c = 123)
theorem Stop.isM {Z : List Lex} (h : Stop Z) {c : UInt8} (hc : c = 40 ∨ c = 91) : isM c Z = false := by
  obtain ⟨d, r, rfl, hd⟩ := h
  rw [isM_mk]
  rcases hc with rfl | rfl <;> rcases hd with rfl | rfl | rfl | rfl <;> rfl
theorem Stop.hd {Z : List Lex} (h : Stop Z) : ¬ Z.head?.map (·.k) = some 1 := by
  obtain ⟨d, r, rfl, hd⟩ := h
  show ¬ some (5 : Int) = some 1
  decide
/-- what may follow arguments -/
def StopA (Z : List Lex) : Prop := ∃ x r, Z = x :: r ∧ isM 91 Z = false ∧ argOf x = none
theorem Stop.args {Z : List Lex} (h : Stop Z) : StopA Z := by
  have h1 := h.isM (c := 91) (.inr rfl)
  obtain ⟨d, r, rfl, hd⟩ := h
  exact ⟨_, _, rfl, h1, rfl⟩
theorem stopA_name {x : Lex} {r : List Lex} (h : x.k = 1) : StopA (x :: r) := by
  refine ⟨x, r, rfl, isM_k (by rw [h]; decide), ?_⟩
  unfold argOf
  rw [h, if_neg (by decide), if_neg (by decide), if_neg (by decide)]
theorem stopA_par (r : List Lex) : StopA (lx0 (mk 40) :: r) := ⟨_, _, rfl, by rw [isM_mk]; rfl, rfl⟩
theorem texts_go (E : Int) : ∀ (x : ByteArray) (r : List ByteArray) (Z : List Lex), ∃ m, textsR E m ((txK x ++ (r.map txK).flatMap (mk 44 :: ·)).map lx0 ++ lx0 (mk 93) :: Z) = some (.ok (x :: r, Z))
  | x, [], Z => by
    refine ⟨1, ?_⟩
    show textsR E 1 (⟨4, ⟨x.data.toList.toArray⟩, 0, 0⟩ :: lx0 (mk 93) :: Z) = _
    unfold textsR
    rw [if_pos rfl, isM_mk, if_neg (by decide), mustR_mk, mkB]
    rfl
  | x, y :: r, Z => by
    obtain ⟨m, hm⟩ := texts_go E y r Z
    refine ⟨m + 1, ?_⟩
    show textsR E (m + 1) (⟨4, ⟨x.data.toList.toArray⟩, 0, 0⟩ :: lx0 (mk 44) :: ((txK y ++ (r.map txK).flatMap (mk 44 :: ·)).map lx0 ++ lx0 (mk 93) :: Z)) = _
    unfold textsR
    rw [if_pos rfl, isM_mk, if_pos (decide_eq_true rfl), List.tail_cons, hm, mkB]
    rfl
theorem size_zero {b : ByteArray} (h : b.size = 0) : b = ⟨#[]⟩ := by
  cases b with
  | mk d =>
    congr
    exact Array.eq_empty_of_size_eq_zero h
theorem arg_ext {a : ArgT} {k n : Int} {tag : ByteArray} {texts : List ByteArray} {list : Bool} (h1 : a.k = k) (h2 : a.tag = tag) (h3 : a.n = n) (h4 : a.texts = texts) (h5 : a.list = list) : a = ⟨k, tag, n, texts, list⟩ := by
  cases a; cases h1; cases h2; cases h3; cases h4; cases h5; rfl
theorem args_go (E : Int) (Z : List Lex) (hZ : StopA Z) : ∀ (ag : List ArgT), ag.all fitsB = true → ∃ m, argsR E m ((ag.flatMap argK).map lx0 ++ Z) = some (.ok (ag, Z))
  | [], _ => by
    obtain ⟨x, r, rfl, h1, h2⟩ := hZ
    refine ⟨1, ?_⟩
    show argsR E 1 (x :: r) = _
    unfold argsR
    rw [if_neg (by rw [h1]; decide), h2]
  | a :: r, h => by
    rw [List.all_cons, Bool.and_eq_true] at h
    obtain ⟨m, hm⟩ := args_go E Z hZ r h.2
    have one : ∀ (x : Tok), (argK a = [x]) → isM 91 [lx0 x] = false → argOf (lx0 x) = some a → ∃ m, argsR E m (((a :: r).flatMap argK).map lx0 ++ Z) = some (.ok (a :: r, Z)) := by
      intro x hx h91 ho
      refine ⟨m + 1, ?_⟩
      rw [List.flatMap_cons, hx]
      show argsR E (m + 1) (lx0 x :: ((r.flatMap argK).map lx0 ++ Z)) = _
      unfold argsR
      have e1 : isM 91 (lx0 x :: ((r.flatMap argK).map lx0 ++ Z)) = isM 91 [lx0 x] := rfl
      rw [e1, h91, if_neg (by decide), ho]
      simp only
      rw [hm]
      rfl
    by_cases h1 : a.k = 1
    · obtain ⟨-, f2, f3, f4⟩ := fits_tag h.1 h1
      refine one ⟨2, a.tag.data.toList, 0⟩ (by unfold argK; rw [if_pos h1]) rfl ?_
      rw [arg_ext h1 rfl f2 f3 f4]
      show some (ArgT.mk 1 ⟨a.tag.data.toList.toArray⟩ 0 [] false) = _
      rw [mkB]
    · by_cases h2 : a.k = 2
      · obtain ⟨f1, f2, f3, f4, -⟩ := fits_num h.1 h1 h2
        refine one ⟨3, [], a.n.toNat⟩ (by unfold argK; rw [if_neg h1, if_pos h2]) rfl ?_
        rw [arg_ext h2 (size_zero f1) rfl f2 f3]
        show some (ArgT.mk 2 ⟨#[]⟩ ((a.n.toNat : Nat) : Int) [] false) = _
        rw [Int.toNat_of_nonneg f4]
      · obtain ⟨h3, f4, f5, f6, f7⟩ := fits_text h.1 h1 h2
        rcases f7 with f7 | ⟨f7, t, f8⟩
        · cases htx : a.texts with
          | nil => exact absurd htx f6
          | cons x tr =>
            obtain ⟨m1, hm1⟩ := texts_go E x tr ((r.flatMap argK).map lx0 ++ Z)
            refine ⟨max m1 m + 1, ?_⟩
            rw [List.flatMap_cons]
            have e0 : argK a = mk 91 :: (joinT (mk 44) ((x :: tr).map txK) ++ [mk 93]) := by unfold argK; rw [if_neg h1, if_neg h2, if_pos f7, htx]
            have e1 : ((argK a ++ r.flatMap argK).map lx0 ++ Z) = lx0 (mk 91) :: ((txK x ++ (tr.map txK).flatMap (mk 44 :: ·)).map lx0 ++ lx0 (mk 93) :: ((r.flatMap argK).map lx0 ++ Z)) := by
              rw [e0]
              simp only [joinT, List.map_cons, List.map_append, List.cons_append, List.append_assoc, List.map_nil, List.nil_append]
            rw [e1]
            unfold argsR
            rw [isM_mk, if_pos (decide_eq_true rfl), textsR_more E m1 _ _ _ (Nat.le_max_left _ _) hm1]
            simp only
            rw [argsR_more E m _ _ _ (Nat.le_max_right _ _) hm, arg_ext h3 (size_zero f4) f5 htx f7]
            rfl
        · refine one ⟨4, t.data.toList, 0⟩ ?_ rfl ?_
          · unfold argK
            rw [if_neg h1, if_neg h2, f7, if_neg (by decide), f8]
            rfl
          · rw [arg_ext h3 (size_zero f4) f5 f8 f7]
            show some (ArgT.mk 3 ⟨#[]⟩ 0 [⟨t.data.toList.toArray⟩] false) = _
            rw [mkB]
def TestGo (E : Int) (d : Nat) (t : TestT) : Prop := ∀ Z, Stop Z → ∃ m t', testR E m d ((testK t).map lx0 ++ Z) = some (.ok (t', Z)) ∧ TR Any t t'
inductive AllT (P : TestT → Prop) : List TestT → Prop
  | nil : AllT P []
  | cons {t : TestT} {l : List TestT} (h : P t) (hl : AllT P l) : AllT P (t :: l)
theorem stop_c (r : List Lex) : Stop (lx0 (mk 44) :: r) := ⟨_, _, rfl, .inl rfl⟩
theorem stop_p (r : List Lex) : Stop (lx0 (mk 41) :: r) := ⟨_, _, rfl, .inr (.inl rfl)⟩
theorem stop_s (r : List Lex) : Stop (lx0 (mk 59) :: r) := ⟨_, _, rfl, .inr (.inr (.inl rfl))⟩
theorem stop_b (r : List Lex) : Stop (lx0 (mk 123) :: r) := ⟨_, _, rfl, .inr (.inr (.inr rfl))⟩
theorem more_go {E : Int} {d : Nat} {l : List TestT} (h : AllT (TestGo E d) l) (Z : List Lex) : ∃ m l', moreR E m d (((testsK l).flatMap (mk 44 :: ·)).map lx0 ++ lx0 (mk 41) :: Z) = some (.ok (l', Z)) ∧ TL Any l l' := by
  induction h with
  | nil =>
    refine ⟨1, [], ?_, .nil⟩
    show moreR E 1 d (lx0 (mk 41) :: Z) = _
    unfold moreR
    rw [isM_mk, if_neg (by decide), mustR_mk]
    rfl
  | @cons t l h hl ih =>
    obtain ⟨m1, l', h1, h2⟩ := ih
    have hs : Stop (((testsK l).flatMap (mk 44 :: ·)).map lx0 ++ lx0 (mk 41) :: Z) := by
      cases l with
      | nil => exact stop_p _
      | cons x r => exact stop_c _
    obtain ⟨m2, t', h3, h4⟩ := h _ hs
    refine ⟨max m1 m2 + 1, t' :: l', ?_, .cons h4 h2⟩
    have e1 : ((testsK (t :: l)).flatMap (mk 44 :: ·)).map lx0 ++ lx0 (mk 41) :: Z = lx0 (mk 44) :: ((testK t).map lx0 ++ (((testsK l).flatMap (mk 44 :: ·)).map lx0 ++ lx0 (mk 41) :: Z)) := by
      show ((mk 44 :: testK t ++ (testsK l).flatMap (mk 44 :: ·)).map lx0) ++ _ = _
      rw [List.cons_append, List.map_cons, List.map_append, List.cons_append, List.append_assoc]
    rw [e1]
    unfold moreR
    rw [isM_mk, if_pos (decide_eq_true rfl), List.tail_cons, (tests_more E m2 _ (Nat.le_max_right _ _)).1 _ _ _ h3]
    simp only
    rw [(tests_more E m1 _ (Nat.le_max_left _ _)).2.2 _ _ _ h1]
    rfl
theorem testK_hd (t : TestT) : ∃ x r, testK t = x :: r ∧ x.k = 1 := by
  cases t with
  | mk n ag ks a => unfold testK whatK; exact ⟨_, _, rfl, rfl⟩
theorem ks_go {E : Int} {d : Nat} {l : List TestT} (h : AllT (TestGo E d) l) (Z : List Lex) (hZ : Stop Z) : StopA ((endK (testsK l)).map lx0 ++ Z) ∧ ∃ m l', testsR E m d ((endK (testsK l)).map lx0 ++ Z) = some (.ok (l', Z)) ∧ TL Any l l' := by
  match l, h with
  | [], _ =>
    refine ⟨hZ.args, 1, [], ?_, .nil⟩
    show testsR E 1 d Z = _
    unfold testsR
    rw [if_neg hZ.hd, hZ.isM (.inl rfl), if_neg (by decide)]
  | [t], .cons h .nil =>
    obtain ⟨m, t', h3, h4⟩ := h Z hZ
    obtain ⟨x, r, hx, hk⟩ := testK_hd t
    have e1 : endK (testsK [t]) = testK t := rfl
    rw [e1]
    have e2 : (testK t).map lx0 ++ Z = lx0 x :: (r.map lx0 ++ Z) := by rw [hx]; rfl
    have hk' : (lx0 x).k = 1 := by show ((x.k : Nat) : Int) = 1; rw [hk]; rfl
    refine ⟨by rw [e2]; exact stopA_name hk', m + 1, [t'], ?_, .cons h4 .nil⟩
    unfold testsR
    rw [if_pos (by rw [e2]; show some (lx0 x).k = some 1; rw [hk']), h3]
    rfl
  | t :: u :: r, .cons h hl =>
    obtain ⟨m1, l', h1, h2⟩ := more_go hl Z
    obtain ⟨m2, t', h3, h4⟩ := h _ (show Stop (((testsK (u :: r)).flatMap (mk 44 :: ·)).map lx0 ++ lx0 (mk 41) :: Z) from stop_c _)
    have e1 : (endK (testsK (t :: u :: r))).map lx0 ++ Z = lx0 (mk 40) :: ((testK t).map lx0 ++ (((testsK (u :: r)).flatMap (mk 44 :: ·)).map lx0 ++ lx0 (mk 41) :: Z)) := by
      show ((mk 40 :: ((testK t ++ (testsK (u :: r)).flatMap (mk 44 :: ·)) ++ [mk 41])).map lx0) ++ Z = _
      simp only [List.map_cons, List.map_append, List.cons_append, List.append_assoc, List.map_nil, List.nil_append]
    rw [e1]
    refine ⟨stopA_par _, max m1 m2 + 1, t' :: l', ?_, .cons h4 h2⟩
    unfold testsR
    rw [if_neg (by show ¬ some (5 : Int) = some 1; decide), isM_mk, if_pos (decide_eq_true rfl), List.tail_cons, (tests_more E m2 _ (Nat.le_max_right _ _)).1 _ _ _ h3]
    simp only
    rw [(tests_more E m1 _ (Nat.le_max_left _ _)).2.2 _ _ _ h1]
    rfl
/-- a name, arguments and tests are read -/
theorem what_go {E : Int} {d : Nat} {n : ByteArray} {ag : List ArgT} {ks : List TestT} (hd : d ≤ 8) (ha : ag.all fitsB = true) (h : AllT (TestGo E (d + 1)) ks) (Z : List Lex) (hZ : Stop Z) :
    ∃ q m l', nameR E d ((whatK n ag (testsK ks)).map lx0 ++ Z) = .ok ((n, 0), q) ∧ (∃ q2, argsR E m q = some (.ok (ag, q2)) ∧ testsR E m (d + 1) q2 = some (.ok (l', Z))) ∧ TL Any ks l' := by
  obtain ⟨h1, m1, l', h2, h3⟩ := ks_go h Z hZ
  obtain ⟨m2, h4⟩ := args_go E _ h1 ag ha
  refine ⟨(ag.flatMap argK).map lx0 ++ ((endK (testsK ks)).map lx0 ++ Z), max m1 m2, l', ?_, ⟨_, argsR_more E m2 _ _ _ (Nat.le_max_right _ _) h4, (tests_more E m1 _ (Nat.le_max_left _ _)).2.1 _ _ _ h2⟩, h3⟩
  have e1 : (whatK n ag (testsK ks)).map lx0 ++ Z = ⟨1, ⟨n.data.toList.toArray⟩, 0, 0⟩ :: ((ag.flatMap argK).map lx0 ++ ((endK (testsK ks)).map lx0 ++ Z)) := by
    unfold whatK
    rw [List.map_cons, List.map_append, List.cons_append, List.append_assoc]
    rfl
  rw [e1, nameR_cons, if_pos rfl, if_neg (by omega), mkB]
mutual
theorem test_go (E : Int) : ∀ (t : TestT) (d : Nat), rightT d t = true → TestGo E d t
  | .mk n ag ks a, d, h => by
    unfold rightT at h
    rw [Bool.and_eq_true, Bool.and_eq_true, Bool.and_eq_true] at h
    intro Z hZ
    obtain ⟨q, m, l', h1, ⟨q2, h2, h3⟩, h4⟩ := what_go (n := n) (of_decide_eq_true h.1) h.2.2.1 (tests_go E ks (d + 1) h.2.2.2) Z hZ
    refine ⟨m + 1, .mk n ag l' 0, ?_, .mk h4 trivial⟩
    unfold testK testR
    rw [h1]
    simp only
    rw [h2]
    simp only
    rw [h3]
    rfl
theorem tests_go (E : Int) : ∀ (ks : List TestT) (d : Nat), rightsT d ks = true → AllT (TestGo E d) ks
  | [], d, h => .nil
  | t :: r, d, h => by
    unfold rightsT at h
    rw [Bool.and_eq_true] at h
    exact .cons (test_go E t d h.1) (tests_go E r d h.2)
end
theorem cmd_hd (c : CmdT) : ∃ x r, cmdK c = x :: r ∧ x.k = 1 := by
  cases c with
  | mk n ag ts bl br a => unfold cmdK whatK; exact ⟨_, _, rfl, rfl⟩
mutual
theorem cmd_go (E : Int) : ∀ (c : CmdT) (d : Nat), rightC d c = true → ∀ Z, ∃ m c', cmdR E m d ((cmdK c).map lx0 ++ Z) = some (.ok (c', Z)) ∧ CR Any c c'
  | .mk n ag ts bl br a, d, h, Z => by
    unfold rightC at h
    rw [Bool.and_eq_true, Bool.and_eq_true] at h
    obtain ⟨h0, -, h2, h3⟩ := may_of h.1
    have hts := tests_go E ts (d + 1) h3
    cases br with
    | true =>
      obtain ⟨m1, l1, k1, k2⟩ := block_go E bl (d + 1) h.2.2 Z
      obtain ⟨q, m, l', j1, ⟨q2, j2, j3⟩, j4⟩ := what_go (n := n) h0 h2 hts (lx0 (mk 123) :: ((cmdsK bl).map lx0 ++ lx0 (mk 125) :: Z)) (stop_b _)
      refine ⟨max m1 m + 1, .mk n ag l' l1 true 0, ?_, .mk j4 k2 trivial⟩
      have e1 : (cmdK (.mk n ag ts bl true a)).map lx0 ++ Z = (whatK n ag (testsK ts)).map lx0 ++ lx0 (mk 123) :: ((cmdsK bl).map lx0 ++ lx0 (mk 125) :: Z) := by
        unfold cmdK
        rw [if_pos rfl]
        simp only [List.map_cons, List.map_append, List.cons_append, List.append_assoc, List.map_nil, List.nil_append]
      rw [e1]
      unfold cmdR
      rw [j1]
      simp only
      rw [argsR_more E m _ _ _ (Nat.le_max_right _ _) j2]
      simp only
      rw [(tests_more E m _ (Nat.le_max_right _ _)).2.1 _ _ _ j3]
      simp only
      rw [isM_mk, if_pos (decide_eq_true rfl), List.tail_cons, (cmd_more E m1 _ (Nat.le_max_left _ _)).2 _ _ _ k1]
      rfl
    | false =>
      have hb : bl = [] := by
        have := h.2.1
        cases bl with
        | nil => rfl
        | cons x r => cases this
      subst hb
      obtain ⟨q, m, l', j1, ⟨q2, j2, j3⟩, j4⟩ := what_go (n := n) h0 h2 hts (lx0 (mk 59) :: Z) (stop_s _)
      refine ⟨m + 1, .mk n ag l' [] false 0, ?_, .mk j4 .nil trivial⟩
      have e1 : (cmdK (.mk n ag ts [] false a)).map lx0 ++ Z = (whatK n ag (testsK ts)).map lx0 ++ lx0 (mk 59) :: Z := by
        unfold cmdK
        rw [if_neg (by decide)]
        simp only [List.map_cons, List.map_append, List.cons_append, List.append_assoc, List.map_nil, List.nil_append]
      rw [e1]
      unfold cmdR
      rw [j1]
      simp only
      rw [j2]
      simp only
      rw [j3]
      simp only
      rw [isM_mk, if_neg (by decide), mustR_mk]
      rfl
theorem block_go (E : Int) : ∀ (l : List CmdT) (d : Nat), rightsC d l = true → ∀ Z, ∃ m l', blockR E m d ((cmdsK l).map lx0 ++ lx0 (mk 125) :: Z) = some (.ok (l', Z)) ∧ CL Any l l'
  | [], d, h, Z => by
    refine ⟨1, [], ?_, .nil⟩
    show blockR E 1 d (lx0 (mk 125) :: Z) = _
    unfold blockR
    rw [isM_mk, if_pos (decide_eq_true rfl)]
    rfl
  | c :: r, d, h, Z => by
    unfold rightsC at h
    rw [Bool.and_eq_true] at h
    obtain ⟨m1, c', h1, h2⟩ := cmd_go E c d h.1 ((cmdsK r).map lx0 ++ lx0 (mk 125) :: Z)
    obtain ⟨m2, r', h3, h4⟩ := block_go E r d h.2 Z
    obtain ⟨x, q, hx, hk⟩ := cmd_hd c
    refine ⟨max m1 m2 + 1, c' :: r', ?_, .cons h2 h4⟩
    have e1 : (cmdsK (c :: r)).map lx0 ++ lx0 (mk 125) :: Z = (cmdK c).map lx0 ++ ((cmdsK r).map lx0 ++ lx0 (mk 125) :: Z) := by
      show (cmdK c ++ cmdsK r).map lx0 ++ _ = _
      rw [List.map_append, List.append_assoc]
    rw [e1]
    have e2 : isM 125 ((cmdK c).map lx0 ++ ((cmdsK r).map lx0 ++ lx0 (mk 125) :: Z)) = false := by
      rw [hx]
      exact isM_k (by show ((x.k : Nat) : Int) ≠ 5; rw [hk]; decide)
    unfold blockR
    rw [e2, if_neg (by decide), (cmd_more E m1 _ (Nat.le_max_left _ _)).1 _ _ _ h1]
    simp only
    rw [(cmd_more E m2 _ (Nat.le_max_right _ _)).2 _ _ _ h3]
    rfl
end
theorem parse_go (E : Int) : ∀ (l : List CmdT), rightsC 0 l = true → ∃ m l', parseR E m ((cmdsK l).map lx0) = some (.ok l') ∧ CL Any l l'
  | [], h => ⟨1, [], rfl, .nil⟩
  | c :: r, h => by
    unfold rightsC at h
    rw [Bool.and_eq_true] at h
    obtain ⟨m1, c', h1, h2⟩ := cmd_go E c 0 h.1 ((cmdsK r).map lx0)
    obtain ⟨m2, r', h3, h4⟩ := parse_go E r h.2
    obtain ⟨x, q, hx, hk⟩ := cmd_hd c
    refine ⟨max m1 m2 + 1, c' :: r', ?_, .cons h2 h4⟩
    have e1 : (cmdsK (c :: r)).map lx0 = (cmdK c).map lx0 ++ (cmdsK r).map lx0 := by
      show (cmdK c ++ cmdsK r).map lx0 = _
      rw [List.map_append]
    have e2 : (cmdsK (c :: r)).map lx0 = lx0 x :: (q.map lx0 ++ (cmdsK r).map lx0) := by rw [e1, hx]; rfl
    have e3 := (cmd_more E m1 _ (Nat.le_max_left m1 m2)).1 _ _ _ h1
    rw [← e1, e2] at e3
    rw [e2]
    unfold parseR
    rw [e3]
    simp only
    rw [parse_more E m2 _ _ _ (Nat.le_max_right _ _) h3]
    rfl
theorem al_of : ∀ (tp : List (Tok × Nat)), Al Any ((tp.map (·.1)).map lx0) (tp.map lexOf)
  | [] => .nil
  | x :: r => .cons rfl rfl rfl trivial (al_of r)
theorem cl_trans : True := trivial
/-- what a valid tree's text parses to -/
theorem back (l : List CmdT) (h : rightsC 0 l = true) : ∃ tp m l', Run (cmdsW l) 0 tp none ∧ parseR ((cmdsW l).length : Nat) m (tp.map lexOf) = some (.ok l') ∧ ∃ l0, CL Any l l0 ∧ CL Any l0 l' := by
  obtain ⟨tp, h1, h2⟩ := (cmds_lex l 0 h).run
  obtain ⟨m, l0, h3, h4⟩ := parse_go ((cmdsW l).length : Nat) l h
  have ha := al_of tp
  rw [h1] at ha
  obtain ⟨r', h5, h6⟩ := parse_al (P := Any) (E := ((cmdsW l).length : Nat)) (E' := ((cmdsW l).length : Nat)) trivial m _ ha h3
  match r', h6 with
  | .ok l', h6 => exact ⟨tp, m, l', h2, h5, l0, h4, h6⟩
  | .error e, h6 => exact h6.elim
end Sv
namespace Sv
open Go Lx C1

/-! tokens as the scan makes them -/
inductive TokW : Tok → Prop
  | name (l : List UInt8) (h : nameB l = true) : TokW ⟨1, l, 0⟩
  | tag (l : List UInt8) (h : nameB l = true) : TokW ⟨2, l, 0⟩
  | num (u : Nat) (h : numOk (u : Int)) : TokW ⟨3, [], u⟩
  | text (l : List UInt8) : TokW ⟨4, l, 0⟩
  | mark (c : UInt8) (h : isMk c = true) : TokW ⟨5, [c], 0⟩
theorem all256 {p : UInt8 → Prop} (h : ∀ n : Nat, n < 256 → p (UInt8.ofNat n)) (c : UInt8) : p c := by
  have := h c.toNat c.toNat_lt
  rwa [UInt8.ofNat_toNat] at this
theorem let_low (c : UInt8) : isLet c = true → lowW (lowC c) = true := all256 (p := fun c => isLet c = true → lowW (lowC c) = true) (by decide +kernel) c
theorem wd_low (c : UInt8) : isWd c = true → (lowW (lowC c) || isDig (lowC c)) = true := all256 (p := fun c => isWd c = true → (lowW (lowC c) || isDig (lowC c)) = true) (by decide +kernel) c
theorem span_take (p : UInt8 → Bool) : ∀ (l : List UInt8), ∀ c ∈ l.take (spanL p l), p c = true
  | [], c, h => by simp at h
  | x :: r, c, h => by
    unfold spanL at h
    by_cases hx : p x = true
    · rw [if_pos hx, List.take_succ_cons, List.mem_cons] at h
      rcases h with rfl | h
      · exact hx
      · exact span_take p r c h
    · rw [if_neg hx] at h
      simp at h
theorem ident_name' {l : List UInt8} (h : 0 < identL l) : nameB (lowL (l.take (identL l))) = true := by
  cases l with
  | nil => cases h
  | cons c r =>
    rw [identL_cons] at h ⊢
    by_cases hc : isLet c = true
    · rw [if_pos hc, List.take_succ_cons]
      unfold lowL
      rw [List.map_cons]
      unfold nameB
      rw [Bool.and_eq_true, List.all_eq_true]
      refine ⟨let_low c hc, fun x hx => ?_⟩
      obtain ⟨y, hy, rfl⟩ := List.mem_map.1 hx
      exact wd_low y (span_take isWd r y hy)
    · rw [if_neg hc] at h; cases h
theorem val_lt : ∀ (l : List UInt8) (acc : Nat), (∀ c ∈ l, isDig c = true) → val acc l < (acc + 1) * 10 ^ l.length
  | [], acc, _ => by show acc < (acc + 1) * 10 ^ 0; rw [Nat.pow_zero, Nat.mul_one]; exact Nat.lt_succ_self _
  | c :: r, acc, h => by
    have hc := of_decide_eq_true (show decide _ = true from h c (by simp))
    have ih := val_lt r (acc * 10 + (c.toNat - 48)) fun x hx => h x (by simp [hx])
    unfold val
    rw [List.length_cons, Nat.pow_succ]
    refine Nat.lt_of_lt_of_le ih ?_
    have : acc * 10 + (c.toNat - 48) + 1 ≤ (acc + 1) * 10 := by omega
    calc _ ≤ (acc + 1) * 10 * 10 ^ r.length := Nat.mul_le_mul_right _ this
      _ = (acc + 1) * (10 ^ r.length * 10) := by rw [Nat.mul_assoc, Nat.mul_comm 10]
theorem num_ok {l : List UInt8} {v n : Nat} (h : numL l = some (v, n)) : numOk (v : Int) := by
  unfold numL at h
  simp only at h
  split at h
  · cases h
  · rename_i h1
    have hv := val_lt (l.take (spanL isDig l)) 0 (span_take isDig l)
    have hl : (l.take (spanL isDig l)).length ≤ 12 := by rw [List.length_take]; omega
    have h12 : val 0 (l.take (spanL isDig l)) < 1000000000000 := by
      refine Nat.lt_of_lt_of_le hv ?_
      rw [Nat.zero_add, Nat.one_mul]
      exact Nat.pow_le_pow_right (by decide) hl
    generalize val 0 (l.take (spanL isDig l)) = x at *
    split at h
    · split at h
      · cases h
      · injection h with h; injection h with h _
        subst h
        exact ⟨by omega, .inl (by omega)⟩
    · rename_i hk
      split at h
      · cases h
      · rename_i hm
        split at h
        · cases h
        · injection h with h; injection h with h _
          subst h
          have hk1 : 1 ≤ hdK (l.drop (spanL isDig l)) := by omega
          generalize hdK (l.drop (spanL isDig l)) = k at *
          obtain ⟨j, rfl⟩ : ∃ j, k = j + 1 := ⟨k - 1, by omega⟩
          have hle : x * 1024 ^ (j + 1) ≤ most := Nat.le_trans (Nat.mul_le_mul_right _ (Nat.le_of_not_lt hm)) (Nat.div_mul_le_self _ _)
          have hmod : (x * 1024 ^ (j + 1)) % 1024 = 0 := by rw [Nat.pow_succ, ← Nat.mul_assoc]; exact Nat.mul_mod_left _ _
          generalize x * 1024 ^ (j + 1) = y at *
          unfold most at hle
          exact ⟨by omega, .inr ⟨by omega, by omega⟩⟩
theorem tokW_of {l : List UInt8} {t : Tok} {n : Nat} (h : tokenL l = some (t, n)) : TokW t := by
  unfold tokenL at h
  split at h
  · cases hm : multiL (l.drop 5) with
    | none => rw [hm] at h; cases h
    | some p => rw [hm] at h; injection h with h; injection h with h _; rw [← h]; exact .text _
  · split at h
    · rename_i hi
      injection h with h; injection h with h _
      rw [← h]
      exact .name _ (ident_name' hi)
    · split at h
      · cases h
      · rename_i c r _ _
        split at h
        · rename_i hi
          injection h with h; injection h with h _
          rw [← h]
          exact .tag _ (ident_name' hi.2)
        · split at h
          · cases hm : numL (c :: r) with
            | none => rw [hm] at h; cases h
            | some p => rw [hm] at h; injection h with h; injection h with h _; rw [← h]; exact .num _ (num_ok hm)
          · split at h
            · cases hm : quoL r with
              | none => rw [hm] at h; cases h
              | some p => rw [hm] at h; injection h with h; injection h with h _; rw [← h]; exact .text _
            · split at h
              · rename_i hi
                injection h with h; injection h with h _
                rw [← h]
                exact .mark _ hi
              · cases h
theorem run_tokW {l : List UInt8} {k : Nat} {ts : List (Tok × Nat)} {e : Option Nat} (h : Run l k ts e) : ∀ x ∈ ts, TokW x.1 := by
  induction h with
  | fin k => intro x hx; cases hx
  | sp h1 h2 h3 ih => exact ih
  | tok h0 h1 h2 h3 ih =>
    intro x hx
    rcases List.mem_cons.1 hx with rfl | hx
    · exact tokW_of h2
    · exact ih x hx
  | bad h => intro x hx; cases hx

/-! how long a token's text is -/
theorem unst_le (l : List UInt8) : (unst l).length ≤ l.length := by
  cases l with
  | nil => exact Nat.le_refl _
  | cons c r =>
    show (if c = 46 then r else c :: r).length ≤ _
    split <;> simp
theorem dot_len : ∀ (m : Nat) (l v : List UInt8) (n : Nat), l.length ≤ m → dotL l = some (v, n) → v.length ≤ n := by
  intro m
  induction m with
  | zero =>
    intro l v n hl h
    have := List.eq_nil_of_length_eq_zero (by omega : l.length = 0)
    subst this
    cases h
  | succ m ih =>
    intro l v n hl h
    rw [dotL_eq] at h
    by_cases h0 : l = []
    · rw [if_pos h0] at h; cases h
    · rw [if_neg h0] at h
      have hp := lnL_pos l h0
      split at h
      · injection h with h; injection h with h1 h2
        subst h1; simp
      · cases hd : dotL (l.drop (lnL l)) with
        | none => rw [hd] at h; cases h
        | some p =>
          rw [hd] at h
          injection h with h; injection h with h1 h2
          subst h1; subst h2
          have := ih _ p.1 p.2 (by rw [List.length_drop]; omega) hd
          have h3 := unst_le (l.take (lnL l))
          have h4 := lnL_le l
          rw [List.length_append]
          rw [List.length_take] at h3
          omega
theorem quo_len : ∀ (m : Nat) (l v : List UInt8) (n : Nat), l.length ≤ m → quoL l = some (v, n) → v.length ≤ n := by
  intro m
  induction m with
  | zero =>
    intro l v n hl h
    have := List.eq_nil_of_length_eq_zero (by omega : l.length = 0)
    subst this
    cases h
  | succ m ih =>
    intro l v n hl h
    match l, hl, h with
    | [], _, h => cases h
    | [c], _, h =>
      unfold quoL at h
      split at h
      · injection h with h; injection h with h1 h2; rw [← h1]; simp
      · cases h
    | c :: d :: r, hl, h =>
      unfold quoL at h
      rw [List.length_cons, List.length_cons] at hl
      split at h
      · injection h with h; injection h with h1 h2; rw [← h1]; simp
      · split at h
        · cases hq : quoL r with
          | none => rw [hq] at h; cases h
          | some p =>
            rw [hq] at h
            injection h with h; injection h with h1 h2
            have := ih r p.1 p.2 (by omega) hq
            subst h1; subst h2
            rw [List.length_cons]; omega
        · cases hq : quoL (d :: r) with
          | none => rw [hq] at h; cases h
          | some p =>
            rw [hq] at h
            injection h with h; injection h with h1 h2
            have := ih (d :: r) p.1 p.2 (by rw [List.length_cons]; omega) hq
            subst h1; subst h2
            rw [List.length_cons]; omega
theorem tok_len {l : List UInt8} {t : Tok} {n : Nat} (h : tokenL l = some (t, n)) : t.t.length ≤ n := by
  unfold tokenL at h
  split at h
  · cases hm : multiL (l.drop 5) with
    | none => rw [hm] at h; cases h
    | some p =>
      rw [hm] at h; injection h with h; injection h with h h2
      rw [← h, ← h2]
      unfold multiL at hm
      split at hm
      · cases hd : dotL ((l.drop 5).drop (begL (l.drop 5) + 1)) with
        | none => rw [hd] at hm; cases hm
        | some q =>
          rw [hd] at hm
          injection hm with hm
          have := dot_len _ _ q.1 q.2 (Nat.le_refl _) hd
          rw [← hm]
          show q.1.length ≤ 5 + (_ + 1 + q.2)
          omega
      · cases hm
  · split at h
    · injection h with h; injection h with h h2
      rw [← h, ← h2]
      show (lowL _).length ≤ _
      unfold lowL
      rw [List.length_map, List.length_take]; omega
    · split at h
      · cases h
      · rename_i c r _ _
        split at h
        · injection h with h; injection h with h h2
          rw [← h, ← h2]
          show (lowL _).length ≤ _
          unfold lowL
          rw [List.length_map, List.length_take]; omega
        · split at h
          · cases hm : numL (c :: r) with
            | none => rw [hm] at h; cases h
            | some p => rw [hm] at h; injection h with h; injection h with h h2; rw [← h]; exact Nat.zero_le _
          · split at h
            · cases hm : quoL r with
              | none => rw [hm] at h; cases h
              | some p =>
                rw [hm] at h; injection h with h; injection h with h h2
                rw [← h, ← h2]
                have := quo_len _ r p.1 p.2 (Nat.le_refl _) hm
                show p.1.length ≤ 1 + p.2
                omega
            · split at h
              · injection h with h; injection h with h h2
                rw [← h, ← h2]
                exact Nat.le_refl _
              · cases h
/-- how much a list of tokens bears -/
def wLx : List Lex → Nat
  | [] => 0
  | x :: r => 2 + x.t.size + wLx r
theorem wLx_lexOf (x : Tok × Nat) (r : List (Tok × Nat)) : wLx ((x :: r).map lexOf) = 2 + x.1.t.length + wLx (r.map lexOf) := by
  show 2 + (⟨x.1.t.toArray⟩ : ByteArray).size + _ = _
  rfl
theorem run_w {l : List UInt8} {k : Nat} {ts : List (Tok × Nat)} {e : Option Nat} (h : Run l k ts e) : wLx (ts.map lexOf) ≤ 3 * l.length := by
  induction h with
  | fin k => exact Nat.zero_le _
  | @sp l n k ts e h1 h2 h3 ih =>
    have := spaceL_le h2
    rw [List.length_drop] at ih
    omega
  | @tok l t n k ts e h0 h1 h2 h3 ih =>
    have := tokenL_pos h2
    have := tok_len h2
    rw [List.length_drop] at ih
    rw [wLx_lexOf]
    show 2 + t.t.length + _ ≤ _
    omega
  | bad h => exact Nat.zero_le _

/-! a parsed script is valid -/
def LexW (x : Lex) : Prop := ∃ t, TokW t ∧ x.k = t.k ∧ x.t = ⟨t.t.toArray⟩ ∧ x.n = t.n
theorem lexW_of {ts : List (Tok × Nat)} (h : ∀ x ∈ ts, TokW x.1) : ∀ x ∈ ts.map lexOf, LexW x := by
  intro x hx
  obtain ⟨y, hy, rfl⟩ := List.mem_map.1 hx
  exact ⟨y.1, h y hy, rfl, rfl, rfl⟩
theorem LexW.name {x : Lex} (h : LexW x) (hk : x.k = 1) : nameB x.t.data.toList = true := by
  obtain ⟨t, ht, h1, h2, h3⟩ := h
  rw [hk] at h1
  cases ht with
  | name l h => rw [h2]; simpa using h
  | tag l h => exact absurd h1 (by show ¬ (1 : Int) = 2; decide)
  | num u h => exact absurd h1 (by show ¬ (1 : Int) = 3; decide)
  | text l => exact absurd h1 (by show ¬ (1 : Int) = 4; decide)
  | mark c h => exact absurd h1 (by show ¬ (1 : Int) = 5; decide)
theorem LexW.arg {x : Lex} (h : LexW x) {a : ArgT} (ha : argOf x = some a) : fitsB a = true := by
  obtain ⟨t, ht, h1, h2, h3⟩ := h
  unfold argOf at ha
  by_cases k2 : x.k = 2
  · rw [if_pos k2] at ha
    injection ha with ha
    subst ha
    cases ht with
    | name l h => exact absurd (k2.symm.trans h1) (by show ¬ (2 : Int) = 1; decide)
    | tag l h =>
      unfold fitsB
      rw [if_pos rfl]
      show (nameB x.t.data.toList && _) = true
      rw [h2]
      simpa using h
    | num u h => exact absurd (k2.symm.trans h1) (by show ¬ (2 : Int) = 3; decide)
    | text l => exact absurd (k2.symm.trans h1) (by show ¬ (2 : Int) = 4; decide)
    | mark c h => exact absurd (k2.symm.trans h1) (by show ¬ (2 : Int) = 5; decide)
  · rw [if_neg k2] at ha
    by_cases k3 : x.k = 3
    · rw [if_pos k3] at ha
      injection ha with ha
      subst ha
      cases ht with
      | name l h => exact absurd (k3.symm.trans h1) (by show ¬ (3 : Int) = 1; decide)
      | tag l h => exact absurd h1 (by rw [k3]; show ¬ (3 : Int) = 2; decide)
      | num u h =>
        unfold fitsB
        rw [if_neg (by show ¬ (2 : Int) = 1; decide), if_pos rfl]
        have h3 : x.n = (u : Int) := h3
        show (decide ((⟨#[]⟩ : ByteArray).size = 0) && (decide (([] : List ByteArray).length = 0) && (!false && (decide (0 ≤ x.n) && (decide (x.n ≤ 999999999999) || (decide (x.n ≤ 1099511627776) && decide (x.n % 1024 = 0))))))) = true
        rw [h3]
        obtain ⟨q1, q2⟩ := h
        rw [decide_eq_true q1]
        rcases q2 with q2 | ⟨q2, q3⟩
        · rw [decide_eq_true q2]; rfl
        · rw [decide_eq_true q2, decide_eq_true q3]; simp; rfl
      | text l => exact absurd (k3.symm.trans h1) (by show ¬ (3 : Int) = 4; decide)
      | mark c h => exact absurd (k3.symm.trans h1) (by show ¬ (3 : Int) = 5; decide)
    · rw [if_neg k3] at ha
      by_cases k4 : x.k = 4
      · rw [if_pos k4] at ha
        injection ha with ha
        subst ha
        rfl
      · rw [if_neg k4] at ha; cases ha
theorem all_tail {l : List Lex} (h : ∀ x ∈ l, LexW x) : ∀ x ∈ l.tail, LexW x := fun x hx => h x (List.mem_of_mem_tail hx)
theorem mustR_W {E : Int} {c : UInt8} {l : List Lex} {p} (h : mustR E c l = .ok p) (hl : ∀ x ∈ l, LexW x) : ∀ x ∈ p.2, LexW x := by
  obtain ⟨-, rfl⟩ := mustR_ok h
  exact all_tail hl
/-- what an argument bears -/
def wTx : List ByteArray → Nat
  | [] => 0
  | t :: r => 1 + t.size + wTx r
def wA (a : ArgT) : Nat := 1 + a.tag.size + wTx a.texts
def wAs : List ArgT → Nat
  | [] => 0
  | a :: r => wA a + wAs r
mutual
def wT : TestT → Nat
  | .mk n ag ks _ => 1 + n.size + wAs ag + wTs ks
def wTs : List TestT → Nat
  | [] => 0
  | t :: r => wT t + wTs r
end
mutual
def wC : CmdT → Nat
  | .mk n ag ts bl _ _ => 1 + n.size + wAs ag + wTs ts + wCs bl
def wCs : List CmdT → Nat
  | [] => 0
  | c :: r => wC c + wCs r
end
theorem wLx_tail {l : List Lex} (h : l ≠ []) : 1 + wLx l.tail ≤ wLx l := by
  cases l with
  | nil => exact absurd rfl h
  | cons x r => show 1 + wLx r ≤ 2 + x.t.size + wLx r; omega
theorem mustR_w {E : Int} {c : UInt8} {l : List Lex} {p} (h : mustR E c l = .ok p) : 1 + wLx p.2 ≤ wLx l := by
  obtain ⟨h1, rfl⟩ := mustR_ok h
  exact wLx_tail (isM_ne h1)
theorem textsR_W {E : Int} : ∀ {m : Nat} {l : List Lex} {p}, textsR E m l = some (.ok p) → (∀ x ∈ l, LexW x) → (∀ x ∈ p.2, LexW x) ∧ p.1 ≠ [] ∧ wTx p.1 + wLx p.2 ≤ wLx l
  | m + 1, [], p, h, _ => by injection h with h; cases h
  | m + 1, x :: r, p, h, hl => by
    have hr : ∀ y ∈ r, LexW y := fun y hy => hl y (by simp [hy])
    unfold textsR at h
    by_cases h1 : x.k = 4
    · rw [if_pos h1] at h
      by_cases h2 : isM 44 r = true
      · rw [if_pos h2] at h
        cases ht : textsR E m r.tail with
        | none => rw [ht] at h; cases h
        | some q =>
          rw [ht] at h
          injection h with h
          obtain ⟨u, rfl, rfl⟩ := emap_ok h
          obtain ⟨k1, k2, k3⟩ := textsR_W ht (all_tail hr)
          have := wLx_tail (isM_ne h2)
          refine ⟨k1, by simp, ?_⟩
          show 1 + x.t.size + wTx u.1 + wLx u.2 ≤ 2 + x.t.size + wLx r
          omega
      · rw [if_neg h2] at h
        injection h with h
        obtain ⟨u, hu, rfl⟩ := emap_ok h
        have := mustR_w hu
        refine ⟨mustR_W hu hr, by simp, ?_⟩
        show 1 + x.t.size + 0 + wLx u.2 ≤ 2 + x.t.size + wLx r
        omega
    · rw [if_neg h1] at h
      injection h with h
      cases h
theorem argsR_W {E : Int} : ∀ {m : Nat} {l : List Lex} {p}, argsR E m l = some (.ok p) → (∀ x ∈ l, LexW x) → (∀ x ∈ p.2, LexW x) ∧ p.1.all fitsB = true ∧ wAs p.1 + wLx p.2 ≤ wLx l
  | m + 1, [], p, h, hl => by injection h with h; injection h with h; rw [← h]; exact ⟨hl, rfl, Nat.le_refl _⟩
  | m + 1, x :: r, p, h, hl => by
    have hr : ∀ y ∈ r, LexW y := fun y hy => hl y (by simp [hy])
    unfold argsR at h
    by_cases h1 : isM 91 (x :: r) = true
    · rw [if_pos h1] at h
      cases ht : textsR E m r with
      | none => rw [ht] at h; cases h
      | some q =>
        rw [ht] at h
        cases q with
        | error e => injection h with h; cases h
        | ok q =>
          simp only at h
          cases ha : argsR E m q.2 with
          | none => rw [ha] at h; cases h
          | some u =>
            rw [ha] at h
            injection h with h
            obtain ⟨v, rfl, rfl⟩ := emap_ok h
            obtain ⟨k1, k2, k3⟩ := textsR_W ht hr
            obtain ⟨k4, k5, k6⟩ := argsR_W ha k1
            refine ⟨k4, ?_, ?_⟩
            · show (fitsB ⟨3, ⟨#[]⟩, 0, q.1, true⟩ && v.1.all fitsB) = true
              rw [k5, Bool.and_true]
              unfold fitsB
              rw [if_neg (by show ¬ (3 : Int) = 1; decide), if_neg (by show ¬ (3 : Int) = 2; decide), if_pos rfl]
              show (decide ((⟨#[]⟩ : ByteArray).size = 0) && (decide ((0 : Int) = 0) && (decide (0 < q.1.length) && (true || _)))) = true
              rw [decide_eq_true (List.length_pos_iff.2 k2)]
              rfl
            · show 1 + 0 + wTx q.1 + wAs v.1 + wLx v.2 ≤ 2 + x.t.size + wLx r
              omega
    · rw [if_neg h1] at h
      cases hx : argOf x with
      | none =>
        rw [hx] at h
        injection h with h
        injection h with h
        rw [← h]
        exact ⟨hl, rfl, Nat.le_of_eq (Nat.zero_add _)⟩
      | some b =>
        rw [hx] at h
        simp only at h
        cases ha : argsR E m r with
        | none => rw [ha] at h; cases h
        | some u =>
          rw [ha] at h
          injection h with h
          obtain ⟨v, rfl, rfl⟩ := emap_ok h
          obtain ⟨k4, k5, k6⟩ := argsR_W ha hr
          have hb := (hl x (by simp)).arg hx
          refine ⟨k4, ?_, ?_⟩
          · show (fitsB b && v.1.all fitsB) = true
            rw [hb, k5]; rfl
          · have hw : wA b ≤ 2 + x.t.size := by
              unfold argOf at hx
              split at hx
              · injection hx with hx; subst hx; show 1 + x.t.size + 0 ≤ _; omega
              · split at hx
                · injection hx with hx; subst hx; show 1 + 0 + 0 ≤ _; omega
                · split at hx
                  · injection hx with hx; subst hx; show 1 + 0 + (1 + x.t.size + 0) ≤ _; omega
                  · cases hx
            show wA b + wAs v.1 + wLx v.2 ≤ 2 + x.t.size + wLx r
            omega
theorem nameR_W {E : Int} {d : Nat} {l : List Lex} {p} (h : nameR E d l = .ok p) (hl : ∀ x ∈ l, LexW x) : d ≤ 8 ∧ nameB p.1.1.data.toList = true ∧ (∀ x ∈ p.2, LexW x) ∧ 1 + p.1.1.size + wLx p.2 ≤ wLx l := by
  obtain ⟨x, r, rfl, h1, h2, rfl⟩ := nameR_ok h
  refine ⟨h2, (hl x (by simp)).name h1, fun y hy => hl y (by simp [hy]), ?_⟩
  show 1 + x.t.size + wLx r ≤ 2 + x.t.size + wLx r
  omega
theorem tests_W {E : Int} : ∀ (m : Nat), (∀ d l p, testR E m d l = some (.ok p) → (∀ x ∈ l, LexW x) → (∀ x ∈ p.2, LexW x) ∧ rightT d p.1 = true ∧ wT p.1 + wLx p.2 ≤ wLx l) ∧ (∀ d l p, testsR E m d l = some (.ok p) → (∀ x ∈ l, LexW x) → (∀ x ∈ p.2, LexW x) ∧ rightsT d p.1 = true ∧ wTs p.1 + wLx p.2 ≤ wLx l) ∧ (∀ d l p, moreR E m d l = some (.ok p) → (∀ x ∈ l, LexW x) → (∀ x ∈ p.2, LexW x) ∧ rightsT d p.1 = true ∧ wTs p.1 + wLx p.2 ≤ wLx l)
  | 0 => ⟨fun d l p h => by (unfold testR at h; cases h), fun d l p h => by (unfold testsR at h; cases h), fun d l p h => by (unfold moreR at h; cases h)⟩
  | m + 1 => by
    obtain ⟨h1, h2, h3⟩ := tests_W (E := E) m
    have next : ∀ d l p, (match testR E m d l with | none => none | some (.error e) => some (.error e) | some (.ok (t, l1)) => (moreR E m d l1).map fun e => e.map fun p => (t :: p.1, p.2)) = some (.ok p) → (∀ x ∈ l, LexW x) → (∀ x ∈ p.2, LexW x) ∧ rightsT d p.1 = true ∧ wTs p.1 + wLx p.2 ≤ wLx l := by
      intro d l p h hl
      cases ht : testR E m d l with
      | none => rw [ht] at h; cases h
      | some r =>
        rw [ht] at h
        cases r with
        | error e => injection h with h; cases h
        | ok q =>
          simp only at h
          cases hm : moreR E m d q.2 with
          | none => rw [hm] at h; cases h
          | some u =>
            rw [hm] at h
            injection h with h
            obtain ⟨v, rfl, rfl⟩ := emap_ok h
            obtain ⟨k1, k2, k3⟩ := h1 d l q ht hl
            obtain ⟨k4, k5, k6⟩ := h3 d _ v hm k1
            refine ⟨k4, ?_, ?_⟩
            · show (rightT d q.1 && rightsT d v.1) = true
              rw [k2, k5]; rfl
            · show wT q.1 + wTs v.1 + wLx v.2 ≤ _
              omega
    refine ⟨fun d l p h hl => ?_, fun d l p h hl => ?_, fun d l p h hl => ?_⟩
    · unfold testR at h
      cases hn : nameR E d l with
      | error e => rw [hn] at h; injection h with h; cases h
      | ok q =>
        rw [hn] at h
        simp only at h
        obtain ⟨k0, k1, k2, k3⟩ := nameR_W hn hl
        cases ha : argsR E m q.2 with
        | none => rw [ha] at h; cases h
        | some r =>
          rw [ha] at h
          cases r with
          | error e => injection h with h; cases h
          | ok u =>
            simp only at h
            obtain ⟨k4, k5, k6⟩ := argsR_W ha k2
            cases ht : testsR E m (d + 1) u.2 with
            | none => rw [ht] at h; cases h
            | some v =>
              rw [ht] at h
              injection h with h
              obtain ⟨v, rfl, rfl⟩ := emap_ok h
              obtain ⟨k7, k8, k9⟩ := h2 _ _ v ht k4
              refine ⟨k7, ?_, ?_⟩
              · show (decide (d ≤ 8) && (nameB q.1.1.data.toList && (u.1.all fitsB && rightsT (d + 1) v.1))) = true
                rw [decide_eq_true k0, k1, k5, k8]; rfl
              · show 1 + q.1.1.size + wAs u.1 + wTs v.1 + wLx v.2 ≤ _
                omega
    · unfold testsR at h
      split at h
      · cases ht : testR E m d l with
        | none => rw [ht] at h; cases h
        | some v =>
          rw [ht] at h
          injection h with h
          obtain ⟨v, rfl, rfl⟩ := emap_ok h
          obtain ⟨k1, k2, k3⟩ := h1 d l v ht hl
          refine ⟨k1, ?_, ?_⟩
          · show (rightT d v.1 && true) = true
            rw [k2]; rfl
          · show wT v.1 + 0 + wLx v.2 ≤ _
            omega
      · split at h
        · rename_i c2
          obtain ⟨k1, k2, k3⟩ := next d _ p h (all_tail hl)
          have := wLx_tail (isM_ne c2)
          exact ⟨k1, k2, by omega⟩
        · injection h with h; injection h with h
          rw [← h]
          exact ⟨hl, rfl, Nat.le_of_eq (Nat.zero_add _)⟩
    · unfold moreR at h
      split at h
      · rename_i c2
        obtain ⟨k1, k2, k3⟩ := next d _ p h (all_tail hl)
        have := wLx_tail (isM_ne c2)
        exact ⟨k1, k2, by omega⟩
      · injection h with h
        obtain ⟨u, hu, rfl⟩ := emap_ok h
        have := mustR_w hu
        exact ⟨mustR_W hu hl, rfl, by show 0 + wLx u.2 ≤ _; omega⟩
theorem cmd_W {E : Int} : ∀ (m : Nat), (∀ d l p, cmdR E m d l = some (.ok p) → (∀ x ∈ l, LexW x) → (∀ x ∈ p.2, LexW x) ∧ rightC d p.1 = true ∧ wC p.1 + wLx p.2 ≤ wLx l) ∧ (∀ d l p, blockR E m d l = some (.ok p) → (∀ x ∈ l, LexW x) → (∀ x ∈ p.2, LexW x) ∧ rightsC d p.1 = true ∧ wCs p.1 + wLx p.2 ≤ wLx l)
  | 0 => ⟨fun d l p h => by (unfold cmdR at h; cases h), fun d l p h => by (unfold blockR at h; cases h)⟩
  | m + 1 => by
    obtain ⟨h1, h2⟩ := cmd_W (E := E) m
    refine ⟨fun d l p h hl => ?_, fun d l p h hl => ?_⟩
    · unfold cmdR at h
      cases hn : nameR E d l with
      | error e => rw [hn] at h; injection h with h; cases h
      | ok q =>
        rw [hn] at h
        simp only at h
        obtain ⟨k0, k1, k2, k3⟩ := nameR_W hn hl
        cases ha : argsR E m q.2 with
        | none => rw [ha] at h; cases h
        | some r =>
          rw [ha] at h
          cases r with
          | error e => injection h with h; cases h
          | ok u =>
            simp only at h
            obtain ⟨k4, k5, k6⟩ := argsR_W ha k2
            cases ht : testsR E m (d + 1) u.2 with
            | none => rw [ht] at h; cases h
            | some v =>
              rw [ht] at h
              cases v with
              | error e => injection h with h; cases h
              | ok v =>
                simp only at h
                obtain ⟨k7, k8, k9⟩ := (tests_W m).2.1 _ _ v ht k4
                have hmay : mayB d q.1.1 u.1 v.1 = true := by
                  unfold mayB
                  rw [decide_eq_true k0, k1, k5, k8]; rfl
                split at h
                · rename_i c1
                  cases hb : blockR E m (d + 1) v.2.tail with
                  | none => rw [hb] at h; cases h
                  | some r =>
                    rw [hb] at h
                    injection h with h
                    obtain ⟨k, rfl, rfl⟩ := emap_ok h
                    obtain ⟨j1, j2, j3⟩ := h2 _ _ k hb (all_tail k7)
                    have := wLx_tail (isM_ne c1)
                    refine ⟨j1, ?_, ?_⟩
                    · show (mayB d q.1.1 u.1 v.1 && ((true || _) && rightsC (d + 1) k.1)) = true
                      rw [hmay, j2]; rfl
                    · show 1 + q.1.1.size + wAs u.1 + wTs v.1 + wCs k.1 + wLx k.2 ≤ _
                      omega
                · injection h with h
                  obtain ⟨k, hk, rfl⟩ := emap_ok h
                  have := mustR_w hk
                  refine ⟨mustR_W hk k7, ?_, ?_⟩
                  · show (mayB d q.1.1 u.1 v.1 && ((false || true) && true)) = true
                    rw [hmay]; rfl
                  · show 1 + q.1.1.size + wAs u.1 + wTs v.1 + 0 + wLx k.2 ≤ _
                    omega
    · unfold blockR at h
      split at h
      · rename_i c1
        injection h with h; injection h with h
        rw [← h]
        have := wLx_tail (isM_ne c1)
        exact ⟨all_tail hl, rfl, by show 0 + wLx l.tail ≤ _; omega⟩
      · cases ht : cmdR E m d l with
        | none => rw [ht] at h; cases h
        | some r =>
          rw [ht] at h
          cases r with
          | error e => injection h with h; cases h
          | ok q =>
            simp only at h
            cases hb : blockR E m d q.2 with
            | none => rw [hb] at h; cases h
            | some r =>
              rw [hb] at h
              injection h with h
              obtain ⟨k, rfl, rfl⟩ := emap_ok h
              obtain ⟨k1, k2, k3⟩ := h1 d l q ht hl
              obtain ⟨k4, k5, k6⟩ := h2 d _ k hb k1
              refine ⟨k4, ?_, ?_⟩
              · show (rightC d q.1 && rightsC d k.1) = true
                rw [k2, k5]; rfl
              · show wC q.1 + wCs k.1 + wLx k.2 ≤ _
                omega
theorem parse_W {E : Int} : ∀ (m : Nat) (l : List Lex) (a : List CmdT), parseR E m l = some (.ok a) → (∀ x ∈ l, LexW x) → rightsC 0 a = true ∧ wCs a ≤ wLx l
  | m + 1, [], a, h, hl => by
    injection h with h; injection h with h
    rw [← h]
    exact ⟨rfl, Nat.le_refl _⟩
  | m + 1, x :: q, a, h, hl => by
    unfold parseR at h
    cases hc : cmdR E m 0 (x :: q) with
    | none => rw [hc] at h; cases h
    | some u =>
      rw [hc] at h
      cases u with
      | error e => injection h with h; cases h
      | ok p =>
        simp only at h
        cases hp : parseR E m p.2 with
        | none => rw [hp] at h; cases h
        | some u =>
          rw [hp] at h
          injection h with h
          obtain ⟨v, rfl, rfl⟩ := (show ∃ v, u = .ok v ∧ a = p.1 :: v from by cases u with | error e => cases h | ok v => injection h with h; exact ⟨v, rfl, h.symm⟩)
          obtain ⟨k1, k2, k3⟩ := (cmd_W m).1 0 _ p hc hl
          obtain ⟨k4, k5⟩ := parse_W m _ v hp k1
          refine ⟨?_, ?_⟩
          · show (rightC 0 p.1 && rightsC 0 v) = true
            rw [k2, k4]; rfl
          · show wC p.1 + wCs v ≤ _
            omega

/-! how much is written -/
theorem joinL_len (l : List (List UInt8)) : (joinL [44, 32] l).length ≤ (l.map fun x => x.length + 2).sum := by
  have h : ∀ r : List (List UInt8), (r.flatMap ([44, 32] ++ ·)).length ≤ (r.map fun x => x.length + 2).sum := by
    intro r
    induction r with
    | nil => simp
    | cons x r ih =>
      rw [List.flatMap_cons, List.length_append, List.map_cons, List.sum_cons, List.length_append]
      show 2 + x.length + _ ≤ _
      omega
  cases l with
  | nil => exact Nat.zero_le _
  | cons x r =>
    have := h r
    show (x ++ _).length ≤ _
    rw [List.length_append, List.map_cons, List.sum_cons]; omega
theorem esc_le (l : List UInt8) : (l.flatMap escC).length ≤ 2 * l.length := by
  induction l with
  | nil => simp
  | cons c r ih =>
    rw [List.flatMap_cons, List.length_append, List.length_cons]
    have : (escC c).length ≤ 2 := by
      unfold escC
      split
      · simp
      · split <;> simp
    omega
theorem textL_len (l : List UInt8) : (textL l).length ≤ 2 * l.length + 2 := by
  have := esc_le l
  unfold textL
  rw [List.length_cons, List.length_append, List.length_singleton]; omega
theorem wTx_len (l : List ByteArray) : (l.map fun t => (textL t.data.toList).length + 2).sum ≤ 4 * wTx l := by
  induction l with
  | nil => simp
  | cons t r ih =>
    rw [List.map_cons, List.sum_cons]
    have := textL_len t.data.toList
    have e : t.data.toList.length = t.size := Array.length_toList
    show _ ≤ 4 * (1 + t.size + wTx r)
    omega
theorem itoa_len (n : Int) (h0 : -9223372036854775808 ≤ n) (h1 : n ≤ 9223372036854775807) : (Lib.itoa n).length ≤ 21 := by
  unfold Lib.itoa
  have h : ∀ u : Nat, u ≤ 9223372036854775808 → (Lib.decDigits u).length ≤ 20 := fun u hu => dd_len 19 u (Nat.lt_of_le_of_lt hu (by decide))
  split
  · have := h n.natAbs (by omega)
    rw [List.length_cons]; omega
  · have := h n.toNat (by omega)
    omega
theorem numW_len (n : Int) (h0 : -9223372036854775808 ≤ n) (h1 : n ≤ 9223372036854775807) : (numW n).length ≤ 22 := by
  unfold numW
  split
  · rw [List.length_append, List.length_singleton]
    have := itoa_len (n / 1024) (by omega) (by omega)
    omega
  · have := itoa_len n h0 h1
    omega
def argRng (a : ArgT) : Prop := -9223372036854775808 ≤ a.n ∧ a.n ≤ 9223372036854775807
theorem argW_len (a : ArgT) (h : argRng a) : (argW a).length ≤ 30 * wA a := by
  have h1 := numW_len a.n h.1 h.2
  have h2 := joinL_len (a.texts.map fun t => textL t.data.toList)
  rw [List.map_map] at h2
  have h3 := wTx_len a.texts
  have h4 : (a.texts.map ((fun x => x.length + 2) ∘ fun t => textL t.data.toList)).sum = (a.texts.map fun t => (textL t.data.toList).length + 2).sum := rfl
  have e : a.tag.data.toList.length = a.tag.size := Array.length_toList
  unfold argW wA
  split
  · rw [List.length_cons, List.length_cons]; omega
  · split
    · rw [List.length_cons]; omega
    · rw [List.length_cons]
      split
      · rw [List.length_cons, List.length_append, List.length_singleton]; omega
      · omega
end Sv
namespace Sv
open Go Lx C1

/-! names, and all the rest -/
mutual
def nT : TestT → Nat
  | .mk n _ ks _ => n.size + nTs ks
def nTs : List TestT → Nat
  | [] => 0
  | t :: r => nT t + nTs r
end
mutual
def mT : TestT → Nat
  | .mk _ ag ks _ => 1 + wAs ag + mTs ks
def mTs : List TestT → Nat
  | [] => 0
  | t :: r => mT t + mTs r
end
mutual
def nC : CmdT → Nat
  | .mk n _ ts bl _ _ => n.size + nTs ts + nCs bl
def nCs : List CmdT → Nat
  | [] => 0
  | t :: r => nC t + nCs r
end
mutual
def mC : CmdT → Nat
  | .mk _ ag ts bl _ _ => 1 + wAs ag + mTs ts + mCs bl
def mCs : List CmdT → Nat
  | [] => 0
  | t :: r => mC t + mCs r
end
mutual
theorem wT_nm : ∀ t : TestT, wT t = nT t + mT t
  | .mk n ag ks a => by have := wTs_nm ks; unfold wT nT mT; omega
theorem wTs_nm : ∀ l : List TestT, wTs l = nTs l + mTs l
  | [] => rfl
  | t :: r => by have h1 := wT_nm t; have h2 := wTs_nm r; unfold wTs nTs mTs; omega
end
mutual
theorem wC_nm : ∀ t : CmdT, wC t = nC t + mC t
  | .mk n ag ts bl b a => by have h1 := wTs_nm ts; have h2 := wCs_nm bl; unfold wC nC mC; omega
theorem wCs_nm : ∀ l : List CmdT, wCs l = nCs l + mCs l
  | [] => rfl
  | t :: r => by have h1 := wC_nm t; have h2 := wCs_nm r; unfold wCs nCs mCs; omega
end
/-! numbers in their range -/
mutual
def rT : TestT → Prop
  | .mk _ ag ks _ => (∀ a ∈ ag, argRng a) ∧ rTs ks
def rTs : List TestT → Prop
  | [] => True
  | t :: r => rT t ∧ rTs r
end
mutual
def rC : CmdT → Prop
  | .mk _ ag ts bl _ _ => (∀ a ∈ ag, argRng a) ∧ rTs ts ∧ rCs bl
def rCs : List CmdT → Prop
  | [] => True
  | t :: r => rC t ∧ rCs r
end
theorem argsW_len : ∀ (ag : List ArgT), (∀ a ∈ ag, argRng a) → (ag.flatMap argW).length ≤ 30 * wAs ag
  | [], _ => Nat.zero_le _
  | a :: r, h => by
    have h1 := argW_len a (h a (by simp))
    have h2 := argsW_len r fun x hx => h x (by simp [hx])
    rw [List.flatMap_cons, List.length_append]
    show _ ≤ 30 * (wA a + wAs r)
    omega
theorem flat_len (l : List (List UInt8)) : (l.flatMap ([44, 32] ++ ·)).length = (l.map fun x => x.length + 2).sum := by
  induction l with
  | nil => rfl
  | cons x r ih =>
    rw [List.flatMap_cons, List.length_append, ih, List.map_cons, List.sum_cons, List.length_append]
    show 2 + x.length + _ = _
    omega
theorem endW_len (l : List (List UInt8)) : (endW l).length ≤ (l.map fun x => x.length + 4).sum := by
  match l with
  | [] => exact Nat.le_refl _
  | [x] => show (32 :: x).length ≤ x.length + 4 + 0; rw [List.length_cons]; omega
  | x :: y :: r =>
    show (32 :: 40 :: ((x ++ (y :: r).flatMap ([44, 32] ++ ·)) ++ [41])).length ≤ x.length + 4 + (y.length + 4 + (r.map fun x => x.length + 4).sum)
    rw [List.length_cons, List.length_cons, List.length_append, List.length_append, flat_len, List.map_cons, List.sum_cons, List.length_singleton]
    have : ∀ q : List (List UInt8), (q.map fun x => x.length + 2).sum ≤ (q.map fun x => x.length + 4).sum := by
      intro q
      induction q with
      | nil => exact Nat.le_refl _
      | cons z q ih => rw [List.map_cons, List.map_cons, List.sum_cons, List.sum_cons]; omega
    have := this r
    omega
theorem whatW_len (n : ByteArray) (ag : List ArgT) (ks : List (List UInt8)) (h : ∀ a ∈ ag, argRng a) : (whatW n ag ks).length ≤ n.size + 30 * wAs ag + (ks.map fun x => x.length + 4).sum := by
  have h1 := argsW_len ag h
  have h2 := endW_len ks
  have e : n.data.toList.length = n.size := Array.length_toList
  unfold whatW
  rw [List.length_append, List.length_append]
  omega
mutual
theorem testW_len : ∀ t : TestT, rT t → (testW t).length + 4 ≤ nT t + 40 * mT t
  | .mk n ag ks a, h => by
    unfold rT at h
    have h1 := whatW_len n ag (testsW ks) h.1
    have h2 := testsW_len ks h.2
    unfold testW nT mT
    omega
theorem testsW_len : ∀ l : List TestT, rTs l → ((testsW l).map fun x => x.length + 4).sum ≤ nTs l + 40 * mTs l
  | [], _ => Nat.le_refl _
  | t :: r, h => by
    unfold rTs at h
    have h1 := testW_len t h.1
    have h2 := testsW_len r h.2
    unfold testsW nTs mTs
    rw [List.map_cons, List.sum_cons]
    omega
end
mutual
theorem cmdW_len : ∀ t : CmdT, rC t → (cmdW t).length ≤ nC t + 40 * mC t
  | .mk n ag ts bl b a, h => by
    unfold rC at h
    have h1 := whatW_len n ag (testsW ts) h.1
    have h2 := testsW_len ts h.2.1
    have h3 := cmdsW_len bl h.2.2
    unfold cmdW nC mC
    rw [List.length_append]
    split
    · rw [List.length_append, List.length_append]
      show _ + (3 + _ + 2) ≤ _
      omega
    · show _ + 2 ≤ _
      omega
theorem cmdsW_len : ∀ l : List CmdT, rCs l → (cmdsW l).length ≤ nCs l + 40 * mCs l
  | [], _ => Nat.zero_le _
  | t :: r, h => by
    unfold rCs at h
    have h1 := cmdW_len t h.1
    have h2 := cmdsW_len r h.2
    unfold cmdsW nCs mCs
    rw [List.length_append]
    omega
end
/-! a valid tree's numbers are in their range -/
theorem fits_rng {a : ArgT} (h : fitsB a = true) : argRng a := by
  unfold argRng
  by_cases h1 : a.k = 1
  · rw [(fits_tag h h1).2.1]; omega
  · by_cases h2 : a.k = 2
    · obtain ⟨-, -, -, h3, h4⟩ := fits_num h h1 h2
      rcases h4 with h4 | h4 <;> omega
    · rw [(fits_text h h1 h2).2.2.1]; omega
mutual
theorem rT_of : ∀ (t : TestT) (d : Nat), rightT d t = true → rT t
  | .mk n ag ks a, d, h => by
    unfold rightT at h
    rw [Bool.and_eq_true, Bool.and_eq_true, Bool.and_eq_true] at h
    unfold rT
    exact ⟨fun a ha => fits_rng (List.all_eq_true.1 h.2.2.1 a ha), rTs_of ks (d + 1) h.2.2.2⟩
theorem rTs_of : ∀ (l : List TestT) (d : Nat), rightsT d l = true → rTs l
  | [], d, h => trivial
  | t :: r, d, h => by
    unfold rightsT at h
    rw [Bool.and_eq_true] at h
    exact ⟨rT_of t d h.1, rTs_of r d h.2⟩
end
mutual
theorem rC_of : ∀ (t : CmdT) (d : Nat), rightC d t = true → rC t
  | .mk n ag ts bl b a, d, h => by
    unfold rightC at h
    rw [Bool.and_eq_true, Bool.and_eq_true] at h
    obtain ⟨-, -, h2, h3⟩ := may_of h.1
    unfold rC
    exact ⟨fun a ha => fits_rng (List.all_eq_true.1 h2 a ha), rTs_of ts (d + 1) h3, rCs_of bl (d + 1) h.2.2⟩
theorem rCs_of : ∀ (l : List CmdT) (d : Nat), rightsC d l = true → rCs l
  | [], d, h => trivial
  | t :: r, d, h => by
    unfold rightsC at h
    rw [Bool.and_eq_true] at h
    exact ⟨rC_of t d h.1, rCs_of r d h.2⟩
end
end Sv
