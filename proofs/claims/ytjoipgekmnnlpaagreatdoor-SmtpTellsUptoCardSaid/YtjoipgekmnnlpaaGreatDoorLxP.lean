/- Plain: the lexer of the filter language as functions of lists of bytes, and what they read of a longer text. -/
import Derived.Test.YtjoipgekmnnlpaaGreatDoorPlain1
namespace Lx
open Go Pk C1

def isDig (c : UInt8) : Bool := decide (48 ≤ c.toNat ∧ c.toNat ≤ 57)
def isLet (c : UInt8) : Bool := decide ((97 ≤ c.toNat ∧ c.toNat ≤ 122) ∨ (65 ≤ c.toNat ∧ c.toNat ≤ 90) ∨ c.toNat = 95)
def isWd (c : UInt8) : Bool := isLet c || isDig c
def isBl (c : UInt8) : Bool := decide (c = 32 ∨ c = 9)
def isWs (c : UInt8) : Bool := decide (c = 32 ∨ c = 9 ∨ c = 13 ∨ c = 10)
def noNl (c : UInt8) : Bool := decide (c ≠ 10)
def isMk (c : UInt8) : Bool := decide (c = 91 ∨ c = 93 ∨ c = 40 ∨ c = 41 ∨ c = 123 ∨ c = 125 ∨ c = 44 ∨ c = 59)
def spanL (p : UInt8 → Bool) : List UInt8 → Nat
  | [] => 0
  | c :: r => if p c = true then spanL p r + 1 else 0
def identL : List UInt8 → Nat
  | [] => 0
  | c :: r => if isLet c = true then spanL isWd r + 1 else 0
def lowC (c : UInt8) : UInt8 := if 65 ≤ c.toNat ∧ c.toNat ≤ 90 then c + 32 else c
def lowL (l : List UInt8) : List UInt8 := l.map lowC
/-- the length of the first line, with its end -/
def lnL : List UInt8 → Nat
  | [] => 0
  | c :: r => if c = 10 then 1 else lnL r + 1
/-- where the comment ends -/
def cmL : List UInt8 → Option Nat
  | [] => none
  | a :: r => if a = 42 ∧ r.head? = some 47 then some 0 else (cmL r).map (· + 1)
def spaceL : List UInt8 → Option Nat
  | [] => some 0
  | c :: r => if isWs c = true then some 1 else if c = 35 then some (lnL (c :: r)) else if c = 47 ∧ r.head? = some 42 then (cmL r.tail).map (· + 4) else some 0
theorem identL_cons (c : UInt8) (r : List UInt8) : identL (c :: r) = if isLet c = true then spanL isWd r + 1 else 0 := rfl
theorem spaceL_cons (c : UInt8) (r : List UInt8) : spaceL (c :: r) = if isWs c = true then some 1 else if c = 35 then some (lnL (c :: r)) else if c = 47 ∧ r.head? = some 42 then (cmL r.tail).map (· + 4) else some 0 := rfl
def isDot (h : List UInt8) : Bool := decide (h = [46] ∨ h = [46, 10] ∨ h = [46, 13, 10])
def unst : List UInt8 → List UInt8
  | [] => []
  | c :: r => if c = 46 then r else c :: r
theorem lnL_pos : ∀ (l : List UInt8), l ≠ [] → 0 < lnL l
  | [], h => absurd rfl h
  | c :: r, _ => by unfold lnL; split <;> omega
theorem lnL_le : ∀ (l : List UInt8), lnL l ≤ l.length
  | [] => Nat.le_refl _
  | c :: r => by
    have := lnL_le r
    unfold lnL; rw [List.length_cons]; split <;> omega
/-- the value of a text up to the line of a dot, and where it ends -/
def dotF : Nat → List UInt8 → Option (List UInt8 × Nat)
  | 0, _ => none
  | m + 1, l => if l = [] then none else if isDot (l.take (lnL l)) = true then some ([], lnL l) else (dotF m (l.drop (lnL l))).map fun p => (unst (l.take (lnL l)) ++ p.1, lnL l + p.2)
def dotL (l : List UInt8) : Option (List UInt8 × Nat) := dotF l.length l
theorem dotF_more : ∀ (m : Nat) (l : List UInt8), l.length ≤ m → dotF m l = dotF l.length l := by
  intro m
  induction m using Nat.strongRecOn with
  | _ m ih =>
    intro l hl
    rcases Nat.lt_or_ge l.length m with h | h
    · cases m with
      | zero => omega
      | succ m =>
        cases hn : l.length with
        | zero =>
          have := List.eq_nil_of_length_eq_zero hn
          subst this
          unfold dotF
          rw [if_pos rfl]
        | succ n =>
          have hne : l ≠ [] := fun e => by rw [e] at hn; simp at hn
          have hp := lnL_pos l hne
          unfold dotF
          rw [if_neg hne, if_neg hne]
          have hd : (l.drop (lnL l)).length ≤ n := by rw [List.length_drop]; omega
          rw [ih m (by omega) _ (by omega), ih n (by omega) _ hd]
    · have : m = l.length := by omega
      rw [this]
theorem dotL_eq (l : List UInt8) : dotL l = if l = [] then none else if isDot (l.take (lnL l)) = true then some ([], lnL l) else (dotL (l.drop (lnL l))).map fun p => (unst (l.take (lnL l)) ++ p.1, lnL l + p.2) := by
  cases hn : l.length with
  | zero =>
    have := List.eq_nil_of_length_eq_zero hn
    subst this
    rfl
  | succ n =>
    have hne : l ≠ [] := fun e => by rw [e] at hn; simp at hn
    have hp := lnL_pos l hne
    have e : dotF l.length l = if l = [] then none else if isDot (l.take (lnL l)) = true then some ([], lnL l) else (dotF n (l.drop (lnL l))).map fun p => (unst (l.take (lnL l)) ++ p.1, lnL l + p.2) := by rw [hn]; rfl
    unfold dotL
    rw [e, dotF_more n (l.drop (lnL l)) (by rw [List.length_drop]; omega)]
def begB (l : List UInt8) : Nat := if (l.drop (spanL isBl l)).head? = some 35 then spanL isBl l + spanL noNl (l.drop (spanL isBl l)) else spanL isBl l
def begL (l : List UInt8) : Nat := if (l.drop (begB l)).head? = some 13 ∧ (l.drop (begB l + 1)).head? = some 10 then begB l + 1 else begB l
def multiL (l : List UInt8) : Option (List UInt8 × Nat) :=
  if (l.drop (begL l)).head? = some 10 then (dotL (l.drop (begL l + 1))).map fun p => (p.1, begL l + 1 + p.2) else none
/-- behind the opening quote -/
def quoL : List UInt8 → Option (List UInt8 × Nat)
  | [] => none
  | [c] => if c = 34 then some ([], 1) else none
  | c :: d :: r => if c = 34 then some ([], 1) else if c = 92 then (quoL r).map fun p => (d :: p.1, p.2 + 2) else (quoL (d :: r)).map fun p => (c :: p.1, p.2 + 1)
def kmg (c : UInt8) : Nat := if c = 75 ∨ c = 107 then 1 else if c = 77 ∨ c = 109 then 2 else if c = 71 ∨ c = 103 then 3 else 0
def hdK (l : List UInt8) : Nat := match l with | [] => 0 | c :: _ => kmg c
def hdW (l : List UInt8) : Bool := match l with | [] => false | c :: _ => isWd c
def most : Nat := 1099511627776
def numL (l : List UInt8) : Option (Nat × Nat) :=
  let n := spanL isDig l
  let v := val 0 (l.take n)
  let k := hdK (l.drop n)
  if 12 < n ∨ most < v then none
  else if k = 0 then (if hdW (l.drop n) = true then none else some (v, n))
  else if most / 1024 ^ k < v then none
  else if hdW (l.drop (n + 1)) = true then none else some (v * 1024 ^ k, n + 1)
structure Tok where
  k : Nat
  t : List UInt8
  n : Nat
  deriving DecidableEq
def textW : List UInt8 := [116, 101, 120, 116]
def tokenL (l : List UInt8) : Option (Tok × Nat) :=
  if identL l = 4 ∧ lowL (l.take 4) = textW ∧ (l.drop 4).head? = some 58 then (multiL (l.drop 5)).map fun p => (⟨4, p.1, 0⟩, 5 + p.2)
  else if 0 < identL l then some (⟨1, lowL (l.take (identL l)), 0⟩, identL l)
  else match l with
    | [] => none
    | c :: r =>
      if c = 58 ∧ 0 < identL r then some (⟨2, lowL (r.take (identL r)), 0⟩, 1 + identL r)
      else if isDig c = true then (numL (c :: r)).map fun p => (⟨3, [], p.1⟩, p.2)
      else if c = 34 then (quoL r).map fun p => (⟨4, p.1, 0⟩, 1 + p.2)
      else if isMk c = true then some (⟨5, [c], 0⟩, 1)
      else none

/-! what a prefix says -/
theorem spanL_le (p : UInt8 → Bool) : ∀ l, spanL p l ≤ l.length
  | [] => Nat.le_refl _
  | c :: r => by have := spanL_le p r; unfold spanL; rw [List.length_cons]; split <;> omega
theorem spanL_app (p : UInt8 → Bool) : ∀ (x Y Z : List UInt8), spanL p (x ++ Y) < x.length → spanL p (x ++ Z) = spanL p (x ++ Y)
  | [], _, _, h => by simp at h
  | c :: r, Y, Z, h => by
    rw [List.cons_append] at h ⊢
    rw [List.cons_append]
    unfold spanL at h ⊢
    by_cases hc : p c = true
    · rw [if_pos hc] at h ⊢
      rw [if_pos hc, spanL_app p r Y Z (by rw [List.length_cons] at h; omega)]
    · rw [if_neg hc, if_neg hc]
def hdP (p : UInt8 → Bool) (l : List UInt8) : Bool := match l with | [] => false | c :: _ => p c
theorem spanL_nohd (p : UInt8 → Bool) : ∀ (Z : List UInt8), hdP p Z = false → spanL p Z = 0
  | [], _ => rfl
  | c :: r, h => by unfold spanL; rw [if_neg (by unfold hdP at h; simp [h])]
theorem spanL_full (p : UInt8 → Bool) : ∀ (x Y Z : List UInt8), spanL p (x ++ Y) = x.length → hdP p Z = false → spanL p (x ++ Z) = x.length
  | [], _, Z, _, h => by rw [List.nil_append]; exact spanL_nohd p Z h
  | c :: r, Y, Z, h, hz => by
    rw [List.cons_append] at h ⊢
    unfold spanL at h ⊢
    by_cases hc : p c = true
    · rw [if_pos hc] at h ⊢
      rw [spanL_full p r Y Z (by rw [List.length_cons] at h; omega) hz, List.length_cons]
    · rw [if_neg hc] at h; simp at h
theorem spanL_fullY (p : UInt8 → Bool) : ∀ (x Y : List UInt8), spanL p (x ++ Y) = x.length → hdP p Y = false
  | [], Y, h => by
    rw [List.nil_append] at h
    cases Y with
    | nil => rfl
    | cons c r =>
      unfold spanL at h
      unfold hdP
      by_cases hc : p c = true
      · rw [if_pos hc] at h; simp at h
      · simpa using hc
  | c :: r, Y, h => by
    rw [List.cons_append] at h
    unfold spanL at h
    by_cases hc : p c = true
    · rw [if_pos hc, List.length_cons] at h
      exact spanL_fullY p r Y (by omega)
    · rw [if_neg hc, List.length_cons] at h; omega
theorem lnL_app : ∀ (x Y Z : List UInt8), lnL (x ++ Y) ≤ x.length → Y ≠ [] → lnL (x ++ Z) = lnL (x ++ Y)
  | [], Y, _, h, hY => by
    rw [List.nil_append] at h
    have := lnL_pos Y hY
    simp at h; omega
  | c :: r, Y, Z, h, hY => by
    rw [List.cons_append] at h ⊢
    rw [List.cons_append]
    unfold lnL at h ⊢
    by_cases hc : c = 10
    · rw [if_pos hc, if_pos hc]
    · rw [if_neg hc] at h ⊢
      rw [if_neg hc, lnL_app r Y Z (by rw [List.length_cons] at h; omega) hY]
theorem cmL_app : ∀ (x Y Z : List UInt8) (n : Nat), cmL (x ++ Y) = some n → n + 2 ≤ x.length → cmL (x ++ Z) = some n
  | [], _, _, n, _, h => by simp at h
  | [_], _, _, n, _, h => by simp at h
  | a :: b :: r, Y, Z, n, h, hn => by
    rw [List.cons_append, List.cons_append] at h ⊢
    unfold cmL at h ⊢
    rw [List.head?_cons] at h ⊢
    by_cases hc : a = 42 ∧ some b = some 47
    · rw [if_pos hc] at h ⊢; exact h
    · rw [if_neg hc] at h ⊢
      cases hr : cmL (b :: (r ++ Y)) with
      | none => rw [hr] at h; cases h
      | some m =>
        rw [hr] at h
        simp only [Option.map_some, Option.some.injEq] at h
        have := cmL_app (b :: r) Y Z m hr (by rw [List.length_cons] at hn ⊢; rw [List.length_cons] at hn; omega)
        rw [List.cons_append] at this
        rw [this, Option.map_some, h]
theorem cmL_le : ∀ (l : List UInt8) (n : Nat), cmL l = some n → n + 2 ≤ l.length
  | [], n, h => by cases h
  | a :: r, n, h => by
    unfold cmL at h
    split at h
    · rename_i hc
      injection h with h
      cases r with
      | nil => simp at hc
      | cons b r => rw [List.length_cons, List.length_cons]; omega
    · cases hr : cmL r with
      | none => rw [hr] at h; cases h
      | some m =>
        rw [hr] at h
        simp only [Option.map_some, Option.some.injEq] at h
        have := cmL_le r m hr
        rw [List.length_cons]; omega
theorem hd_app {x Y Z : List UInt8} (h : x ≠ []) : (x ++ Z).head? = (x ++ Y).head? := by
  cases x with
  | nil => exact absurd rfl h
  | cons c r => rfl
theorem drop_app {x Y : List UInt8} {n : Nat} (h : n ≤ x.length) : (x ++ Y).drop n = x.drop n ++ Y := by
  rw [List.drop_append_of_le_length h]
theorem take_app {x Y : List UInt8} {n : Nat} (h : n ≤ x.length) : (x ++ Y).take n = x.take n := by
  rw [List.take_append_of_le_length h]
theorem spaceL_app (x Y Z : List UInt8) (hY : Y ≠ []) (hx : x ≠ []) (h : spaceL (x ++ Y) = some x.length) : spaceL (x ++ Z) = some x.length := by
  cases x with
  | nil => exact absurd rfl hx
  | cons c r =>
    rw [List.cons_append] at h ⊢
    rw [spaceL_cons] at h ⊢
    by_cases h1 : isWs c = true
    · rw [if_pos h1] at h ⊢; exact h
    · rw [if_neg h1] at h ⊢
      by_cases h2 : c = 35
      · rw [if_pos h2] at h ⊢
        injection h with h
        have := lnL_app (c :: r) Y Z (by rw [List.cons_append, h]; exact Nat.le_refl _) hY
        rw [List.cons_append, List.cons_append] at this
        rw [this, h]
      · rw [if_neg h2] at h ⊢
        by_cases h3 : c = 47 ∧ (r ++ Y).head? = some 42
        · rw [if_pos h3] at h
          cases hr : cmL (r ++ Y).tail with
          | none => rw [hr] at h; cases h
          | some n =>
            rw [hr] at h
            simp only [Option.map_some, Option.some.injEq, List.length_cons] at h
            cases r with
            | nil => simp at h
            | cons d q =>
              rw [List.length_cons] at h
              rw [if_pos ⟨h3.1, by simpa using h3.2⟩]
              rw [List.cons_append, List.tail_cons] at hr ⊢
              rw [cmL_app q Y Z n hr (by omega)]
              simp; omega
        · rw [if_neg h3] at h
          simp at h
theorem spaceL_tok (x Y Z : List UInt8) (hx : x ≠ []) (h1 : x.head? ≠ some 47) (h : spaceL (x ++ Y) = some 0) : spaceL (x ++ Z) = some 0 := by
  cases x with
  | nil => exact absurd rfl hx
  | cons c r =>
    rw [List.cons_append] at h ⊢
    rw [spaceL_cons] at h ⊢
    by_cases h2 : isWs c = true
    · rw [if_pos h2] at h; cases h
    · rw [if_neg h2] at h ⊢
      by_cases h3 : c = 35
      · rw [if_pos h3] at h
        have := lnL_pos (c :: (r ++ Y)) (by simp)
        injection h with h; omega
      · rw [if_neg h3] at h ⊢
        rw [if_neg (fun e => h1 (by rw [e.1]; rfl))]
theorem dotL_pos : ∀ (m : Nat) (l v : List UInt8) (n : Nat), l.length ≤ m → dotL l = some (v, n) → 0 < n ∧ n ≤ l.length := by
  intro m
  induction m with
  | zero =>
    intro l v n hm h
    have := List.eq_nil_of_length_eq_zero (by omega : l.length = 0)
    subst this
    cases h
  | succ m ih =>
    intro l v n hm he
    rw [dotL_eq] at he
    by_cases h : l = []
    · rw [if_pos h] at he; cases he
    · rw [if_neg h] at he
      have h1 := lnL_pos l h
      have h2 := lnL_le l
      split at he
      · injection he with he
        injection he with _ he
        omega
      · cases hr : dotL (l.drop (lnL l)) with
        | none => rw [hr] at he; cases he
        | some p =>
          rw [hr] at he
          injection he with he
          injection he with _ he
          have := ih _ p.1 p.2 (by rw [List.length_drop]; omega) hr
          rw [List.length_drop] at this
          omega
theorem dotL_app : ∀ (m : Nat) (x Y Z : List UInt8) (v : List UInt8) (n : Nat), x.length ≤ m → Y ≠ [] → dotL (x ++ Y) = some (v, n) → n ≤ x.length → dotL (x ++ Z) = some (v, n) := by
  intro m
  induction m with
  | zero =>
    intro x Y Z v n hm _ h hn
    have := dotL_pos _ _ v n (Nat.le_refl _) h
    omega
  | succ m ih =>
    intro x Y Z v n hm hY h hn
    have hx : x ≠ [] := fun e => by
      have := dotL_pos _ _ v n (Nat.le_refl _) h
      rw [e] at hn; simp at hn; omega
    have hne : x ++ Y ≠ [] := by simp [hx]
    have hnz : x ++ Z ≠ [] := by simp [hx]
    rw [dotL_eq, if_neg hne] at h
    have hl : lnL (x ++ Y) ≤ x.length := by
      split at h
      · injection h with h
        injection h with _ h
        omega
      · cases hr : dotL ((x ++ Y).drop (lnL (x ++ Y))) with
        | none => rw [hr] at h; cases h
        | some p =>
          rw [hr] at h
          injection h with h
          injection h with _ h
          omega
    have hp := lnL_pos _ hne
    have e1 := lnL_app x Y Z hl hY
    rw [dotL_eq, if_neg hnz, e1, take_app hl, drop_app hl]
    rw [take_app hl, drop_app hl] at h
    split at h
    · rename_i hd
      rw [if_pos hd]; exact h
    · rename_i hd
      rw [if_neg hd]
      cases hr : dotL (x.drop (lnL (x ++ Y)) ++ Y) with
      | none => rw [hr] at h; cases h
      | some p =>
        rw [hr] at h
        injection h with h
        injection h with h1 h2
        rw [ih (x.drop (lnL (x ++ Y))) Y Z p.1 p.2 (by rw [List.length_drop]; omega) hY hr (by rw [List.length_drop]; omega)]
        simp only [Option.map_some]
        rw [h1, h2]
theorem quo_pos : ∀ (l v : List UInt8) (n : Nat), quoL l = some (v, n) → 0 < n
  | [], v, n, h => by cases h
  | [c], v, n, h => by
    unfold quoL at h
    split at h
    · injection h with h; injection h with _ h; omega
    · cases h
  | c :: d :: r, v, n, h => by
    unfold quoL at h
    split at h
    · injection h with h; injection h with _ h; omega
    · split at h
      · cases hr : quoL r with
        | none => rw [hr] at h; cases h
        | some p => rw [hr] at h; injection h with h; injection h with _ h; omega
      · cases hr : quoL (d :: r) with
        | none => rw [hr] at h; cases h
        | some p => rw [hr] at h; injection h with h; injection h with _ h; omega
theorem quo_34 (Z : List UInt8) : quoL (34 :: Z) = some ([], 1) := by cases Z <;> rfl
theorem quoL_app : ∀ (x Y Z v : List UInt8) (n : Nat), quoL (x ++ Y) = some (v, n) → n ≤ x.length → 0 < x.length → quoL (x ++ Z) = some (v, n)
  | [], _, _, _, _, _, _, h => by simp at h
  | [c], Y, Z, v, n, h, hn, _ => by
    have hc : c = 34 := by
      cases Y with
      | nil =>
        simp only [List.cons_append, List.nil_append, quoL] at h
        by_cases hc : c = 34
        · exact hc
        · rw [if_neg hc] at h; cases h
      | cons d r =>
        simp only [List.cons_append, List.nil_append, quoL] at h
        by_cases hc : c = 34
        · exact hc
        · rw [if_neg hc] at h
          simp at hn
          by_cases h9 : c = 92
          · rw [if_pos h9] at h
            cases hr : quoL r with
            | none => rw [hr] at h; cases h
            | some p => rw [hr] at h; injection h with h; injection h with _ h; omega
          · rw [if_neg h9] at h
            cases hr : quoL (d :: r) with
            | none => rw [hr] at h; cases h
            | some p =>
              rw [hr] at h; injection h with h; injection h with _ h
              have : 0 < p.2 := by
                clear h
                exact quo_pos _ p.1 p.2 hr
              omega
    subst hc
    rw [List.singleton_append, quo_34] at h
    rw [List.singleton_append, quo_34]
    exact h
  | c :: d :: r, Y, Z, v, n, h, hn, _ => by
    simp only [List.cons_append, quoL] at h ⊢
    by_cases h1 : c = 34
    · rw [if_pos h1] at h ⊢; exact h
    · rw [if_neg h1] at h ⊢
      by_cases h2 : c = 92
      · rw [if_pos h2] at h ⊢
        cases hr : quoL (r ++ Y) with
        | none => rw [hr] at h; cases h
        | some p =>
          rw [hr] at h
          injection h with h
          injection h with ha hb
          have hp := quo_pos _ p.1 p.2 hr
          simp only [List.length_cons] at hn
          rw [quoL_app r Y Z p.1 p.2 hr (by omega) (by omega)]
          rw [Option.map_some, ha, hb]
      · rw [if_neg h2] at h ⊢
        cases hr : quoL (d :: (r ++ Y)) with
        | none => rw [hr] at h; cases h
        | some p =>
          rw [hr] at h
          injection h with h
          injection h with ha hb
          simp only [List.length_cons] at hn
          have := quoL_app (d :: r) Y Z p.1 p.2 hr (by rw [List.length_cons]; omega) (by simp)
          rw [List.cons_append] at this
          rw [this, Option.map_some, ha, hb]
end Lx
