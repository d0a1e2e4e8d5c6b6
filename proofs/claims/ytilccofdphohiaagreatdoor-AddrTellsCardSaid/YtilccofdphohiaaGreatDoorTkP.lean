/- Plain: tokens of a structured field. -/
import Derived.Test.YtilccofdphohiaaGreatDoorKitE
import Derived.Test.YtilccofdphohiaaGreatDoorSubPP
namespace Tk
open Go Go.RowKit Pk Su Fo

def specL : List UInt8 := [40, 41, 60, 62, 91, 93, 58, 59, 64, 92, 44, 46, 34]
def spec (c : UInt8) : Bool := specL.contains c
def atm (c : UInt8) : Bool := decide (32 < c.toNat) && !(c == 127) && !(spec c)
/-- how many bytes there are to the byte that closes -/
def clo (close : UInt8) : Nat → List UInt8 → Option Nat
  | _, [] => none
  | d, [c] => if c = 92 then none else if c = close then (if d = 1 then some 1 else none) else none
  | d, c :: e :: r =>
    if c = 92 then (clo close d r).map (· + 2)
    else if c = close then (if d = 1 then some 1 else (clo close (d - 1) (e :: r)).map (· + 1))
    else if c = 40 ∧ close = 41 then (clo close (d + 1) (e :: r)).map (· + 1)
    else (clo close d (e :: r)).map (· + 1)
def cls (k : Nat) (close : UInt8) (l : List UInt8) : Nat × Nat := match clo close 1 (l.drop 1) with
  | some m => (k, m + 1)
  | none => (7, l.length)
/-- the kind and the length of the first token -/
def fr : List UInt8 → Nat × Nat
  | [] => (7, 0)
  | c :: r =>
    if blk c = true then (6, ((c :: r).takeWhile blk).length)
    else if c = 40 then cls 3 41 (c :: r)
    else if c = 34 then cls 2 34 (c :: r)
    else if c = 91 then cls 5 93 (c :: r)
    else if spec c = true then (4, 1)
    else if atm c = true then (1, ((c :: r).takeWhile atm).length)
    else (7, 1)
theorem clo_le (close : UInt8) : ∀ (n : Nat) (l : List UInt8), l.length ≤ n → ∀ d m, clo close d l = some m → 1 ≤ m ∧ m ≤ l.length
  | _, [], _, d, m, h => by simp [clo] at h
  | _, [c], _, d, m, h => by
    unfold clo at h
    split at h
    · cases h
    · split at h
      · split at h
        · injection h with h; subst h; simp
        · cases h
      · cases h
  | 0, _ :: _ :: _, hn, _, _, _ => by simp at hn
  | n + 1, c :: e :: r, hn, d, m, h => by
    rw [List.length_cons, List.length_cons] at hn
    have i1 := clo_le close n r (by omega)
    have i2 := clo_le close n (e :: r) (by rw [List.length_cons]; omega)
    unfold clo at h
    rw [List.length_cons, List.length_cons]
    rw [List.length_cons] at i2
    have map2 : ∀ (x : Option Nat) k, x.map (· + k) = some m → ∃ q, x = some q ∧ m = q + k := fun x k hx => by
      cases x with
      | none => cases hx
      | some q => injection hx with hx; exact ⟨q, rfl, hx.symm⟩
    split at h
    · obtain ⟨q, hq, rfl⟩ := map2 _ _ h
      have := i1 _ _ hq; omega
    · split at h
      · split at h
        · injection h with h; omega
        · obtain ⟨q, hq, rfl⟩ := map2 _ _ h
          have := i2 _ _ hq; omega
      · split at h
        · obtain ⟨q, hq, rfl⟩ := map2 _ _ h
          have := i2 _ _ hq; omega
        · obtain ⟨q, hq, rfl⟩ := map2 _ _ h
          have := i2 _ _ hq; omega
theorem tw_le (p : UInt8 → Bool) (l : List UInt8) : (l.takeWhile p).length ≤ l.length := (List.takeWhile_sublist _).length_le
theorem tw_pos {p : UInt8 → Bool} {c : UInt8} {r : List UInt8} (h : p c = true) : 1 ≤ ((c :: r).takeWhile p).length := by
  rw [List.takeWhile_cons, if_pos h, List.length_cons]; omega
theorem cls_rng (k : Nat) (close c : UInt8) (r : List UInt8) : 1 ≤ (cls k close (c :: r)).2 ∧ (cls k close (c :: r)).2 ≤ r.length + 1 := by
  unfold cls
  show 1 ≤ (match clo close 1 r with | some m => (k, m + 1) | none => (7, (c :: r).length)).2 ∧ _
  cases h : clo close 1 r with
  | none =>
    have : (match clo close 1 ((c :: r).drop 1) with | some m => (k, m + 1) | none => (7, (c :: r).length)) = (7, (c :: r).length) := by
      show (match clo close 1 r with | some m => (k, m + 1) | none => (7, (c :: r).length)) = _
      rw [h]
    rw [this]
    show 1 ≤ (c :: r).length ∧ (c :: r).length ≤ r.length + 1
    rw [List.length_cons]; omega
  | some m =>
    have : (match clo close 1 ((c :: r).drop 1) with | some m => (k, m + 1) | none => (7, (c :: r).length)) = (k, m + 1) := by
      show (match clo close 1 r with | some m => (k, m + 1) | none => (7, (c :: r).length)) = _
      rw [h]
    rw [this]
    have := clo_le close _ r (Nat.le_refl _) 1 m h
    show 1 ≤ m + 1 ∧ m + 1 ≤ r.length + 1
    omega
theorem fr_cons (c : UInt8) (r : List UInt8) : fr (c :: r) = if blk c = true then (6, ((c :: r).takeWhile blk).length)
    else if c = 40 then cls 3 41 (c :: r)
    else if c = 34 then cls 2 34 (c :: r)
    else if c = 91 then cls 5 93 (c :: r)
    else if spec c = true then (4, 1)
    else if atm c = true then (1, ((c :: r).takeWhile atm).length)
    else (7, 1) := rfl
theorem fr_rng {l : List UInt8} (h : l ≠ []) : 1 ≤ (fr l).2 ∧ (fr l).2 ≤ l.length := by
  cases l with
  | nil => exact absurd rfl h
  | cons c r =>
    rw [fr_cons, List.length_cons]
    split
    · rename_i hb
      have := tw_le blk (c :: r)
      rw [List.length_cons] at this
      exact ⟨tw_pos hb, this⟩
    · split
      · exact cls_rng 3 41 c r
      · split
        · exact cls_rng 2 34 c r
        · split
          · exact cls_rng 5 93 c r
          · split
            · exact ⟨Nat.le_refl 1, by show 1 ≤ r.length + 1; omega⟩
            · split
              · rename_i ha
                have := tw_le atm (c :: r)
                rw [List.length_cons] at this
                exact ⟨tw_pos ha, this⟩
              · exact ⟨Nat.le_refl 1, by show 1 ≤ r.length + 1; omega⟩
def tok (l : List UInt8) : El := ⟨(fr l).1, ⟨(l.take (fr l).2).toArray⟩⟩
def scF : Nat → List UInt8 → List El
  | 0, _ => []
  | f + 1, l => if l.isEmpty = true then [] else tok l :: scF f (l.drop (fr l).2)
def sc (l : List UInt8) : List El := scF l.length l
theorem scF_more : ∀ (f : Nat) (l : List UInt8), l.length ≤ f → scF f l = sc l := by
  intro f
  induction f using Nat.strongRecOn with
  | _ f ih =>
    intro l hl
    cases l with
    | nil => cases f <;> rfl
    | cons a r =>
      cases f with
      | zero => simp at hl
      | succ f =>
        have hw := fr_rng (l := a :: r) (by simp)
        unfold sc
        rw [List.length_cons, scF, scF]
        rw [if_neg (by simp), if_neg (by simp)]
        congr 1
        have hd : ((a :: r).drop (fr (a :: r)).2).length ≤ r.length := by rw [List.length_drop, List.length_cons]; omega
        simp only [List.length_cons] at hl
        rw [ih f (by omega) _ (by omega)]
        by_cases he : r.length = f
        · rw [he, ih f (by omega) _ (by omega)]
        · rw [ih r.length (by omega) _ hd]
theorem sc_nil : sc [] = [] := rfl
theorem sc_cons {l : List UInt8} (h : l ≠ []) : sc l = tok l :: sc (l.drop (fr l).2) := by
  cases l with
  | nil => exact absurd rfl h
  | cons a r =>
    have hw := fr_rng (l := a :: r) (by simp)
    conv => lhs; unfold sc
    rw [List.length_cons, scF, if_neg (by simp), scF_more]
    rw [List.length_drop, List.length_cons]; omega
def joinE (m : List El) : List UInt8 := m.flatMap fun x => x.text.data.toList
theorem join_sc : ∀ (n : Nat) (l : List UInt8), l.length ≤ n → joinE (sc l) = l := by
  intro n
  induction n with
  | zero => intro l h; have : l = [] := List.eq_nil_of_length_eq_zero (by omega); subst this; rfl
  | succ n ih =>
    intro l h
    by_cases he : l = []
    · subst he; rfl
    · have hw := fr_rng he
      have := ih (l.drop (fr l).2) (by rw [List.length_drop]; omega)
      rw [sc_cons he]
      unfold joinE at *
      rw [List.flatMap_cons, this]
      exact List.take_append_drop _ _
theorem sc_length : ∀ (n : Nat) (l : List UInt8), l.length ≤ n → (sc l).length ≤ l.length := by
  intro n
  induction n with
  | zero => intro l h; have : l = [] := List.eq_nil_of_length_eq_zero (by omega); subst this; exact Nat.le_refl _
  | succ n ih =>
    intro l h
    by_cases he : l = []
    · subst he; exact Nat.le_refl _
    · have hw := fr_rng he
      have := ih (l.drop (fr l).2) (by rw [List.length_drop]; omega)
      rw [List.length_drop] at this
      rw [sc_cons he, List.length_cons]; omega
/-- what a quoted token or a comment means -/
def ue : Bool → List UInt8 → List UInt8
  | _, [] => []
  | true, c :: r => c :: ue false r
  | false, c :: r => if c = 92 then ue true r else if c = 10 ∨ c = 13 then ue false r else c :: ue false r
def valL (k : Nat) (l : List UInt8) : List UInt8 := if (k = 2 ∨ k = 3) ∧ 2 ≤ l.length then ue false ((l.drop 1).take (l.length - 2)) else l
theorem ue_length : ∀ (l : List UInt8) (b : Bool), (ue b l).length ≤ l.length
  | [], _ => by simp [ue]
  | c :: r, true => by
    have := ue_length r false
    unfold ue; rw [List.length_cons, List.length_cons]; omega
  | c :: r, false => by
    have h1 := ue_length r false
    have h2 := ue_length r true
    unfold ue
    rw [List.length_cons]
    split
    · omega
    · split
      · omega
      · rw [List.length_cons]; omega
def esc (c : UInt8) : List UInt8 := if c = 92 ∨ c = 34 ∨ c = 10 ∨ c = 13 then [92, c] else [c]
def repL (l : List UInt8) : List UInt8 := l.flatMap esc
/-- the words between the spaces, and whether each is an atom -/
def plF (w : Bool) : List UInt8 → Bool
  | [] => w
  | c :: r => if c = 32 then w && plF false r else atm c && plF true r
def plainQ (l : List UInt8) : Bool := plF false l
def quoteL (l : List UInt8) : List UInt8 := if plainQ l = true then l else 34 :: repL l ++ [34]
end Tk
