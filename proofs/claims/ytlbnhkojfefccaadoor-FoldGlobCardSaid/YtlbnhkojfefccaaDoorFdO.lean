/- Plain: the order of strings is an order; a key without wildcards is found where its pattern matches. -/
import Derived.Test.YtlbnhkojfefccaaDoorFdG
namespace Go.Proofs.YtlbnhkojfefccaaDoor
open Go.RowKit Lib Pk U8 Su Fo

/-- bytes compared, one after the other -/
def c3 : List UInt8 → List UInt8 → Int
  | [], [] => 0
  | [], _ :: _ => -1
  | _ :: _, [] => 1
  | a :: x, b :: y => if a.toNat < b.toNat then -1 else if b.toNat < a.toNat then 1 else c3 x y
theorem cmp_c3 : ∀ a b : List UInt8, cmpL a b = c3 a b
  | [], [] => rfl
  | [], _ :: _ => by unfold cmpL c3; rw [if_pos (by simp [Go.Op.bytesLess])]
  | _ :: _, [] => by unfold cmpL c3; rw [if_neg (by simp [Go.Op.bytesLess]), if_neg (by simp)]
  | a :: x, b :: y => by
    have ih := cmp_c3 x y
    unfold cmpL at ih ⊢
    unfold c3
    rw [← ih, Go.Op.bytesLess]
    by_cases h1 : a.toNat < b.toNat
    · have h1' : a < b := h1
      simp [h1, h1']
    · have h1' : ¬ a < b := h1
      by_cases h2 : b.toNat < a.toNat
      · have h2' : a ≠ b := fun e => by rw [e] at h2; omega
        have h3 : b < a := h2
        simp [h1, h1', h2, h2', h3]
      · have e : a = b := UInt8.toNat_inj.1 (by omega)
        subst e
        simp [h1]
theorem c3_rng : ∀ a b : List UInt8, -1 ≤ c3 a b ∧ c3 a b ≤ 1 ∧ c3 b a = - c3 a b ∧ c3 a a = 0
  | [], [] => ⟨by decide, by decide, rfl, rfl⟩
  | [], _ :: _ => ⟨show (-1 : Int) ≤ -1 by decide, show (-1 : Int) ≤ 1 by decide, rfl, rfl⟩
  | a :: x, [] => by
    obtain ⟨-, -, -, h⟩ := c3_rng x x
    exact ⟨show (-1 : Int) ≤ 1 by decide, show (1 : Int) ≤ 1 by decide, rfl, by unfold c3; rw [if_neg (by omega), if_neg (by omega)]; exact h⟩
  | a :: x, b :: y => by
    obtain ⟨h1, h2, h3, h4⟩ := c3_rng x y
    unfold c3
    refine ⟨?_, ?_, ?_, by rw [if_neg (by omega), if_neg (by omega)]; exact h4⟩
    · split <;> (try split) <;> omega
    · split <;> (try split) <;> omega
    · by_cases g1 : a.toNat < b.toNat
      · rw [if_neg (by omega), if_pos g1, if_pos g1]; rfl
      · by_cases g2 : b.toNat < a.toNat
        · rw [if_pos g2, if_neg g1, if_pos g2]
        · rw [if_neg g2, if_neg g1, if_neg g1, if_neg g2]; exact h3
theorem c3_trans : ∀ a b c : List UInt8, c3 a b ≤ 0 → c3 b c ≤ 0 → c3 a c ≤ 0 ∧ (c3 a c = 0 → c3 a b = 0 ∧ c3 b c = 0)
  | [], [], [], _, _ => ⟨by decide, fun _ => ⟨rfl, rfl⟩⟩
  | [], [], _ :: _, _, _ => ⟨show (-1 : Int) ≤ 0 by decide, fun h => by cases h⟩
  | [], _ :: _, [], _, h => absurd h (show ¬ (1 : Int) ≤ 0 by decide)
  | [], _ :: _, _ :: _, _, _ => ⟨show (-1 : Int) ≤ 0 by decide, fun h => by cases h⟩
  | _ :: _, [], _, h, _ => absurd h (by simp [c3])
  | _ :: _, _ :: _, [], _, h => absurd h (by simp [c3])
  | a :: x, b :: y, c :: z, h1, h2 => by
    have ih := c3_trans x y z
    unfold c3 at h1 h2 ⊢
    by_cases g1 : a.toNat < b.toNat
    · rw [if_pos g1] at h1 ⊢
      by_cases g2 : b.toNat < c.toNat
      · rw [if_pos (by omega)]; exact ⟨by decide, fun h => by cases h⟩
      · by_cases g3 : c.toNat < b.toNat
        · rw [if_neg g2, if_pos g3] at h2; exact absurd h2 (by decide)
        · rw [if_pos (by omega)]; exact ⟨by decide, fun h => by cases h⟩
    · by_cases g2 : b.toNat < a.toNat
      · rw [if_neg g1, if_pos g2] at h1; exact absurd h1 (by decide)
      · rw [if_neg g1, if_neg g2] at h1 ⊢
        by_cases g3 : b.toNat < c.toNat
        · rw [if_pos (by omega)]; exact ⟨by decide, fun h => by cases h⟩
        · by_cases g4 : c.toNat < b.toNat
          · rw [if_neg g3, if_pos g4] at h2; exact absurd h2 (by decide)
          · rw [if_neg g3, if_neg g4] at h2 ⊢
            rw [if_neg (by omega), if_neg (by omega)]
            exact ih h1 h2
structure Ordered (f : List UInt8 → List UInt8 → Int) : Prop where
  rng : ∀ a b, -1 ≤ f a b ∧ f a b ≤ 1
  sym : ∀ a b, f b a = - f a b
  refl : ∀ a, f a a = 0
  trans : ∀ a b c, f a b ≤ 0 → f b c ≤ 0 → f a c ≤ 0 ∧ (f a c = 0 → f a b = 0 ∧ f b c = 0)
theorem cmp_ordered : Ordered cmpL where
  rng a b := by rw [cmp_c3]; obtain ⟨h1, h2, -, -⟩ := c3_rng a b; exact ⟨h1, h2⟩
  sym a b := by rw [cmp_c3, cmp_c3]; exact (c3_rng a b).2.2.1
  refl a := by rw [cmp_c3]; exact (c3_rng a a).2.2.2
  trans a b c := by rw [cmp_c3, cmp_c3, cmp_c3]; exact c3_trans a b c
/-- numbers without leading zeros: by length, then by their bytes -/
def lx (x y : List UInt8) : Int := if cmpZ x.length y.length = 0 then cmpL x y else cmpZ x.length y.length
theorem lx_v (a b : List UInt8) : lx a b = if a.length < b.length then -1 else if b.length < a.length then 1 else cmpL a b := by
  unfold lx cmpZ
  by_cases h : a.length < b.length
  · rw [if_pos (show (a.length : Int) < b.length by omega), if_pos h]; rfl
  · by_cases h2 : b.length < a.length
    · rw [if_neg (show ¬ (a.length : Int) < b.length by omega), if_pos (show (b.length : Int) < a.length by omega), if_neg h, if_pos h2]; rfl
    · rw [if_neg (show ¬ (a.length : Int) < b.length by omega), if_neg (show ¬ (b.length : Int) < a.length by omega), if_neg h, if_neg h2]; rfl
theorem lx_ordered : Ordered lx where
  rng a b := by
    have h := cmp_ordered.rng a b
    rw [lx_v]
    repeat' split
    all_goals omega
  sym a b := by
    have h := cmp_ordered.sym a b
    rw [lx_v, lx_v]
    repeat' split
    all_goals omega
  refl a := by
    have h := cmp_ordered.refl a
    rw [lx_v, if_neg (Nat.lt_irrefl _), if_neg (Nat.lt_irrefl _)]
    exact h
  trans a b c := by
    have h := cmp_ordered.trans a b c
    rw [lx_v, lx_v, lx_v]
    repeat' split
    all_goals (first | exact h | omega)
theorem ordN_v (a b : List UInt8) : ordN a b = if isNum a = true then (if isNum b = true then lx (numL a) (numL b) else -1) else if isNum b = true then 1 else 0 := by
  unfold ordN
  cases isNum a <;> cases isNum b <;> rfl
theorem num_ordered : Ordered ordN where
  rng a b := by
    have h := lx_ordered.rng (numL a) (numL b)
    rw [ordN_v]
    repeat' split
    all_goals omega
  sym a b := by
    have h := lx_ordered.sym (numL a) (numL b)
    rw [ordN_v, ordN_v]
    cases isNum a <;> cases isNum b
    · rfl
    · rfl
    · rfl
    · exact h
  refl a := by
    have h := lx_ordered.refl (numL a)
    rw [ordN_v]
    cases isNum a
    · rfl
    · exact h
  trans a b c := by
    have h := lx_ordered.trans (numL a) (numL b) (numL c)
    rw [ordN_v, ordN_v, ordN_v]
    cases isNum a <;> cases isNum b <;> cases isNum c
    · exact fun _ _ => ⟨Int.le_refl _, fun _ => ⟨rfl, rfl⟩⟩
    · exact fun _ h2 => absurd h2 (show ¬ (1 : Int) ≤ 0 by decide)
    · exact fun h1 _ => absurd h1 (show ¬ (1 : Int) ≤ 0 by decide)
    · exact fun h1 _ => absurd h1 (show ¬ (1 : Int) ≤ 0 by decide)
    · exact fun _ _ => ⟨show (-1 : Int) ≤ 0 by decide, fun h => by cases h⟩
    · exact fun _ h2 => absurd h2 (show ¬ (1 : Int) ≤ 0 by decide)
    · exact fun _ _ => ⟨show (-1 : Int) ≤ 0 by decide, fun h => by cases h⟩
    · exact h
theorem ord_ordered (comp : Int) : Ordered (ordL comp) := by
  by_cases h : comp = 3
  · have e : ordL comp = ordN := by funext a b; unfold ordL; rw [if_pos h]
    rw [e]; exact num_ordered
  · have e : ordL comp = fun a b => cmpL (keyL comp a) (keyL comp b) := by funext a b; unfold ordL; rw [if_neg h]
    rw [e]
    exact ⟨fun a b => cmp_ordered.rng _ _, fun a b => cmp_ordered.sym _ _, fun a => cmp_ordered.refl _, fun a b c => cmp_ordered.trans _ _ _⟩
theorem ord_same {comp : Int} (hc : comp ≠ 3) {a b : List UInt8} (h : keyL comp a = keyL comp b) : ordL comp a b = 0 := by
  unfold ordL; rw [if_neg hc, h]; exact cmp_ordered.refl _
end Go.Proofs.YtlbnhkojfefccaaDoor
