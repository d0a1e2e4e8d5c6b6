/- Plain: the laws of base subjects: replies and forwards; a base subject's own base subject. -/
import Derived.Test.YtlhmdooeffmedaaDoorPl30c
namespace Su
open Go Pk U8 Fo

/-! replies and forwards, in eight styles -/
def p0 : List UInt8 := [82, 101, 58, 32]
def p1 : List UInt8 := [70, 87, 68, 58]
def p2 : List UInt8 := [102, 119, 32, 91, 50, 93, 32, 58, 32]
def q3 : List UInt8 := [32, 40, 70, 119, 100, 41]
def p4 : List UInt8 := [91, 108, 105, 115, 116, 93, 32, 114, 69, 9, 91, 120, 93, 58]
def p5 : List UInt8 := [13, 10, 32, 114, 101, 32, 58, 32]
def p6 : List UInt8 := [91, 97, 93, 32, 91, 98, 93, 70, 119, 100, 58, 32]
def q6 : List UInt8 := [32, 32]
def p7 : List UInt8 := [70, 119, 58, 9]
def q7 : List UInt8 := [40, 102, 119, 100, 41]
def laidL (s : List UInt8) : Nat → List UInt8
  | 0 => p0 ++ s
  | 1 => p1 ++ s
  | 2 => p2 ++ s
  | 3 => s ++ q3
  | 4 => p4 ++ s
  | 5 => p5 ++ s
  | 6 => p6 ++ s ++ q6
  | _ => p7 ++ s ++ q7
/-- the two answers that a reply's subject must give -/
def Same (l s : List UInt8) : Prop := (red (plain l)).1 = (red (plain s)).1 ∧ (red (plain l)).2 = true
theorem same_pre (q : List UInt8) (z : UInt8) (hz : lowc z ∉ fwdT) (hz2 : z ≠ 32) (hh : (q ++ [z]).head? ≠ some 32) (ha : ∀ P, answer (q ++ [z] ++ P) = some (free P)) {l s : List UInt8} {P : List UInt8}
    (hl : red (plain l) = red (q ++ [z] ++ P)) (hP : red P = red (plain s)) : Same l s := by
  unfold Same
  rw [hl, red_pre q z hz hz2 hh ha _ P (Nat.le_refl _), hP]
  exact ⟨rfl, rfl⟩
theorem tm_no (x : List UInt8) {m l : List UInt8} (hx : l.take m.length = x) (h : x.map lowc ≠ m) : tryMark m l = none := by
  unfold tryMark st; rw [if_neg (by rw [hx]; exact h)]
theorem tm_yes {m l r q : List UInt8} (h : (l.take m.length).map lowc = m) (hr : l.drop m.length = r) (hq : (blob (free r)).getD (free r) = 58 :: q) : tryMark m l = some (free q) := by
  unfold tryMark st
  rw [if_pos h, hr]
  simp only
  rw [hq]
  rfl
theorem ans_re {l t u : List UInt8} (hs : skip l = t) (h : tryMark re t = some u) : answer l = some u := by
  unfold answer; rw [hs, h]
theorem ans_fwd {l t u : List UInt8} (hs : skip l = t) (h0 : tryMark re t = none) (h : tryMark fwd t = some u) : answer l = some u := by
  unfold answer; rw [hs, h0, h]
theorem ans_fw {l t u : List UInt8} (hs : skip l = t) (h0 : tryMark re t = none) (h1 : tryMark fwd t = none) (h : tryMark fw t = some u) : answer l = some u := by
  unfold answer; rw [hs, h0, h1, h]
theorem ans_0 (P : List UInt8) : answer ([82, 101] ++ [58] ++ P) = some (free P) :=
  ans_re (skip_none rfl) (tm_yes (r := 58 :: P) (q := P) rfl rfl rfl)
theorem ans_1 (P : List UInt8) : answer ([70, 87, 68] ++ [58] ++ P) = some (free P) :=
  ans_fwd (skip_none rfl) (tm_no [70, 87] rfl (by decide)) (tm_yes (r := 58 :: P) (q := P) rfl rfl rfl)
theorem ans_2 (P : List UInt8) : answer ([102, 119, 32, 91, 50, 93, 32] ++ [58] ++ P) = some (free P) :=
  ans_fw (skip_none rfl) (tm_no [102, 119] rfl (by decide)) (tm_no [102, 119, 32] rfl (by decide)) (tm_yes (r := [32, 91, 50, 93, 32, 58] ++ P) (q := P) rfl rfl rfl)
theorem ans_4 (P : List UInt8) : answer ([91, 108, 105, 115, 116, 93, 32, 114, 69, 32, 91, 120, 93] ++ [58] ++ P) = some (free P) :=
  ans_re (t := [114, 69, 32, 91, 120, 93, 58] ++ P) ((skip_some rfl).trans (skip_none rfl)) (tm_yes (r := [32, 91, 120, 93, 58] ++ P) (q := P) rfl rfl rfl)
theorem ans_5 (P : List UInt8) : answer ([114, 101, 32] ++ [58] ++ P) = some (free P) :=
  ans_re (skip_none rfl) (tm_yes (r := [32, 58] ++ P) (q := P) rfl rfl rfl)
theorem ans_6 (P : List UInt8) : answer ([91, 97, 93, 32, 91, 98, 93, 70, 119, 100] ++ [58] ++ P) = some (free P) :=
  ans_fwd (t := [70, 119, 100, 58] ++ P) ((skip_some (u := [91, 98, 93, 70, 119, 100, 58] ++ P) rfl).trans ((skip_some (u := [70, 119, 100, 58] ++ P) rfl).trans (skip_none rfl))) (tm_no [70, 119] rfl (by decide)) (tm_yes (r := 58 :: P) (q := P) rfl rfl rfl)
theorem ans_7 (P : List UInt8) : answer ([70, 119] ++ [58] ++ P) = some (free P) :=
  ans_fw (skip_none rfl) (tm_no [70, 119] rfl (by decide)) (tm_no [70, 119, 58] rfl (by decide)) (tm_yes (r := 58 :: P) (q := P) rfl rfl rfl)
/-- a string behind a blank -/
theorem red_sp_col (l : List UInt8) : red (32 :: col true (repairL l)) = red (plain l) := red_plain_sp (repairL l)
theorem red_ends (l : List UInt8) (b : Bool) : red (col false l ++ (if b = true then [] else [32])) = red (col false l) := by
  cases b
  · exact red_sp _
  · rw [if_pos rfl, List.append_nil]
theorem col_q (l q : List UInt8) (hq : col true (32 :: q) = col true q) (hq2 : col false (32 :: q) = 32 :: col true q) (b0 : Bool) : col b0 (l ++ 32 :: q) = col b0 l ++ ((if cs b0 l = true then [] else [32]) ++ col true q) := by
  rw [col_app]
  cases cs b0 l
  · rw [hq2]; rfl
  · rw [hq]; rfl
theorem red_fwdEnd (X f : List UInt8) (hf : f.map lowc = fwdT) (hf2 : f.getLast? ≠ some 32) : red (X ++ f) = ((red X).1, true) := by
  have h5 : f.length = 5 := by
    have := congrArg List.length hf
    rw [List.length_map] at this
    exact this
  have hne : f ≠ [] := by intro e; rw [e] at h5; cases h5
  have hl : (X ++ f).getLast? ≠ some 32 := by
    rcases snoc_cases f with e | ⟨r, c, e⟩
    · exact absurd e hne
    · rw [e] at hf2 ⊢
      rw [← List.append_assoc]
      simpa using hf2
  have hlen : (X ++ f).length - 5 = X.length := by rw [List.length_append]; omega
  have he : endsF (X ++ f) = true := by
    unfold endsF
    rw [hlen, List.drop_left, hf, decide_eq_true (by rw [List.length_append]; omega)]
    simp
  rw [red_fwd hl he, hlen, List.take_left, Bool.true_or]
theorem same_0 (s : List UInt8) : Same (p0 ++ s) s :=
  same_pre [82, 101] 58 (by decide) (by decide) (by decide) ans_0 (P := 32 :: col true (repairL s)) (by rw [plain_pre p0 s (by decide)]; rfl) (red_sp_col s)
theorem same_1 (s : List UInt8) : Same (p1 ++ s) s :=
  same_pre [70, 87, 68] 58 (by decide) (by decide) (by decide) ans_1 (P := plain s) (by rw [plain_pre p1 s (by decide)]; rfl) rfl
theorem same_2 (s : List UInt8) : Same (p2 ++ s) s :=
  same_pre [102, 119, 32, 91, 50, 93, 32] 58 (by decide) (by decide) (by decide) ans_2 (P := 32 :: col true (repairL s)) (by rw [plain_pre p2 s (by decide)]; rfl) (red_sp_col s)
theorem same_3 (s : List UInt8) : Same (s ++ q3) s := by
  have e : plain (s ++ q3) = (col false (repairL s) ++ (if cs false (repairL s) = true then [] else [32])) ++ [40, 70, 119, 100, 41] := by
    rw [plain_app s (x := q3) (asc_cons (by decide)), show repairL q3 = q3 by decide]
    show _ ++ col _ (32 :: [40, 70, 119, 100, 41]) = _
    cases cs false (repairL s) <;> simp [plain, col, blk]
  unfold Same
  rw [e, red_fwdEnd _ _ (by decide) (by decide), red_ends]
  exact ⟨rfl, rfl⟩
theorem same_4 (s : List UInt8) : Same (p4 ++ s) s :=
  same_pre [91, 108, 105, 115, 116, 93, 32, 114, 69, 32, 91, 120, 93] 58 (by decide) (by decide) (by decide) ans_4 (P := plain s) (by rw [plain_pre p4 s (by decide)]; rfl) rfl
theorem same_5 (s : List UInt8) : Same (p5 ++ s) s :=
  same_pre [114, 101, 32] 58 (by decide) (by decide) (by decide) ans_5 (P := 32 :: col true (repairL s)) (by rw [plain_pre p5 s (by decide)]; exact red_sp1 _ _ (Nat.le_refl _)) (red_sp_col s)
theorem same_6 (s : List UInt8) : Same (p6 ++ s ++ q6) s := by
  have e : plain (p6 ++ s ++ q6) = [91, 97, 93, 32, 91, 98, 93, 70, 119, 100] ++ [58] ++ (32 :: (col true (repairL s) ++ (if cs true (repairL s) = true then [] else [32]))) := by
    rw [List.append_assoc, plain_pre p6 _ (by decide), repair_app s (x := q6) (asc_cons (by decide)), show repairL q6 = q6 by decide]
    show _ ++ col true (repairL s ++ [32, 32]) = _
    rw [col_app]
    show col false p6 ++ _ = _
    cases cs true (repairL s) <;> simp [col, blk, p6]
  refine same_pre [91, 97, 93, 32, 91, 98, 93, 70, 119, 100] 58 (by decide) (by decide) (by decide) ans_6 (P := 32 :: (col true (repairL s) ++ (if cs true (repairL s) = true then [] else [32]))) (by rw [e]) ?_
  cases cs true (repairL s)
  · rw [if_neg (by decide), ← List.cons_append, red_sp]; exact red_sp_col s
  · rw [if_pos rfl, List.append_nil]; exact red_sp_col s
theorem same_7 (s : List UInt8) : Same (p7 ++ s ++ q7) s := by
  have e : plain (p7 ++ s ++ q7) = [70, 119] ++ [58] ++ (32 :: col true (repairL s)) ++ q7 := by
    rw [List.append_assoc, plain_pre p7 _ (by decide), repair_app s (x := q7) (asc_cons (by decide)), show repairL q7 = q7 by decide]
    show _ ++ col true (repairL s ++ q7) = _
    rw [col_app]
    show col false p7 ++ _ = _
    cases cs true (repairL s) <;> simp [col, blk, p7, q7]
  unfold Same
  rw [e, red_fwdEnd _ _ (by decide) (by decide)]
  have := same_pre (s := s) (l := p7 ++ s) [70, 119] 58 (by decide) (by decide) (by decide) ans_7 (P := 32 :: col true (repairL s)) (by rw [plain_pre p7 s (by decide)]; rfl) (red_sp_col s)
  have h2 : red (plain (p7 ++ s)) = red ([70, 119] ++ [58] ++ (32 :: col true (repairL s))) := by rw [plain_pre p7 s (by decide)]; rfl
  unfold Same at this
  rw [h2] at this
  exact ⟨this.1, rfl⟩
theorem same_laid (s : List UInt8) : ∀ k : Nat, k < 8 → Same (laidL s k) s
  | 0, _ => same_0 s
  | 1, _ => same_1 s
  | 2, _ => same_2 s
  | 3, _ => same_3 s
  | 4, _ => same_4 s
  | 5, _ => same_5 s
  | 6, _ => same_6 s
  | 7, _ => same_7 s
  | n + 8, h => absurd h (by omega)
end Su
