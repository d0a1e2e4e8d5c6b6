/- Plain: a mail session: input by lines. Plain: a mail session: a whole run, with the answers to its messages. Plain: a mail session: what its replies and its messages are. Plain: a mail session: bounds. Plain: a mail session: a session that has just said HELO is as a new one. Plain: a mail session: a client that stuffs dots hands a message over. Plain: chapter 22's fixed examples. -/
import Derived.Test.YtjoipgekmnnlpaaGreatDoorSmP
namespace Sm
open Go Lx

/-- as pushW, line by line -/
def pushL : List UInt8 → List (List UInt8) → List (List UInt8) × List UInt8
  | r, [] => ([], r)
  | r, x :: xs => if x.getLast? = some 10 then ((r ++ x).take 1000 :: (pushL [] xs).1, (pushL [] xs).2) else pushL ((r ++ x).take 1000) xs
theorem pushL_cons (r x : List UInt8) (xs : List (List UInt8)) : pushL r (x :: xs) = if x.getLast? = some 10 then ((r ++ x).take 1000 :: (pushL [] xs).1, (pushL [] xs).2) else pushL ((r ++ x).take 1000) xs := rfl
theorem pushL_snoc (x : List UInt8) : ∀ (pre : List (List UInt8)) (r : List UInt8), pushL r (pre ++ [x]) = if x.getLast? = some 10 then ((pushL r pre).1 ++ [((pushL r pre).2 ++ x).take 1000], []) else ((pushL r pre).1, ((pushL r pre).2 ++ x).take 1000)
  | [], r => rfl
  | y :: pre, r => by
    rw [List.cons_append, pushL_cons, pushL_cons]
    by_cases h : y.getLast? = some 10
    · rw [if_pos h, if_pos h, pushL_snoc x pre []]
      split <;> rfl
    · rw [if_neg h, if_neg h]
      exact pushL_snoc x pre _
theorem pushL_le : ∀ (pre : List (List UInt8)) (r : List UInt8), r.length ≤ 1000 → (pushL r pre).2.length ≤ 1000 ∧ (∀ l ∈ (pushL r pre).1, l.length ≤ 1000) ∧ (pushL r pre).1.length ≤ pre.length
  | [], r, h => ⟨h, (fun _ hl => by cases hl), Nat.le_refl _⟩
  | x :: xs, r, h => by
    rw [pushL_cons]
    split
    · obtain ⟨h1, h2, h3⟩ := pushL_le xs [] (by simp)
      refine ⟨h1, fun l hl => ?_, by simp; omega⟩
      rcases List.mem_cons.1 hl with rfl | hl
      · rw [List.length_take]; omega
      · exact h2 l hl
    · obtain ⟨h1, h2, h3⟩ := pushL_le xs ((r ++ x).take 1000) (by rw [List.length_take]; omega)
      exact ⟨h1, h2, by rw [List.length_cons]; omega⟩
theorem take_take_app (r t : List UInt8) (n : Nat) : ((r.take n) ++ t).take n = (r ++ t).take n := by
  rcases Nat.le_total r.length n with h | h
  · rw [List.take_of_length_le h]
  · rw [List.take_append_of_le_length (by rw [List.length_take]; omega), List.take_append_of_le_length h, List.take_take, Nat.min_self]
theorem pushW_free : ∀ (t r : List UInt8), r.length ≤ 1000 → t.contains 10 = false → pushW r t = ([], (r ++ t).take 1000)
  | [], r, hr, _ => by rw [List.append_nil, List.take_of_length_le hr]; rfl
  | c :: t, r, hr, h => by
    have e2 : (c :: t).contains 10 = (10 == c || t.contains 10) := rfl
    rw [e2, Bool.or_eq_false_iff] at h
    have hc : c ≠ 10 := fun e => by rw [e] at h; exact absurd h.1 (by decide)
    rw [pushW_cons, if_neg hc, pushW_free t _ (by rw [List.length_take]; omega) h.2, take_take_app]
    simp
theorem pushW_line (t r : List UInt8) (hr : r.length ≤ 1000) (h : t.contains 10 = false) : pushW r (t ++ [10]) = ([(r ++ (t ++ [10])).take 1000], []) := by
  rw [pushW_app, pushW_free t r hr h]
  show ([] ++ ((((r ++ t).take 1000) ++ [10]).take 1000 :: (pushW [] []).1), (pushW [] []).2) = _
  rw [take_take_app, List.append_assoc]
  rfl
theorem lnL_free : ∀ l : List UInt8, l.contains 10 = true → (l.take (lnL l - 1)).contains 10 = false
  | [], h => by cases h
  | c :: r, h => by
    have e1 : lnL (c :: r) = if c = 10 then 1 else lnL r + 1 := rfl
    have e2 : (c :: r).contains 10 = (10 == c || r.contains 10) := rfl
    rw [e1]
    by_cases hc : c = 10
    · rw [if_pos hc]; rfl
    · have hcb : ((10 : UInt8) == c) = false := beq_eq_false_iff_ne.2 (fun e => hc e.symm)
      rw [e2, hcb, Bool.false_or] at h
      have hp : 0 < lnL r := lnL_pos r (fun e => by rw [e] at h; cases h)
      obtain ⟨n, hn⟩ : ∃ n, lnL r = n + 1 := ⟨lnL r - 1, by omega⟩
      have ih := lnL_free r h
      rw [hn] at ih
      rw [if_neg hc, hn]
      simp only [Nat.add_sub_cancel] at ih ⊢
      rw [List.take_succ_cons]
      show (10 == c || (r.take n).contains 10) = false
      rw [hcb, Bool.false_or]; exact ih
theorem pushL_lin (c : List UInt8) : ∀ r : List UInt8, r.length ≤ 1000 → pushL r (linN c) = pushW r c := by
  refine lin_rec (P := fun c => ∀ r : List UInt8, r.length ≤ 1000 → pushL r (linN c) = pushW r c) (fun r _ => rfl) (fun l h ih => ?_) c
  intro r hr
  rw [linN_cons l h, pushL_cons]
  conv => rhs; rw [← List.take_append_drop (lnL l) l, pushW_app]
  by_cases h10 : l.contains 10 = true
  · rw [lnL_yes l h10, if_pos (by simp), pushW_line _ r hr (lnL_free l h10), ih [] (by simp)]
    rfl
  · have h10 : l.contains 10 = false := by simpa using h10
    have hx := lnL_no l h10
    rw [hx, List.take_length, List.drop_length]
    have hn : l.getLast? ≠ some 10 := fun e => by
      obtain ⟨t, rfl⟩ := List.getLast?_eq_some_iff.1 e
      simp at h10
    rw [if_neg hn, pushW_free l r hr h10, linN_nil]
    rfl
end Sm
namespace Sm
open Go Lx

/-- a message -/
structure Env where
  frm : List UInt8
  rcp : List (List UInt8)
  byt : List UInt8
def env0 : Env := ⟨[], [], []⟩
def envOf (st : Ses) : Env := if st.waits = true then ⟨st.sender.getD [], st.to, st.body.getD []⟩ else env0
/-- a run over lines; an answers the n-th message -/
def fullW (most : Nat) (an : Nat → Int) : Ses → Nat → List (List UInt8) → Ses × List UInt8 × List Env
  | st, _, [] => (st, [], [])
  | st, n, l :: r => if st.over = true then (st, [], []) else
    let p := stepW most st l
    if p.1.waits = true then
      let q := answerW p.1 (an n)
      let z := fullW most an q.1 (n + 1) r
      (z.1, p.2 ++ q.2 ++ z.2.1, envOf p.1 :: z.2.2)
    else
      let z := fullW most an p.1 n r
      (z.1, p.2 ++ z.2.1, z.2.2)
theorem fullW_cons (most : Nat) (an : Nat → Int) (st : Ses) (n : Nat) (l : List UInt8) (r : List (List UInt8)) : fullW most an st n (l :: r) =
    if st.over = true then (st, [], []) else
    if (stepW most st l).1.waits = true then ((fullW most an (answerW (stepW most st l).1 (an n)).1 (n + 1) r).1, (stepW most st l).2 ++ (answerW (stepW most st l).1 (an n)).2 ++ (fullW most an (answerW (stepW most st l).1 (an n)).1 (n + 1) r).2.1, envOf (stepW most st l).1 :: (fullW most an (answerW (stepW most st l).1 (an n)).1 (n + 1) r).2.2)
    else ((fullW most an (stepW most st l).1 n r).1, (stepW most st l).2 ++ (fullW most an (stepW most st l).1 n r).2.1, (fullW most an (stepW most st l).1 n r).2.2) := rfl
theorem fullW_over (most : Nat) (an : Nat → Int) (st : Ses) (n : Nat) (L : List (List UInt8)) (h : st.over = true) : fullW most an st n L = (st, [], []) := by
  cases L with
  | nil => rfl
  | cons l r => rw [fullW_cons, if_pos h]
theorem answerW_waits (st : Ses) (e : Int) : (answerW st e).1.waits = false := by
  unfold answerW
  split
  · assumption
  · rfl
theorem answerW_over (st : Ses) (e : Int) : (answerW st e).1.over = st.over := by
  unfold answerW
  split <;> rfl
theorem fullW_app (most : Nat) (an : Nat → Int) : ∀ (a b : List (List UInt8)) (st : Ses) (n : Nat), fullW most an st n (a ++ b) = ((fullW most an (fullW most an st n a).1 (n + (fullW most an st n a).2.2.length) b).1, (fullW most an st n a).2.1 ++ (fullW most an (fullW most an st n a).1 (n + (fullW most an st n a).2.2.length) b).2.1, (fullW most an st n a).2.2 ++ (fullW most an (fullW most an st n a).1 (n + (fullW most an st n a).2.2.length) b).2.2)
  | [], b, st, n => rfl
  | l :: a, b, st, n => by
    rw [List.cons_append, fullW_cons, fullW_cons most an st n l a]
    by_cases h : st.over = true
    · rw [if_pos h, if_pos h]
      show _ = ((fullW most an st (n + 0) b).1, [] ++ (fullW most an st (n + 0) b).2.1, [] ++ (fullW most an st (n + 0) b).2.2)
      rw [fullW_over most an st _ b h]
      rfl
    · rw [if_neg h, if_neg h]
      by_cases hw : (stepW most st l).1.waits = true
      · rw [if_pos hw, if_pos hw, fullW_app most an a b]
        simp only [List.length_cons, List.append_assoc, List.cons_append]
        rw [show n + 1 + (fullW most an (answerW (stepW most st l).1 (an n)).1 (n + 1) a).2.2.length = n + ((fullW most an (answerW (stepW most st l).1 (an n)).1 (n + 1) a).2.2.length + 1) by omega]
      · rw [if_neg hw, if_neg hw, fullW_app most an a b]
        simp only [List.append_assoc]
theorem fullW_waits (most : Nat) (an : Nat → Int) : ∀ (L : List (List UInt8)) (st : Ses) (n : Nat), st.waits = false → (fullW most an st n L).1.waits = false
  | [], _, _, h => h
  | l :: r, st, n, h => by
    rw [fullW_cons]
    split
    · exact h
    · split
      · exact fullW_waits most an r _ _ (answerW_waits _ _)
      · rename_i hw
        exact fullW_waits most an r _ _ (by simpa using hw)
/-- how a run up to a message goes on -/
theorem runW_full (most : Nat) (an : Nat → Int) : ∀ (L : List (List UInt8)) (st : Ses) (n : Nat), st.waits = false →
    ((runW most st L).1.waits = false → fullW most an st n L = ((runW most st L).1, (runW most st L).2.1, []) ∧ ((runW most st L).2.2 ≠ [] → (runW most st L).1.over = true)) ∧
    ((runW most st L).1.waits = true → (runW most st L).2.2.length < L.length ∧ fullW most an st n L =
      ((fullW most an (answerW (runW most st L).1 (an n)).1 (n + 1) (runW most st L).2.2).1, (runW most st L).2.1 ++ (answerW (runW most st L).1 (an n)).2 ++ (fullW most an (answerW (runW most st L).1 (an n)).1 (n + 1) (runW most st L).2.2).2.1, envOf (runW most st L).1 :: (fullW most an (answerW (runW most st L).1 (an n)).1 (n + 1) (runW most st L).2.2).2.2))
  | [], st, n, h => by
    refine ⟨fun _ => ⟨rfl, fun e => absurd rfl e⟩, fun e => ?_⟩
    have e : st.waits = true := e
    rw [h] at e; cases e
  | l :: r, st, n, h => by
    rw [runW_cons, fullW_cons]
    by_cases ho : st.over = true
    · rw [if_pos (by rw [h, ho]; rfl), if_pos ho]
      refine ⟨fun _ => ⟨rfl, fun _ => ho⟩, fun e => ?_⟩
      have e : st.waits = true := e
      rw [h] at e; cases e
    · have ho' : st.over = false := by simpa using ho
      rw [if_neg (by rw [h, ho']; decide), if_neg ho]
      by_cases hw : (stepW most st l).1.waits = true
      · rw [if_pos hw]
        have hr : runW most (stepW most st l).1 r = ((stepW most st l).1, [], r) := by
          cases r with
          | nil => rfl
          | cons x r => rw [runW_cons, if_pos (by rw [hw]; rfl)]
        rw [hr]
        refine ⟨fun e => ?_, fun _ => ⟨by simp, ?_⟩⟩
        · have e : (stepW most st l).1.waits = false := e
          rw [hw] at e; cases e
        · simp
      · rw [if_neg hw]
        have hw' : (stepW most st l).1.waits = false := by simpa using hw
        obtain ⟨h1, h2⟩ := runW_full most an r (stepW most st l).1 n hw'
        refine ⟨fun e => ?_, fun e => ?_⟩
        · obtain ⟨a1, a2⟩ := h1 e
          rw [a1]
          exact ⟨rfl, a2⟩
        · obtain ⟨a1, a2⟩ := h2 e
          refine ⟨by rw [List.length_cons]; exact Nat.lt_succ_of_lt a1, ?_⟩
          rw [a2]
          simp
/-- a session between two pieces of input -/
def Quiet (s : Whl) : Prop := s.st.waits = false ∧ (s.kept ≠ [] → s.st.over = true)
structure Acc where
  s : Whl
  out : List UInt8
  mails : List Env
/-- the messages that wait are answered -/
def drainW (most : Nat) (an : Nat → Int) : Nat → Acc → Acc
  | 0, a => a
  | k + 1, a => if a.s.st.waits = false then a else
    let q := answerW a.s.st (an a.mails.length)
    let f := feedW most { a.s with st := q.1 } []
    drainW most an k ⟨f.1, a.out ++ q.2 ++ f.2, a.mails ++ [envOf a.s.st]⟩
theorem drainW_succ (most : Nat) (an : Nat → Int) (k : Nat) (a : Acc) : drainW most an (k + 1) a = if a.s.st.waits = false then a else
    drainW most an k ⟨(feedW most { a.s with st := (answerW a.s.st (an a.mails.length)).1 } []).1, a.out ++ (answerW a.s.st (an a.mails.length)).2 ++ (feedW most { a.s with st := (answerW a.s.st (an a.mails.length)).1 } []).2, a.mails ++ [envOf a.s.st]⟩ := rfl
def chunkW (most : Nat) (an : Nat → Int) (k : Nat) (a : Acc) (c : List UInt8) : Acc := drainW most an k ⟨(feedW most a.s c).1, a.out ++ (feedW most a.s c).2, a.mails⟩
/-- a drain is a run over what is kept -/
theorem drain_full (most : Nat) (an : Nat → Int) : ∀ (k : Nat) (a : Acc) (st : Ses) (o0 : List UInt8) (L : List (List UInt8)), st.waits = false → L.length ≤ k → a.s.st = (runW most st L).1 → a.s.kept = (runW most st L).2.2 → a.out = o0 ++ (runW most st L).2.1 →
    Quiet (drainW most an k a).s ∧ (drainW most an k a).s.rest = a.s.rest ∧ (drainW most an k a).s.st = (fullW most an st a.mails.length L).1 ∧ (drainW most an k a).out = o0 ++ (fullW most an st a.mails.length L).2.1 ∧ (drainW most an k a).mails = a.mails ++ (fullW most an st a.mails.length L).2.2
  | 0, a, st, o0, L, hs, hL, h1, h2, h3 => by
    have : L = [] := List.eq_nil_of_length_eq_zero (by omega)
    subst this
    have h1 : a.s.st = st := h1
    have h2 : a.s.kept = [] := h2
    have h3 : a.out = o0 ++ [] := h3
    refine ⟨⟨by show a.s.st.waits = _; rw [h1, hs], fun e => absurd h2 e⟩, rfl, h1, h3, ?_⟩
    show a.mails = a.mails ++ []
    simp
  | k + 1, a, st, o0, L, hs, hL, h1, h2, h3 => by
    obtain ⟨r1, r2⟩ := runW_full most an L st a.mails.length hs
    rw [drainW_succ]
    by_cases hw : a.s.st.waits = false
    · rw [if_pos hw]
      obtain ⟨f1, f2⟩ := r1 (by rw [← h1]; exact hw)
      rw [f1]
      refine ⟨⟨hw, fun e => ?_⟩, rfl, h1, h3, by simp⟩
      rw [h1]; exact f2 (by rw [← h2]; exact e)
    · rw [if_neg hw]
      have hw' : a.s.st.waits = true := by simpa using hw
      obtain ⟨f1, f2⟩ := r2 (by rw [← h1]; exact hw')
      rw [f2, ← h1, ← h2]
      have hf : feedW most { a.s with st := (answerW a.s.st (an a.mails.length)).1 } [] = (⟨(runW most (answerW a.s.st (an a.mails.length)).1 a.s.kept).1, a.s.rest, (runW most (answerW a.s.st (an a.mails.length)).1 a.s.kept).2.2⟩, (runW most (answerW a.s.st (an a.mails.length)).1 a.s.kept).2.1) := by
        unfold feedW
        show (Whl.mk (runW most (answerW a.s.st (an a.mails.length)).1 (a.s.kept ++ [])).1 a.s.rest (runW most (answerW a.s.st (an a.mails.length)).1 (a.s.kept ++ [])).2.2, (runW most (answerW a.s.st (an a.mails.length)).1 (a.s.kept ++ [])).2.1) = _
        rw [List.append_nil]
      rw [hf]
      have hl : (⟨⟨(runW most (answerW a.s.st (an a.mails.length)).1 a.s.kept).1, a.s.rest, (runW most (answerW a.s.st (an a.mails.length)).1 a.s.kept).2.2⟩, a.out ++ (answerW a.s.st (an a.mails.length)).2 ++ (runW most (answerW a.s.st (an a.mails.length)).1 a.s.kept).2.1, a.mails ++ [envOf a.s.st]⟩ : Acc).mails.length = a.mails.length + 1 := by simp
      obtain ⟨d1, d2, d3, d4, d5⟩ := drain_full most an k ⟨⟨(runW most (answerW a.s.st (an a.mails.length)).1 a.s.kept).1, a.s.rest, (runW most (answerW a.s.st (an a.mails.length)).1 a.s.kept).2.2⟩, a.out ++ (answerW a.s.st (an a.mails.length)).2 ++ (runW most (answerW a.s.st (an a.mails.length)).1 a.s.kept).2.1, a.mails ++ [envOf a.s.st]⟩ (answerW a.s.st (an a.mails.length)).1 (a.out ++ (answerW a.s.st (an a.mails.length)).2) a.s.kept (answerW_waits _ _) (by rw [h2]; omega) rfl rfl rfl
      rw [hl] at d3 d4 d5
      refine ⟨d1, d2, d3, ?_, ?_⟩
      · rw [d4, h3]; simp
      · rw [d5]; simp
/-- a piece of input, from a quiet session -/
theorem chunk_full (most : Nat) (an : Nat → Int) (k : Nat) (a : Acc) (c : List UInt8) (hq : Quiet a.s) (hk : a.s.kept.length + (pushW a.s.rest c).1.length ≤ k ∨ a.s.st.over = true) :
    Quiet (chunkW most an k a c).s ∧ (chunkW most an k a c).s.rest = (pushW a.s.rest c).2 ∧ (chunkW most an k a c).s.st = (fullW most an a.s.st a.mails.length (pushW a.s.rest c).1).1 ∧ (chunkW most an k a c).out = a.out ++ (fullW most an a.s.st a.mails.length (pushW a.s.rest c).1).2.1 ∧ (chunkW most an k a c).mails = a.mails ++ (fullW most an a.s.st a.mails.length (pushW a.s.rest c).1).2.2 := by
  obtain ⟨q1, q2⟩ := hq
  unfold chunkW
  by_cases ho : a.s.st.over = true
  · have hr : ∀ L, runW most a.s.st L = (a.s.st, [], L) := fun L => by
      cases L with
      | nil => rfl
      | cons x L => rw [runW_cons, if_pos (by rw [ho]; simp)]
    have hf : feedW most a.s c = (⟨a.s.st, (pushW a.s.rest c).2, a.s.kept ++ (pushW a.s.rest c).1⟩, []) := by unfold feedW; simp only [hr]
    rw [hf, fullW_over _ _ _ _ _ ho]
    have hd : ∀ k b, b.s.st.waits = false → drainW most an k b = b := fun k b hb => by
      cases k with
      | zero => rfl
      | succ k => rw [drainW_succ, if_pos hb]
    rw [hd k ⟨⟨a.s.st, (pushW a.s.rest c).2, a.s.kept ++ (pushW a.s.rest c).1⟩, a.out ++ [], a.mails⟩ q1]
    exact ⟨⟨q1, fun _ => ho⟩, rfl, rfl, by simp, by simp⟩
  · have hk0 : a.s.kept = [] := by
      cases hx : a.s.kept with
      | nil => rfl
      | cons x r => exact absurd (q2 (by rw [hx]; simp)) ho
    have hk : a.s.kept.length + (pushW a.s.rest c).1.length ≤ k := hk.resolve_right ho
    have hf : feedW most a.s c = (⟨(runW most a.s.st (pushW a.s.rest c).1).1, (pushW a.s.rest c).2, (runW most a.s.st (pushW a.s.rest c).1).2.2⟩, (runW most a.s.st (pushW a.s.rest c).1).2.1) := by
      unfold feedW; rw [hk0]; rfl
    rw [hf]
    exact drain_full most an k ⟨⟨_, _, _⟩, _, a.mails⟩ a.s.st a.out (pushW a.s.rest c).1 q1 (by omega) rfl rfl rfl
/-- pieces of input, one after the other -/
def wholeW (most : Nat) (an : Nat → Int) (k : Nat) (a : Acc) (cs : List (List UInt8)) : Acc := cs.foldl (chunkW most an k) a
theorem whole_full (most : Nat) (an : Nat → Int) (k : Nat) : ∀ (cs : List (List UInt8)) (a : Acc), Quiet a.s → (∀ r c, c ∈ cs → (pushW r c).1.length ≤ k) →
    Quiet (wholeW most an k a cs).s ∧ (wholeW most an k a cs).s.rest = (pushW a.s.rest cs.flatten).2 ∧ (wholeW most an k a cs).s.st = (fullW most an a.s.st a.mails.length (pushW a.s.rest cs.flatten).1).1 ∧ (wholeW most an k a cs).out = a.out ++ (fullW most an a.s.st a.mails.length (pushW a.s.rest cs.flatten).1).2.1 ∧ (wholeW most an k a cs).mails = a.mails ++ (fullW most an a.s.st a.mails.length (pushW a.s.rest cs.flatten).1).2.2
  | [], a, hq, _ => ⟨hq, rfl, rfl, by show a.out = a.out ++ []; simp, by show a.mails = a.mails ++ []; simp⟩
  | c :: cs, a, hq, hk => by
    have hkc : a.s.kept.length + (pushW a.s.rest c).1.length ≤ k ∨ a.s.st.over = true := by
      by_cases ho : a.s.st.over = true
      · exact .inr ho
      · left
        have hk0 : a.s.kept = [] := by
          cases hx : a.s.kept with
          | nil => rfl
          | cons x r => exact absurd (hq.2 (by rw [hx]; simp)) ho
        rw [hk0]
        have := hk a.s.rest c (by simp)
        simpa using this
    obtain ⟨c1, c2, c3, c4, c5⟩ := chunk_full most an k a c hq hkc
    obtain ⟨d1, d2, d3, d4, d5⟩ := whole_full most an k cs (chunkW most an k a c) c1 (fun r x hx => hk r x (by simp [hx]))
    have hw : wholeW most an k a (c :: cs) = wholeW most an k (chunkW most an k a c) cs := rfl
    rw [hw, List.flatten_cons, pushW_app]
    rw [c2] at d2 d3 d4 d5
    rw [c3, c5] at d3 d4 d5
    rw [List.length_append] at d3 d4 d5
    rw [c4] at d4
    rw [fullW_app]
    refine ⟨d1, d2, d3, ?_, ?_⟩
    · rw [d4]; simp
    · rw [d5]; simp
theorem pushW_count : ∀ (c r : List UInt8), (pushW r c).1.length ≤ c.length
  | [], _ => Nat.le_refl _
  | x :: c, r => by
    rw [pushW_cons]
    split
    · have := pushW_count c []
      simp; exact this
    · have := pushW_count c ((r ++ [x]).take 1000)
      rw [List.length_cons]; omega
end Sm
namespace Sm
open Go Lx C1

/-- a line of a reply, with its code -/
def codes : List Nat := [221, 250, 252, 354, 451, 452, 500, 501, 503, 552, 554]
def okRow (r : Nat × List UInt8) : Prop := ∃ d t, r.2 = dig3 r.1 ++ d :: (t ++ [13, 10]) ∧ (d = 32 ∨ d = 45) ∧ t ≠ [] ∧ (∀ c ∈ t, c ≠ 10) ∧ r.1 ∈ codes
def rowsOf (rows : List (Nat × List UInt8)) : List UInt8 := (rows.map (·.2)).flatten
def OutOk (o : List UInt8) (fin : Bool) : Prop := ∃ rows, o = rowsOf rows ∧ (∀ r ∈ rows, okRow r) ∧
  if fin = true then ∃ init l, rows = init ++ [(221, l)] ∧ ∀ r ∈ init, r.1 ≠ 221 else ∀ r ∈ rows, r.1 ≠ 221
theorem rowsOf_app (a b : List (Nat × List UInt8)) : rowsOf (a ++ b) = rowsOf a ++ rowsOf b := by unfold rowsOf; simp
theorem OutOk.nil : OutOk [] false := ⟨[], rfl, (fun _ h => by cases h), fun _ h => by cases h⟩
theorem OutOk.app {a b : List UInt8} {f : Bool} (h : OutOk a false) (k : OutOk b f) : OutOk (a ++ b) f := by
  obtain ⟨ra, rfl, h2, h3⟩ := h
  have h3 : ∀ r ∈ ra, r.1 ≠ 221 := h3
  obtain ⟨rb, rfl, k2, k3⟩ := k
  refine ⟨ra ++ rb, (rowsOf_app ra rb).symm, fun r hr => ?_, ?_⟩
  · rcases List.mem_append.1 hr with hr | hr
    · exact h2 r hr
    · exact k2 r hr
  · cases f with
    | true =>
      rw [if_pos rfl] at k3 ⊢
      obtain ⟨init, l, rfl, k4⟩ := k3
      refine ⟨ra ++ init, l, by simp, fun r hr => ?_⟩
      rcases List.mem_append.1 hr with hr | hr
      · exact h3 r hr
      · exact k4 r hr
    | false =>
      intro r hr
      rcases List.mem_append.1 hr with hr | hr
      · exact h3 r hr
      · exact k3 r hr
theorem said_ok : ∀ n ∈ codes, saidW n ≠ [] ∧ ∀ c ∈ saidW n, c ≠ 10 := by decide +kernel
theorem rep_row {n : Nat} (h : n ∈ codes) : okRow (n, repW n) := ⟨32, saidW n, rfl, .inl rfl, (said_ok n h).1, (said_ok n h).2, h⟩
theorem OutOk.rep {n : Nat} (h : n ∈ codes) (h2 : n ≠ 221) : OutOk (repW n) false :=
  ⟨[(n, repW n)], by unfold rowsOf; simp, fun r hr => by rw [List.mem_singleton.1 hr]; exact rep_row h, fun r hr => by rw [List.mem_singleton.1 hr]; exact h2⟩
theorem OutOk.bye : OutOk (repW 221) true :=
  ⟨[(221, repW 221)], by unfold rowsOf; simp, fun r hr => by rw [List.mem_singleton.1 hr]; exact rep_row (by decide), by rw [if_pos rfl]; exact ⟨[], repW 221, rfl, fun _ h => by cases h⟩⟩
theorem itoa_clean (m : Nat) : ∀ c ∈ Lib.itoa (m : Int), c ≠ 10 := by
  have h := can_itoa (m : Int)
  have hv := ival_itoa (m : Int)
  have hn : negL (Lib.itoa (m : Int)) = false := by
    cases hn : negL (Lib.itoa (m : Int)) with
    | false => rfl
    | true =>
      exfalso
      have hz : ∀ c, (body (Lib.itoa (m : Int))).head? = some c → c ≠ 48 := by
        rcases h.2.2 with c3 | c3
        · exact c3
        · rw [c3] at hn; cases hn
      have hp := val_pos _ h.2.1 h.1 hz
      unfold ival at hv
      rw [if_pos hn] at hv
      omega
  have hb : body (Lib.itoa (m : Int)) = Lib.itoa (m : Int) := by unfold body; rw [hn]; rfl
  intro c hc e
  have := (digC_iff c).1 (h.1 c (by rw [hb]; exact hc))
  rw [e] at this
  exact absurd this (by decide)
theorem ehlo_ok (most : Nat) : OutOk (ehloL most) false := by
  refine ⟨[(250, [50, 53, 48, 45, 112, 111, 117, 99, 104, 13, 10]), (250, [50, 53, 48, 45, 80, 73, 80, 69, 76, 73, 78, 73, 78, 71, 13, 10]), (250, [50, 53, 48, 45, 83, 73, 90, 69, 32] ++ Lib.itoa most ++ [13, 10])], ?_, ?_, ?_⟩
  · unfold ehloL rowsOf; simp
  · intro r hr
    simp only [List.mem_cons, List.not_mem_nil, or_false] at hr
    rcases hr with rfl | rfl | rfl
    · exact ⟨45, [112, 111, 117, 99, 104], rfl, .inr rfl, by decide, by decide, by decide⟩
    · exact ⟨45, [80, 73, 80, 69, 76, 73, 78, 73, 78, 71], rfl, .inr rfl, by decide, by decide, by decide⟩
    · refine ⟨45, [83, 73, 90, 69, 32] ++ Lib.itoa most, by simp; rfl, .inr rfl, by simp, fun c hc => ?_, (by show 250 ∈ codes; decide)⟩
      rcases List.mem_append.1 hc with hc | hc
      · have key : ∀ c ∈ ([83, 73, 90, 69, 32] : List UInt8), c ≠ 10 := by decide
        exact key c hc
      · exact itoa_clean most c hc
  · intro r hr
    simp only [List.mem_cons, List.not_mem_nil, or_false] at hr
    rcases hr with rfl | rfl | rfl <;> (show (250 : Nat) ≠ 221; decide)
/-- what holds of a session -/
structure Inv (most : Nat) (st : Ses) : Prop where
  snd : st.to ≠ [] → st.sender.isSome = true
  rcp : st.body.isSome = true → st.to ≠ []
  bod : st.waits = true → st.body.isSome = true
  few : st.to.length ≤ 16
  dup : st.to.Nodup
  adr : ∀ a ∈ st.to, 3 ≤ a.length ∧ a.length ≤ 254
  big : st.waits = true → ∀ b, st.body = some b → b.length ≤ most
theorem inv0 (most : Nat) : Inv most new0 := ⟨fun h => absurd rfl h, (fun h => by cases h), (fun h => by cases h), Nat.zero_le _, List.nodup_nil, (fun _ h => by cases h), (fun h => by cases h)⟩
/-- a step from a session that goes on -/
def StepOk (most : Nat) (p : Ses × List UInt8) : Prop := Inv most p.1 ∧ OutOk p.2 p.1.over ∧ (p.1.over = true → p.1.waits = false)
theorem may_len {a : List UInt8} (h : mayW a = true) : 3 ≤ a.length ∧ a.length ≤ 254 := by
  unfold mayW at h
  rw [Bool.and_eq_true, decide_eq_true_iff] at h
  refine ⟨?_, h.1⟩
  rcases Nat.lt_or_ge a.length 3 with h3 | h3
  · have : (a.drop 1).dropLast = [] := by
      rw [← List.length_eq_zero_iff]; simp; omega
    rw [this] at h
    exact absurd h.2 (by simp)
  · exact h3
section
variable {most : Nat} {st : Ses}
theorem stepOk_rep (h : Inv most st) (ho : st.over = false) (n : Nat) (hn : n ∈ codes) (h2 : n ≠ 221) : StepOk most (st, repW n) := ⟨h, by show OutOk _ st.over; rw [ho]; exact OutOk.rep hn h2, fun e => by rw [show (st, repW n).1.over = st.over from rfl, ho] at e; cases e⟩
theorem inv_reset (h : Inv most st) (hb : st.body = none) (hw : st.waits = false) (g : Bool) : Inv most { reset st with greeted := g } :=
  ⟨fun e => absurd rfl e, (fun e => by rw [show ({ reset st with greeted := g } : Ses).body = st.body from rfl, hb] at e; cases e), (fun e => by rw [show ({ reset st with greeted := g } : Ses).waits = st.waits from rfl, hw] at e; cases e), Nat.zero_le _, List.nodup_nil, (fun _ e => by cases e), fun e => by rw [show ({ reset st with greeted := g } : Ses).waits = st.waits from rfl, hw] at e; cases e⟩
theorem inv_reset' (h : Inv most st) (hb : st.body = none) (hw : st.waits = false) : Inv most (reset st) := inv_reset h hb hw st.greeted
theorem hello_ok (x : Bool) (rest : List UInt8) (h : Inv most st) (hb : st.body = none) (hw : st.waits = false) (ho : st.over = false) : StepOk most (helloW most x st rest) := by
  unfold helloW
  split
  · exact stepOk_rep h ho _ (by decide) (by decide)
  · refine ⟨inv_reset h hb hw true, ?_, fun e => by rw [show ({ reset st with greeted := true } : Ses).over = st.over from rfl, ho] at e; cases e⟩
    show OutOk ((if x = true then ehloL most else []) ++ repW 250) st.over
    rw [ho]
    cases x with
    | true => exact (ehlo_ok most).app (OutOk.rep (by decide) (by decide))
    | false => exact OutOk.rep (by decide) (by decide)
theorem mail_ok (rest : List UInt8) (h : Inv most st) (ho : st.over = false) : StepOk most (mailW most st rest) := by
  unfold mailW
  split
  · exact stepOk_rep h ho _ (by decide) (by decide)
  · cases path2 fromK rest with
    | none => exact stepOk_rep h ho _ (by decide) (by decide)
    | some p =>
      simp only
      split
      · exact stepOk_rep h ho _ (by decide) (by decide)
      · cases optsW p.2.length p.2 false false 0 with
        | none => exact stepOk_rep h ho _ (by decide) (by decide)
        | some n =>
          simp only
          split
          · exact stepOk_rep h ho _ (by decide) (by decide)
          · exact stepOk_rep (st := { st with sender := some p.1 }) ⟨fun _ => rfl, h.rcp, h.bod, h.few, h.dup, h.adr, h.big⟩ ho _ (by decide) (by decide)
theorem rcpt_ok (rest : List UInt8) (h : Inv most st) (ho : st.over = false) : StepOk most (rcptW st rest) := by
  unfold rcptW
  split
  · exact stepOk_rep h ho _ (by decide) (by decide)
  · rename_i hs
    have hs : st.sender.isSome = true := by
      cases hx : st.sender.isSome with
      | true => rfl
      | false => exact absurd hx hs
    cases path2 toK rest with
    | none => exact stepOk_rep h ho _ (by decide) (by decide)
    | some p =>
      simp only
      split
      · exact stepOk_rep h ho _ (by decide) (by decide)
      · rename_i hm
        have hm : mayW p.1 = true := by
          cases hx : mayW p.1 with
          | true => rfl
          | false => rw [hx] at hm; simp at hm
        split
        · exact stepOk_rep h ho _ (by decide) (by decide)
        · rename_i hc
          split
          · exact stepOk_rep h ho _ (by decide) (by decide)
          · rename_i hl
            have hc : p.1 ∉ st.to := fun e => hc (by simpa using e)
            refine stepOk_rep (st := { st with «to» := st.to ++ [p.1] }) ⟨fun _ => hs, fun _ => by simp, h.bod, ?_, ?_, ?_, h.big⟩ ho _ (by decide) (by decide)
            · show (st.to ++ [p.1]).length ≤ 16
              rw [List.length_append, List.length_singleton]; omega
            · show (st.to ++ [p.1]).Nodup
              rw [List.nodup_append]
              exact ⟨h.dup, by simp, fun a ha b hb e => by rw [List.mem_singleton.1 hb] at e; exact hc (e ▸ ha)⟩
            · intro a ha
              have ha : a ∈ st.to ++ [p.1] := ha
              rcases List.mem_append.1 ha with ha | ha
              · exact h.adr a ha
              · rw [List.mem_singleton.1 ha]; exact may_len hm
theorem data_ok (rest : List UInt8) (h : Inv most st) (hw : st.waits = false) (ho : st.over = false) : StepOk most (dataW st rest) := by
  unfold dataW
  split
  · exact stepOk_rep h ho _ (by decide) (by decide)
  · split
    · exact stepOk_rep h ho _ (by decide) (by decide)
    · rename_i ht
      have ht : st.to ≠ [] := by simpa using ht
      exact stepOk_rep (st := { st with body := some [], long := false }) ⟨h.snd, fun _ => ht, fun _ => rfl, h.few, h.dup, h.adr, fun e => by rw [show ({ st with body := some [], long := false } : Ses).waits = st.waits from rfl, hw] at e; cases e⟩ ho _ (by decide) (by decide)
theorem rset_ok (rest : List UInt8) (h : Inv most st) (hb : st.body = none) (hw : st.waits = false) (ho : st.over = false) : StepOk most (rsetW st rest) := by
  unfold rsetW
  split
  · exact stepOk_rep h ho _ (by decide) (by decide)
  · exact stepOk_rep (st := reset st) (inv_reset' h hb hw) ho _ (by decide) (by decide)
theorem quit_ok (rest : List UInt8) (h : Inv most st) (hw : st.waits = false) (ho : st.over = false) : StepOk most (quitW st rest) := by
  unfold quitW
  split
  · exact stepOk_rep h ho _ (by decide) (by decide)
  · exact ⟨⟨h.snd, h.rcp, h.bod, h.few, h.dup, h.adr, h.big⟩, OutOk.bye, fun _ => hw⟩
theorem line_ok (b l : List UInt8) (h : Inv most st) (hb : st.body = some b) (hw : st.waits = false) (ho : st.over = false) : StepOk most (lineW most st b l) := by
  have hr : Inv most { reset st with body := none } := ⟨fun e => absurd rfl e, (fun e => by cases e), (fun e => by rw [show ({ reset st with body := none } : Ses).waits = st.waits from rfl, hw] at e; cases e), Nat.zero_le _, List.nodup_nil, (fun _ e => by cases e), fun e => by rw [show ({ reset st with body := none } : Ses).waits = st.waits from rfl, hw] at e; cases e⟩
  have ht : st.to ≠ [] := h.rcp (by rw [hb]; rfl)
  unfold lineW
  split
  · refine ⟨⟨h.snd, fun _ => ht, fun _ => rfl, h.few, h.dup, h.adr, fun e => ?_⟩, ?_, fun e => ?_⟩
    · have e : st.waits = true := e
      rw [hw] at e; cases e
    · show OutOk [] st.over
      rw [ho]; exact OutOk.nil
    · have e : st.over = true := e
      rw [ho] at e; cases e
  · split
    · exact stepOk_rep (st := { reset st with body := none }) hr ho _ (by decide) (by decide)
    · split
      · exact stepOk_rep (st := { reset st with body := none }) hr ho _ (by decide) (by decide)
      · rename_i hm
        refine ⟨⟨h.snd, fun _ => ht, fun _ => by show st.body.isSome = true; rw [hb]; rfl, h.few, h.dup, h.adr, fun _ b' e => ?_⟩, ?_, fun e => ?_⟩
        · have e : st.body = some b' := e
          rw [hb] at e
          injection e with e
          subst e
          omega
        · show OutOk [] st.over
          rw [ho]; exact OutOk.nil
        · have e : st.over = true := e
          rw [ho] at e; cases e
theorem step_ok (l : List UInt8) (h : Inv most st) (hw : st.waits = false) (ho : st.over = false) : StepOk most (stepW most st l) := by
  unfold stepW
  cases hb : st.body with
  | some b => exact line_ok b l h hb hw ho
  | none =>
    show StepOk most (commandW most st l)
    unfold commandW
    split
    · exact stepOk_rep h ho _ (by decide) (by decide)
    · unfold doW
      split
      · exact hello_ok _ _ h hb hw ho
      · exact hello_ok _ _ h hb hw ho
      · exact mail_ok _ h ho
      · exact rcpt_ok _ h ho
      · exact data_ok _ h hw ho
      · exact rset_ok _ h hb hw ho
      · exact quit_ok _ h hw ho
      · exact stepOk_rep h ho _ (by decide) (by decide)
      · exact stepOk_rep h ho _ (by decide) (by decide)
      · exact stepOk_rep h ho _ (by decide) (by decide)
theorem answerC_mem (e : Int) : answerC e ∈ codes ∧ answerC e ≠ 221 := by
  unfold answerC
  split <;> decide
theorem answer_ok (e : Int) (h : Inv most st) (ho : st.over = false) (hw : st.waits = true) : Inv most (answerW st e).1 ∧ OutOk (answerW st e).2 false := by
  unfold answerW
  rw [if_neg (by rw [hw]; decide)]
  exact ⟨⟨fun e => absurd rfl e, (fun e => by cases e), (fun e => by cases e), Nat.zero_le _, List.nodup_nil, (fun _ e => by cases e), fun e => by cases e⟩, OutOk.rep (answerC_mem e).1 (answerC_mem e).2⟩
end
/-- a message that waits -/
def EnvOk (most : Nat) (m : Env) : Prop := 1 ≤ m.rcp.length ∧ m.rcp.length ≤ 16 ∧ m.rcp.Nodup ∧ (∀ a ∈ m.rcp, 3 ≤ a.length ∧ a.length ≤ 254) ∧ m.byt.length ≤ most
theorem Inv.env {most : Nat} {st : Ses} (h : Inv most st) (hw : st.waits = true) : EnvOk most (envOf st) := by
  unfold envOf
  rw [if_pos hw]
  have hb := h.bod hw
  have ht := h.rcp hb
  refine ⟨List.length_pos_iff.2 ht, h.few, h.dup, h.adr, ?_⟩
  cases hx : st.body with
  | none => rw [hx] at hb; cases hb
  | some b => exact h.big hw b hx
theorem full_ok (most : Nat) (an : Nat → Int) : ∀ (L : List (List UInt8)) (st : Ses) (n : Nat), Inv most st → st.waits = false → st.over = false →
    Inv most (fullW most an st n L).1 ∧ OutOk (fullW most an st n L).2.1 (fullW most an st n L).1.over ∧ ∀ m ∈ (fullW most an st n L).2.2, EnvOk most m
  | [], st, n, h, hw, ho => ⟨h, by show OutOk [] st.over; rw [ho]; exact OutOk.nil, fun _ e => by cases e⟩
  | l :: r, st, n, h, hw, ho => by
    rw [fullW_cons, if_neg (by rw [ho]; decide)]
    obtain ⟨s1, s2, s3⟩ := step_ok l h hw ho
    by_cases hw2 : (stepW most st l).1.waits = true
    · rw [if_pos hw2]
      have ho2 : (stepW most st l).1.over = false := by
        cases hx : (stepW most st l).1.over with
        | false => rfl
        | true => rw [s3 hx] at hw2; cases hw2
      rw [ho2] at s2
      obtain ⟨a1, a2⟩ := answer_ok (an n) s1 ho2 hw2
      obtain ⟨f1, f2, f3⟩ := full_ok most an r _ (n + 1) a1 (answerW_waits _ _) (by rw [answerW_over]; exact ho2)
      refine ⟨f1, (s2.app a2).app f2, fun m hm => ?_⟩
      rcases List.mem_cons.1 hm with rfl | hm
      · exact s1.env hw2
      · exact f3 m hm
    · rw [if_neg hw2]
      have hw2 : (stepW most st l).1.waits = false := by simpa using hw2
      by_cases ho2 : (stepW most st l).1.over = true
      · rw [fullW_over _ _ _ _ _ ho2]
        refine ⟨s1, ?_, fun _ e => by cases e⟩
        show OutOk ((stepW most st l).2 ++ []) _
        rw [List.append_nil]; exact s2
      · have ho2 : (stepW most st l).1.over = false := by simpa using ho2
        rw [ho2] at s2
        obtain ⟨f1, f2, f3⟩ := full_ok most an r _ n s1 hw2 ho2
        exact ⟨f1, s2.app f2, f3⟩
/-- lines that are laid one behind the other are the lines of the text -/
theorem linN_row (t r : List UInt8) (h : ∀ c ∈ t, c ≠ 10) : linN (t ++ [10] ++ r) = (t ++ [10]) :: linN r := by
  have hl : lnL (t ++ [10] ++ r) = t.length + 1 := by
    induction t with
    | nil => rfl
    | cons c t ih =>
      have e1 : lnL (c :: t ++ [10] ++ r) = if c = 10 then 1 else lnL (t ++ [10] ++ r) + 1 := rfl
      rw [e1, if_neg (h c (by simp)), ih (fun x hx => h x (by simp [hx])), List.length_cons]
  rw [linN_cons _ (by simp), hl, List.take_left' (by simp), List.drop_left' (by simp)]
theorem linN_rows : ∀ rows : List (Nat × List UInt8), (∀ r ∈ rows, okRow r) → linN (rowsOf rows) = rows.map (·.2)
  | [], _ => rfl
  | r :: rows, h => by
    obtain ⟨d, t, h1, h2, h3, h4, h5⟩ := h r (by simp)
    have e : rowsOf (r :: rows) = (dig3 r.1 ++ d :: (t ++ [13])) ++ [10] ++ rowsOf rows := by
      unfold rowsOf
      rw [List.map_cons, List.flatten_cons, h1]
      simp
    rw [e, linN_row _ _ ?_, linN_rows rows (fun x hx => h x (by simp [hx])), List.map_cons, h1]
    · simp
    · intro c hc
      rcases List.mem_append.1 hc with hc | hc
      · have key : ∀ n ∈ codes, ∀ c ∈ dig3 n, c ≠ 10 := by decide +kernel
        exact key r.1 h5 c hc
      · rcases List.mem_cons.1 hc with rfl | hc
        · rcases h2 with rfl | rfl <;> decide
        · rcases List.mem_append.1 hc with hc | hc
          · exact h4 c hc
          · rw [List.mem_singleton.1 hc]; decide
end Sm
namespace Sm
open Go Lx C1

theorem said_len (n : Nat) : (saidW n).length ≤ 40 := by unfold saidW; split <;> simp
theorem rep_len (n : Nat) : (repW n).length ≤ 50 := by
  have := said_len n
  unfold repW dig3
  simp
  omega
theorem ehlo_len (most : Nat) (h : most ≤ 65536) : (ehloL most).length ≤ 60 := by
  have := C1.itoa_len (n := (most : Int)) (by omega) (by omega)
  unfold ehloL
  simp
  omega
section
variable {most : Nat} {st : Ses}
theorem hello_len (hm : most ≤ 65536) (x : Bool) (rest : List UInt8) : (helloW most x st rest).2.length ≤ 300 := by
  unfold helloW
  have := rep_len 501
  have := rep_len 250
  have := ehlo_len most hm
  split
  · show (repW 501).length ≤ 300; omega
  · show ((if x = true then ehloL most else []) ++ repW 250).length ≤ 300
    rw [List.length_append]
    split
    · omega
    · simp; omega
theorem mail_len (rest : List UInt8) : (mailW most st rest).2.length ≤ 300 := by
  have h1 := rep_len 503
  have h2 := rep_len 501
  have h3 := rep_len 552
  have h4 := rep_len 250
  unfold mailW
  split
  · show (repW 503).length ≤ 300; omega
  · cases path2 fromK rest with
    | none => show (repW 501).length ≤ 300; omega
    | some p =>
      simp only
      split
      · show (repW 501).length ≤ 300; omega
      · cases optsW p.2.length p.2 false false 0 with
        | none => show (repW 501).length ≤ 300; omega
        | some n =>
          simp only
          split
          · show (repW 552).length ≤ 300; omega
          · show (repW 250).length ≤ 300; omega
theorem rcpt_len (rest : List UInt8) : (rcptW st rest).2.length ≤ 300 := by
  have h1 := rep_len 503
  have h2 := rep_len 501
  have h3 := rep_len 452
  have h4 := rep_len 250
  unfold rcptW
  split
  · show (repW 503).length ≤ 300; omega
  · cases path2 toK rest with
    | none => show (repW 501).length ≤ 300; omega
    | some p =>
      simp only
      split
      · show (repW 501).length ≤ 300; omega
      · split
        · show (repW 250).length ≤ 300; omega
        · split
          · show (repW 452).length ≤ 300; omega
          · show (repW 250).length ≤ 300; omega
theorem command_len (hm : most ≤ 65536) (l : List UInt8) : (commandW most st l).2.length ≤ 300 := by
  unfold commandW
  split
  · have := rep_len 500; show (repW 500).length ≤ 300; omega
  · unfold doW
    split
    · exact hello_len hm _ _
    · exact hello_len hm _ _
    · exact mail_len _
    · exact rcpt_len _
    · unfold dataW
      have h1 := rep_len 501
      have h2 := rep_len 503
      have h3 := rep_len 354
      split
      · show (repW 501).length ≤ 300; omega
      · split
        · show (repW 503).length ≤ 300; omega
        · show (repW 354).length ≤ 300; omega
    · unfold rsetW
      have h1 := rep_len 501
      have h2 := rep_len 250
      split
      · show (repW 501).length ≤ 300; omega
      · show (repW 250).length ≤ 300; omega
    · unfold quitW
      have h1 := rep_len 501
      have h2 := rep_len 221
      split
      · show (repW 501).length ≤ 300; omega
      · show (repW 221).length ≤ 300; omega
    · have := rep_len 250; show (repW 250).length ≤ 300; omega
    · have := rep_len 252; show (repW 252).length ≤ 300; omega
    · have := rep_len 500; show (repW 500).length ≤ 300; omega
/-- what no command turns -/
theorem command_waits (l : List UInt8) : (commandW most st l).1.waits = st.waits := by
  unfold commandW
  split
  · rfl
  · unfold doW
    split
    · unfold helloW; split <;> rfl
    · unfold helloW; split <;> rfl
    · unfold mailW
      split
      · rfl
      · cases path2 fromK (wordW (bareS l)).2 with
        | none => rfl
        | some p =>
          simp only
          split
          · rfl
          · cases optsW p.2.length p.2 false false 0 with
            | none => rfl
            | some n => simp only; split <;> rfl
    · unfold rcptW
      split
      · rfl
      · cases path2 toK (wordW (bareS l)).2 with
        | none => rfl
        | some p =>
          simp only
          split
          · rfl
          · split
            · rfl
            · split <;> rfl
    · unfold dataW
      split
      · rfl
      · split <;> rfl
    · unfold rsetW; split <;> rfl
    · unfold quitW; split <;> rfl
    · rfl
    · rfl
    · rfl
theorem command_body (l : List UInt8) (hb : st.body = none) : ((commandW most st l).1.body.getD []).length = 0 := by
  have h0 : ∀ s : Ses, s.body = st.body → (s.body.getD []).length = 0 := fun s h => by rw [h, hb]; rfl
  unfold commandW
  split
  · exact h0 _ rfl
  · unfold doW
    split
    · unfold helloW; split <;> exact h0 _ rfl
    · unfold helloW; split <;> exact h0 _ rfl
    · unfold mailW
      split
      · exact h0 _ rfl
      · cases path2 fromK (wordW (bareS l)).2 with
        | none => exact h0 _ rfl
        | some p =>
          simp only
          split
          · exact h0 _ rfl
          · cases optsW p.2.length p.2 false false 0 with
            | none => exact h0 _ rfl
            | some n => simp only; split <;> exact h0 _ rfl
    · unfold rcptW
      split
      · exact h0 _ rfl
      · cases path2 toK (wordW (bareS l)).2 with
        | none => exact h0 _ rfl
        | some p =>
          simp only
          split
          · exact h0 _ rfl
          · split
            · exact h0 _ rfl
            · split <;> exact h0 _ rfl
    · unfold dataW
      split
      · exact h0 _ rfl
      · split
        · exact h0 _ rfl
        · rfl
    · unfold rsetW; split <;> exact h0 _ rfl
    · unfold quitW; split <;> exact h0 _ rfl
    · exact h0 _ rfl
    · exact h0 _ rfl
    · exact h0 _ rfl
theorem undot_len (l : List UInt8) : (undot l).length ≤ l.length := by
  unfold undot
  split
  · simp
  · exact Nat.le_refl _
/-- what a session weighs -/
def wtS (st : Ses) : Nat := (if st.waits = true then 300 else 0) + (st.body.getD []).length
def wt (s : Whl) : Nat := 2000 * s.kept.length + wtS s.st
theorem step_wt (hm : most ≤ 65536) (l : List UInt8) (hl : l.length ≤ 1000) (hw : st.waits = false) : (stepW most st l).2.length + wtS (stepW most st l).1 ≤ 2000 + wtS st := by
  unfold stepW
  cases hb : st.body with
  | none =>
    show (commandW most st l).2.length + wtS (commandW most st l).1 ≤ _
    have h1 := command_len (st := st) hm l
    have h2 := command_waits (most := most) (st := st) l
    have h3 := command_body (most := most) l hb
    unfold wtS
    rw [h2, hw, h3]
    simp
    omega
  | some b =>
    show (lineW most st b l).2.length + wtS (lineW most st b l).1 ≤ _
    have hu := undot_len l
    have h5 := rep_len 500
    have h6 := rep_len 552
    have h0 : wtS st = b.length := by unfold wtS; rw [hw, hb]; simp
    rw [h0]
    unfold lineW
    split
    · unfold wtS
      simp [hw]
      omega
    · split
      · show (repW 500).length + wtS { reset st with body := none } ≤ _
        have : wtS { reset st with body := none } = 0 := by unfold wtS; simp [reset, hw]
        rw [this]; omega
      · split
        · show (repW 552).length + wtS { reset st with body := none } ≤ _
          have : wtS { reset st with body := none } = 0 := by unfold wtS; simp [reset, hw]
          rw [this]; omega
        · show ([] : List UInt8).length + wtS { st with waits := true } ≤ _
          have : wtS { st with waits := true } = 300 + b.length := by unfold wtS; simp [hb]
          rw [this, List.length_nil]; omega
theorem answer_wt (e : Int) : (answerW st e).2.length + wtS (answerW st e).1 ≤ wtS st := by
  unfold answerW
  split
  · simp
  · rename_i hw
    have hw : st.waits = true := by simpa using hw
    have := rep_len (answerC e)
    show (repW (answerC e)).length + wtS { reset st with waits := false, body := none } ≤ _
    have h0 : wtS { reset st with waits := false, body := none } = 0 := rfl
    rw [h0]
    unfold wtS
    rw [hw, if_pos rfl]
    omega
theorem run_wt (hm : most ≤ 65536) : ∀ (L : List (List UInt8)) (st : Ses), (∀ l ∈ L, l.length ≤ 1000) → (runW most st L).2.1.length + (2000 * (runW most st L).2.2.length + wtS (runW most st L).1) ≤ 2000 * L.length + wtS st
  | [], st, _ => by show 0 + (2000 * 0 + wtS st) ≤ _; omega
  | l :: r, st, h => by
    rw [runW_cons]
    split
    · show 0 + (2000 * (l :: r).length + wtS st) ≤ _; omega
    · rename_i hw
      have hw : st.waits = false := by
        cases hx : st.waits with
        | false => rfl
        | true => rw [hx] at hw; simp at hw
      have h1 := step_wt (st := st) hm l (h l (by simp)) hw
      have h2 := run_wt hm r (stepW most st l).1 (fun x hx => h x (by simp [hx]))
      simp only
      rw [List.length_append, List.length_cons]
      omega
end
/-- a session that is well -/
structure Gd (most : Nat) (s : Whl) : Prop where
  inv : Inv most s.st
  rst : s.rest.length ≤ 1000
  kpt : ∀ l ∈ s.kept, l.length ≤ 1000
theorem gd0 (most : Nat) : Gd most begin0 := ⟨inv0 most, Nat.zero_le _, fun _ h => by cases h⟩
theorem push_wt (c r : List UInt8) (hr : r.length ≤ 1000) : (pushW r c).2.length ≤ 1000 ∧ ∀ l ∈ (pushW r c).1, l.length ≤ 1000 := by
  rw [← pushL_lin c r hr]
  obtain ⟨h1, h2, -⟩ := pushL_le (linN c) r hr
  exact ⟨h1, h2⟩
theorem run_inv (most : Nat) : ∀ (L : List (List UInt8)) (st : Ses), Inv most st → Inv most (runW most st L).1
  | [], st, h => h
  | l :: r, st, h => by
    rw [runW_cons]
    split
    · exact h
    · rename_i hw
      have hw1 : st.waits = false := by
        cases hx : st.waits with
        | false => rfl
        | true => rw [hx] at hw; simp at hw
      have hw2 : st.over = false := by
        cases hx : st.over with
        | false => rfl
        | true => rw [hx] at hw; simp at hw
      exact run_inv most r _ (step_ok l h hw1 hw2).1
theorem run_rest (most : Nat) : ∀ (L : List (List UInt8)) (st : Ses), ∀ l ∈ (runW most st L).2.2, l ∈ L
  | [], st, l, hl => by cases hl
  | x :: r, st, l, hl => by
    rw [runW_cons] at hl
    split at hl
    · exact hl
    · exact List.mem_cons_of_mem _ (run_rest most r _ l hl)
theorem Gd.feed {most : Nat} {s : Whl} (h : Gd most s) (c : List UInt8) : Gd most (feedW most s c).1 := by
  obtain ⟨p1, p2⟩ := push_wt c s.rest h.rst
  refine ⟨run_inv most _ _ h.inv, p1, fun l hl => ?_⟩
  have hl : l ∈ (runW most s.st (s.kept ++ (pushW s.rest c).1)).2.2 := hl
  rcases List.mem_append.1 (run_rest most _ _ l hl) with hl | hl
  · exact h.kpt l hl
  · exact p2 l hl
theorem feed_wt {most : Nat} (hm : most ≤ 65536) {s : Whl} (h : Gd most s) (c : List UInt8) : (feedW most s c).2.length + wt (feedW most s c).1 ≤ wt s + 2000 * c.length := by
  obtain ⟨p1, p2⟩ := push_wt c s.rest h.rst
  have hc := pushW_count c s.rest
  have hr := run_wt hm (s.kept ++ (pushW s.rest c).1) s.st (fun l hl => by
    rcases List.mem_append.1 hl with hl | hl
    · exact h.kpt l hl
    · exact p2 l hl)
  rw [List.length_append] at hr
  show (runW most s.st (s.kept ++ (pushW s.rest c).1)).2.1.length + (2000 * (runW most s.st (s.kept ++ (pushW s.rest c).1)).2.2.length + wtS (runW most s.st (s.kept ++ (pushW s.rest c).1)).1) ≤ _
  unfold wt
  omega
theorem Inv.answer {most : Nat} {st : Ses} (h : Inv most st) (e : Int) : Inv most (answerW st e).1 := by
  unfold answerW
  split
  · exact h
  · exact ⟨fun e => absurd rfl e, (fun e => by cases e), (fun e => by cases e), Nat.zero_le _, List.nodup_nil, (fun _ e => by cases e), (fun e => by cases e)⟩
theorem Gd.answer {most : Nat} {s : Whl} (h : Gd most s) (e : Int) : Gd most { s with st := (answerW s.st e).1 } := ⟨h.inv.answer e, h.rst, h.kpt⟩
theorem answer_wt' {s : Whl} (e : Int) : (answerW s.st e).2.length + wt { s with st := (answerW s.st e).1 } ≤ wt s := by
  have := answer_wt (st := s.st) e
  unfold wt
  show (answerW s.st e).2.length + (2000 * s.kept.length + wtS (answerW s.st e).1) ≤ _
  omega
end Sm
namespace Sm
open Go Lx
def smX2 : List UInt8 := [84, 65, 13, 10, 97, 13, 10, 46, 46, 13, 10, 46, 13, 10, 81, 85, 73, 84, 13, 10]
def smX3 : List UInt8 := [78, 79, 79, 80, 13, 10]
def smY : List UInt8 := [69, 72, 76, 79, 32, 120, 13, 10, 77, 65, 73, 76, 32, 70, 82, 79, 77, 58, 60, 97, 64, 98, 62, 32, 83, 73, 90, 69, 61, 49, 48, 49, 13, 10, 77, 65, 73, 76, 32, 70, 82, 79, 77, 58, 60, 97, 62, 13, 10, 82, 67, 80, 84, 32, 84, 79, 58, 60, 99, 64, 100, 62, 13, 10, 77, 65, 73, 76, 32, 70, 82, 79, 77, 58, 60, 62, 13, 10, 82, 67, 80, 84, 32, 84, 79, 58, 60, 62, 13, 10, 68, 65, 84, 65, 13, 10, 86, 82, 70, 89, 32, 120, 13, 10, 88, 13, 10, 82, 83, 69, 84, 32, 121, 13, 10]
def q1 : Whl × List UInt8 := feedW 100 begin0 smX1
def q2 : Whl × List UInt8 := feedW 100 q1.1 smX2
def q3 : Whl := ⟨(answerW q2.1.st 0).1, q2.1.rest, q2.1.kept⟩
def q4 : Whl × List UInt8 := feedW 100 q3 []
def q5 : Whl × List UInt8 := feedW 100 q4.1 smX3
def u1 : Whl × List UInt8 := feedW 100 begin0 smY
theorem q1_o : q1.2 = [50, 53, 48, 32, 79, 75, 13, 10, 50, 53, 48, 32, 79, 75, 13, 10, 50, 53, 48, 32, 79, 75, 13, 10, 50, 53, 48, 32, 79, 75, 13, 10] := by decide +kernel
theorem q1_w : q1.1.st.waits = false := by decide +kernel
theorem q2_o : q2.2 = [51, 53, 52, 32, 83, 116, 97, 114, 116, 32, 109, 97, 105, 108, 32, 105, 110, 112, 117, 116, 13, 10] := by decide +kernel
theorem q2_w : q2.1.st.waits = true := by decide +kernel
theorem q2_f : (envOf q2.1.st).frm = [97, 64, 98] := by decide +kernel
theorem q2_r : (envOf q2.1.st).rcp = [[99, 64, 100]] := by decide +kernel
theorem q2_b : (envOf q2.1.st).byt = [97, 13, 10, 46, 13, 10] := by decide +kernel
theorem q2_l : (q2.1.st.body.getD []).length = 6 := by decide +kernel
theorem q3_o : (answerW q2.1.st 0).2 = [50, 53, 48, 32, 79, 75, 13, 10] := by decide +kernel
theorem q4_o : q4.2 = [50, 50, 49, 32, 66, 121, 101, 13, 10] := by decide +kernel
theorem q4_w : q4.1.st.waits = false := by decide +kernel
theorem q5_o : q5.2 = [] := by decide +kernel
theorem q5_w : q5.1.st.waits = false := by decide +kernel
theorem q5_e : q5.1.st.over = true := by decide +kernel
theorem u1_o : u1.2 = [50, 53, 48, 45, 112, 111, 117, 99, 104, 13, 10, 50, 53, 48, 45, 80, 73, 80, 69, 76, 73, 78, 73, 78, 71, 13, 10, 50, 53, 48, 45, 83, 73, 90, 69, 32, 49, 48, 48, 13, 10, 50, 53, 48, 32, 79, 75, 13, 10, 53, 53, 50, 32, 77, 101, 115, 115, 97, 103, 101, 32, 115, 105, 122, 101, 32, 101, 120, 99, 101, 101, 100, 115, 32, 108, 105, 109, 105, 116, 13, 10, 53, 48, 49, 32, 83, 121, 110, 116, 97, 120, 32, 101, 114, 114, 111, 114, 32, 105, 110, 32, 112, 97, 114, 97, 109, 101, 116, 101, 114, 115, 13, 10, 53, 48, 51, 32, 66, 97, 100, 32, 115, 101, 113, 117, 101, 110, 99, 101, 32, 111, 102, 32, 99, 111, 109, 109, 97, 110, 100, 115, 13, 10, 50, 53, 48, 32, 79, 75, 13, 10, 53, 48, 49, 32, 83, 121, 110, 116, 97, 120, 32, 101, 114, 114, 111, 114, 32, 105, 110, 32, 112, 97, 114, 97, 109, 101, 116, 101, 114, 115, 13, 10, 53, 48, 51, 32, 66, 97, 100, 32, 115, 101, 113, 117, 101, 110, 99, 101, 32, 111, 102, 32, 99, 111, 109, 109, 97, 110, 100, 115, 13, 10, 50, 53, 50, 32, 67, 97, 110, 110, 111, 116, 32, 118, 101, 114, 105, 102, 121, 32, 117, 115, 101, 114, 13, 10, 53, 48, 48, 32, 83, 121, 110, 116, 97, 120, 32, 101, 114, 114, 111, 114, 13, 10, 53, 48, 49, 32, 83, 121, 110, 116, 97, 120, 32, 101, 114, 114, 111, 114, 32, 105, 110, 32, 112, 97, 114, 97, 109, 101, 116, 101, 114, 115, 13, 10] := by decide +kernel
theorem u1_w : u1.1.st.waits = false := by decide +kernel
theorem u1_e : u1.1.st.over = false := by decide +kernel
theorem u1_l : (u1.1.st.body.getD []).length = 0 := by decide +kernel
theorem u1_b : (envOf u1.1.st).byt = [] := by decide +kernel
theorem u1_a : (answerW u1.1.st 0).2 = [] := by decide +kernel
end Sm
