/- Plain: what is written is read back by the lexer; a text of lines in a multi-line string. -/
import Derived.Test.YtgimgkjggaijoaaGreatDoorLxL
namespace Lx
open Go Pk C1

/-- a lower-case identifier -/
def lowW (c : UInt8) : Bool := decide ((97 ≤ c.toNat ∧ c.toNat ≤ 122) ∨ c.toNat = 95)
def nameB : List UInt8 → Bool
  | [] => false
  | c :: r => lowW c && r.all fun c => lowW c || isDig c
theorem lowW_let {c : UInt8} (h : lowW c = true) : isLet c = true := by
  unfold lowW at h
  unfold isLet
  have := of_decide_eq_true h
  exact decide_eq_true (by omega)
theorem lowW_low {c : UInt8} (h : (lowW c || isDig c) = true) : lowC c = c := by
  unfold lowC
  rw [if_neg]
  unfold lowW isDig at h
  simp only [Bool.or_eq_true, decide_eq_true_eq] at h
  omega
theorem lowL_name {l : List UInt8} (h : nameB l = true) : lowL l = l := by
  cases l with
  | nil => rfl
  | cons c r =>
    unfold nameB at h
    rw [Bool.and_eq_true, List.all_eq_true] at h
    unfold lowL
    rw [List.map_cons, lowW_low (by rw [h.1]; rfl)]
    congr 1
    conv => rhs; rw [← List.map_id r]
    exact List.map_congr_left fun c hc => lowW_low (h.2 c hc)
theorem span_all (p : UInt8 → Bool) : ∀ (l Z : List UInt8), (∀ c ∈ l, p c = true) → hdP p Z = false → spanL p (l ++ Z) = l.length
  | [], Z, _, h => by rw [List.nil_append]; exact spanL_nohd p Z h
  | c :: r, Z, h, hz => by
    rw [List.cons_append]
    unfold spanL
    rw [if_pos (h c (by simp)), span_all p r Z (fun d hd => h d (by simp [hd])) hz, List.length_cons]
theorem ident_name {l : List UInt8} (h : nameB l = true) (Z : List UInt8) (hZ : hdW Z = false) : identL (l ++ Z) = l.length := by
  cases l with
  | nil => cases h
  | cons c r =>
    unfold nameB at h
    rw [Bool.and_eq_true, List.all_eq_true] at h
    rw [List.cons_append]
    rw [identL_cons]
    rw [if_pos (lowW_let h.1), span_all isWd r Z (fun d hd => ?_) hZ, List.length_cons]
    have := h.2 d hd
    unfold isWd
    rw [Bool.or_eq_true] at this ⊢
    rcases this with this | this
    · exact .inl (lowW_let this)
    · exact .inr this
theorem hd_name {l : List UInt8} (h : nameB l = true) (Z : List UInt8) : spaceL (l ++ Z) = some 0 := by
  cases l with
  | nil => cases h
  | cons c r =>
    unfold nameB at h
    rw [Bool.and_eq_true] at h
    have := h.1
    unfold lowW at this
    have hc := of_decide_eq_true this
    rw [List.cons_append]
    rw [spaceL_cons]
    rw [if_neg, if_neg, if_neg]
    · rintro ⟨rfl, -⟩; simp at hc
    · rintro rfl; simp at hc
    · intro h
      unfold isWs at h
      rcases of_decide_eq_true h with rfl | rfl | rfl | rfl <;> simp at hc
theorem read_name {l : List UInt8} (h : nameB l = true) (Z : List UInt8) : tokenL (l ++ 32 :: Z) = some (⟨1, l, 0⟩, l.length) := by
  have e := ident_name h (32 :: Z) rfl
  have hl : 0 < l.length := by cases l with
    | nil => cases h
    | cons c r => simp
  unfold tokenL
  rw [e, if_neg, if_pos hl, take_app (Nat.le_refl _), List.take_of_length_le (Nat.le_refl _), lowL_name h]
  rintro ⟨h4, -, h5⟩
  rw [← h4, drop_app (Nat.le_refl _), List.drop_eq_nil_of_le (Nat.le_refl _)] at h5
  simp at h5
theorem read_tag {l : List UInt8} (h : nameB l = true) (Z : List UInt8) : tokenL (58 :: (l ++ 32 :: Z)) = some (⟨2, l, 0⟩, 1 + l.length) := by
  have e := ident_name h (32 :: Z) rfl
  have hl : 0 < l.length := by cases l with
    | nil => cases h
    | cons c r => simp
  have e0 : identL (58 :: (l ++ 32 :: Z)) = 0 := by rw [identL_cons]; rw [if_neg (by decide)]
  rw [tokenL_cons e0]
  rw [e, if_pos ⟨rfl, hl⟩, take_app (Nat.le_refl _), List.take_of_length_le (Nat.le_refl _), lowL_name h]
theorem digC_isDig (c : UInt8) : digC c = isDig c := rfl
theorem dd_len : ∀ (k u : Nat), u < 10 ^ (k + 1) → (Lib.decDigits u).length ≤ k + 1
  | 0, u, h => by rw [Lib.decDigits_one (by simpa using h)]; simp
  | k + 1, u, h => by
    by_cases hu : u < 10
    · rw [Lib.decDigits_one hu]; simp
    · rw [dd_snoc hu, List.length_append, List.length_singleton]
      have := dd_len k (u / 10) (by rw [Nat.pow_succ] at h; omega)
      omega
theorem read_num {u : Nat} (h : u < 1000000000000) (Z : List UInt8) : tokenL (Lib.decDigits u ++ 32 :: Z) = some (⟨3, [], u⟩, (Lib.decDigits u).length) := by
  have hl := dd_len 11 u (by simpa using h)
  have hd := dd_digits u
  have hs := span_all isDig (Lib.decDigits u) (32 :: Z) hd rfl
  have hv := dd_val u
  have hne := dd_ne u
  generalize Lib.decDigits u = l at *
  have hn : numL (l ++ 32 :: Z) = some (u, l.length) := by
    unfold numL
    simp only
    have k0 : hdK ([] ++ 32 :: Z) = 0 := rfl
    have k1 : hdW ([] ++ 32 :: Z) = false := rfl
    rw [hs, take_app (Nat.le_refl _), List.take_of_length_le (Nat.le_refl _), drop_app (Nat.le_refl _), List.drop_eq_nil_of_le (Nat.le_refl _), hv, if_neg (by unfold most; omega), k0, k1, if_pos rfl, if_neg (by decide)]
  cases l with
  | nil => exact absurd rfl hne
  | cons c r =>
    have hc := hd c (by simp)
    have hc' := (digC_iff c).1 hc
    have e0 : identL ((c :: r) ++ 32 :: Z) = 0 := by
      rw [List.cons_append]; rw [identL_cons]
      rw [if_neg]
      unfold isLet
      rw [decide_eq_true_iff]; omega
    rw [List.cons_append] at hn e0 ⊢
    rw [tokenL_cons e0]
    rw [if_neg (by rintro ⟨rfl, -⟩; simp at hc'), if_pos (show isDig c = true from hc), hn]
    rfl
/-- a string with what must be escaped -/
def escC (c : UInt8) : List UInt8 := if c = 34 then [92, 34] else if c = 92 then [92, 92] else [c]
theorem quoL_esc : ∀ (l Z : List UInt8), quoL (l.flatMap escC ++ 34 :: Z) = some (l, (l.flatMap escC).length + 1)
  | [], Z => by
    rw [List.flatMap_nil, List.nil_append]
    cases Z with
    | nil => rfl
    | cons a b => rfl
  | c :: r, Z => by
    have ih := quoL_esc r Z
    rw [List.flatMap_cons]
    unfold escC
    by_cases h1 : c = 34
    · rw [if_pos h1, List.append_assoc]
      simp only [List.cons_append, List.nil_append]
      unfold quoL
      rw [if_neg (by decide), if_pos rfl]
      show Option.map _ (quoL (r.flatMap escC ++ 34 :: Z)) = _
      rw [ih, h1]
      simp [escC]
    · rw [if_neg h1]
      by_cases h2 : c = 92
      · rw [if_pos h2, List.append_assoc]
        simp only [List.cons_append, List.nil_append]
        unfold quoL
        rw [if_neg (by decide), if_pos rfl]
        show Option.map _ (quoL (r.flatMap escC ++ 34 :: Z)) = _
        rw [ih, h2]
        simp [escC]
      · rw [if_neg h2, List.append_assoc]
        simp only [List.cons_append, List.nil_append]
        show quoL (c :: (r.flatMap escC ++ 34 :: Z)) = _
        cases hx : r.flatMap escC ++ 34 :: Z with
        | nil => simp at hx
        | cons a b =>
          unfold quoL
          rw [if_neg h1, if_neg h2]
          show Option.map _ (quoL (a :: b)) = _
          rw [← hx, ih]
          rfl
def textL (l : List UInt8) : List UInt8 := 34 :: (l.flatMap escC ++ [34])
theorem read_text (l Z : List UInt8) : tokenL (textL l ++ Z) = some (⟨4, l, 0⟩, (textL l).length) := by
  have e := quoL_esc l Z
  unfold textL
  rw [List.cons_append, List.append_assoc]
  have e0 : identL (34 :: (l.flatMap escC ++ ([34] ++ Z))) = 0 := by rw [identL_cons]; rw [if_neg (by decide)]
  rw [tokenL_cons e0]
  rw [if_neg (fun hh => absurd hh.1 (by decide)), if_neg (by decide), if_pos rfl]
  show Option.map _ (quoL (l.flatMap escC ++ 34 :: Z)) = _
  rw [e, Option.map_some]
  simp
  omega
theorem read_mark {c : UInt8} (h : isMk c = true) (Z : List UInt8) : spaceL (c :: Z) = some 0 ∧ tokenL (c :: Z) = some (⟨5, [c], 0⟩, 1) := by
  have hc := of_decide_eq_true (show decide _ = true from h)
  have h1 : isLet c = false ∧ c ≠ 58 ∧ isDig c = false ∧ c ≠ 34 ∧ isWs c = false ∧ c ≠ 35 ∧ c ≠ 47 := by
    rcases hc with rfl | rfl | rfl | rfl | rfl | rfl | rfl | rfl <;> decide
  obtain ⟨a, b, d, e, f, g, i⟩ := h1
  refine ⟨?_, ?_⟩
  · rw [spaceL_cons]
    rw [f, if_neg (by decide), if_neg g, if_neg (fun hh => i hh.1)]
  · have e0 : identL (c :: Z) = 0 := by rw [identL_cons]; rw [a, if_neg (by decide)]
    rw [tokenL_cons e0]
    rw [if_neg (fun hh => b hh.1), d, if_neg (by decide), if_neg e, h, if_pos rfl]
/-- a token in its source form, with a space behind it -/
def Wr (w : List UInt8) (t : Tok) : Prop := w ≠ [] ∧ ∀ Z, spaceL (w ++ 32 :: Z) = some 0 ∧ tokenL (w ++ 32 :: Z) = some (t, w.length)
theorem wr_name {l : List UInt8} (h : nameB l = true) : Wr l ⟨1, l, 0⟩ := ⟨(fun e => by rw [e] at h; cases h), fun Z => ⟨hd_name h _, read_name h Z⟩⟩
theorem wr_tag {l : List UInt8} (h : nameB l = true) : Wr (58 :: l) ⟨2, l, 0⟩ := ⟨by simp, fun Z => ⟨rfl, by rw [List.cons_append, read_tag h Z, List.length_cons, Nat.add_comm]⟩⟩
theorem wr_num {u : Nat} (h : u < 1000000000000) : Wr (Lib.decDigits u) ⟨3, [], u⟩ := by
  refine ⟨dd_ne u, fun Z => ⟨?_, read_num h Z⟩⟩
  have hd := dd_digits u
  have hne := dd_ne u
  cases hl : Lib.decDigits u with
  | nil => exact absurd hl hne
  | cons c r =>
    have hc := (digC_iff c).1 (hd c (by rw [hl]; simp))
    rw [List.cons_append]
    rw [spaceL_cons]
    rw [if_neg, if_neg, if_neg]
    · rintro ⟨rfl, -⟩; simp at hc
    · rintro rfl; simp at hc
    · intro h
      unfold isWs at h
      rcases of_decide_eq_true h with rfl | rfl | rfl | rfl <;> simp at hc
theorem wr_text (l : List UInt8) : Wr (textL l) ⟨4, l, 0⟩ := ⟨by unfold textL; simp, fun Z => ⟨rfl, read_text l _⟩⟩
theorem wr_mark {c : UInt8} (h : isMk c = true) : Wr [c] ⟨5, [c], 0⟩ := ⟨by simp, fun Z => ⟨(read_mark h _).1, (read_mark h _).2⟩⟩
theorem run_wr {w : List UInt8} {t : Tok} (h : Wr w t) {Z : List UInt8} {k : Nat} {ts : List (Tok × Nat)} {e : Option Nat} (hr : Run Z (k + w.length + 1) ts e) : Run (w ++ 32 :: Z) k ((t, k) :: ts) e := by
  refine Run.tok (by simp) (h.2 Z).1 (h.2 Z).2 ?_
  rw [drop_app (Nat.le_refl _), List.drop_eq_nil_of_le (Nat.le_refl _), List.nil_append]
  exact Run.sp (n := 1) (by decide) rfl hr
/-- what is added behind a text that ends with a token and a space -/
def Adds (s : List UInt8) (ts : List (Tok × Nat)) : Prop := ∀ Z ts' e, Run Z s.length ts' e → Run (s ++ Z) 0 (ts ++ ts') e
theorem Adds.nil : Adds [] [] := fun _ _ _ h => h
theorem Adds.snoc {s : List UInt8} {ts : List (Tok × Nat)} (h : Adds s ts) {w : List UInt8} {t : Tok} (hw : Wr w t) : Adds (s ++ w ++ [32]) (ts ++ [(t, s.length)]) := by
  intro Z ts' e hr
  rw [List.append_assoc, List.append_assoc, List.append_assoc]
  refine h _ _ _ ?_
  show Run (w ++ (32 :: Z)) _ _ _
  refine run_wr hw ?_
  rw [List.length_append, List.length_append, List.length_singleton] at hr
  exact hr
theorem Adds.run {s : List UInt8} {ts : List (Tok × Nat)} (h : Adds s ts) : Run s 0 ts none := by
  have := h [] [] none (Run.fin _)
  rwa [List.append_nil, List.append_nil] at this

/-! lines -/
def stfL (h : List UInt8) : List UInt8 := if h.head? = some 46 then 46 :: h else h
def mapF (f : List UInt8 → List UInt8) : Nat → List UInt8 → List UInt8
  | 0, _ => []
  | m + 1, l => if l = [] then [] else f (l.take (lnL l)) ++ mapF f m (l.drop (lnL l))
/-- what comes of the lines -/
def mapN (f : List UInt8 → List UInt8) (l : List UInt8) : List UInt8 := mapF f l.length l
theorem mapF_more (f : List UInt8 → List UInt8) : ∀ (m : Nat) (l : List UInt8), l.length ≤ m → mapF f m l = mapF f l.length l := by
  intro m
  induction m using Nat.strongRecOn with
  | _ m ih =>
    intro l hl
    rcases Nat.lt_or_ge l.length m with h | h
    · cases m with
      | zero => omega
      | succ m =>
        cases hn : l.length with
        | zero =>
          have := List.eq_nil_of_length_eq_zero hn
          subst this
          unfold mapF
          rw [if_pos rfl]
        | succ n =>
          have hne : l ≠ [] := fun e => by rw [e] at hn; simp at hn
          have hp := lnL_pos l hne
          unfold mapF
          rw [if_neg hne, if_neg hne]
          have hd : (l.drop (lnL l)).length ≤ n := by rw [List.length_drop]; omega
          rw [ih m (by omega) _ (by omega), ih n (by omega) _ hd]
    · have : m = l.length := by omega
      rw [this]
theorem mapN_nil (f : List UInt8 → List UInt8) : mapN f [] = [] := rfl
theorem mapN_cons (f : List UInt8 → List UInt8) (l : List UInt8) (hne : l ≠ []) : mapN f l = f (l.take (lnL l)) ++ mapN f (l.drop (lnL l)) := by
  cases hn : l.length with
  | zero => exact absurd (List.eq_nil_of_length_eq_zero hn) hne
  | succ n =>
    have hp := lnL_pos l hne
    have e : mapF f l.length l = if l = [] then [] else f (l.take (lnL l)) ++ mapF f n (l.drop (lnL l)) := by rw [hn]; rfl
    unfold mapN
    rw [e, if_neg hne, mapF_more f n (l.drop (lnL l)) (by rw [List.length_drop]; omega)]
/-- a line with its end, ahead of anything -/
def isLn (h : List UInt8) : Prop := ∃ r, h = r ++ [10] ∧ (10 : UInt8) ∉ r
theorem lnL_line {r : List UInt8} (h : (10 : UInt8) ∉ r) : ∀ Z, lnL (r ++ 10 :: Z) = r.length + 1 := by
  induction r with
  | nil => intro Z; rfl
  | cons c r ih =>
    intro Z
    rw [List.cons_append]
    unfold lnL
    rw [if_neg (fun e => h (by simp [e])), ih (fun e => h (by simp [e])) Z, List.length_cons]
theorem lnL_last : ∀ (l : List UInt8), l ≠ [] → l.getLast? = some 10 → ∃ r, l.take (lnL l) = r ++ [10] ∧ (10 : UInt8) ∉ r ∧ (l.drop (lnL l) = [] ∨ (l.drop (lnL l)).getLast? = some 10)
  | [], h, _ => absurd rfl h
  | c :: r, _, h => by
    unfold lnL
    by_cases hc : c = 10
    · rw [if_pos hc]
      refine ⟨[], by rw [hc]; rfl, by simp, ?_⟩
      cases r with
      | nil => exact .inl rfl
      | cons d q => right; rw [List.getLast?_cons_cons] at h; exact h
    · rw [if_neg hc]
      cases r with
      | nil => simp [hc] at h
      | cons d q =>
        rw [List.getLast?_cons_cons] at h
        obtain ⟨x, h1, h2, h3⟩ := lnL_last (d :: q) (by simp) h
        refine ⟨c :: x, by rw [List.take_succ_cons, h1]; rfl, ?_, by rw [List.drop_succ_cons]; exact h3⟩
        intro hm
        rcases List.mem_cons.1 hm with e | e
        · exact hc e.symm
        · exact h2 e
theorem unst_cons (c : UInt8) (r : List UInt8) : unst (c :: r) = if c = 46 then r else c :: r := rfl
theorem stf_ln {r : List UInt8} (h : (10 : UInt8) ∉ r) : ∃ q, stfL (r ++ [10]) = q ++ [10] ∧ (10 : UInt8) ∉ q ∧ isDot (q ++ [10]) = false ∧ unst (q ++ [10]) = r ++ [10] := by
  unfold stfL
  by_cases h1 : (r ++ [10]).head? = some 46
  · rw [if_pos h1]
    refine ⟨46 :: r, rfl, ?_, ?_, ?_⟩
    · intro hm
      rcases List.mem_cons.1 hm with e | e
      · cases e
      · exact h e
    · cases r with
      | nil => cases h1
      | cons c q =>
        have hc : c = 46 := by simpa using h1
        unfold isDot
        rw [decide_eq_false_iff_not]
        subst hc
        simp
    · show unst (46 :: (r ++ [10])) = _
      rw [unst_cons, if_pos (show (46 : UInt8) = 46 from rfl)]
  · rw [if_neg h1]
    refine ⟨r, rfl, h, ?_, ?_⟩
    · unfold isDot
      rw [decide_eq_false_iff_not]
      rintro (e | e | e)
      all_goals (rw [e] at h1; exact h1 rfl)
    · cases r with
      | nil => rfl
      | cons c q =>
        rw [List.cons_append, unst_cons, if_neg (fun e : c = 46 => h1 (by rw [e]; rfl))]
theorem dot_stf : ∀ (m : Nat) (t Z : List UInt8), t.length ≤ m → (t = [] ∨ t.getLast? = some 10) → dotL (mapN stfL t ++ 46 :: 10 :: Z) = some (t, (mapN stfL t).length + 2) := by
  intro m
  induction m with
  | zero =>
    intro t Z hm _
    have := List.eq_nil_of_length_eq_zero (by omega : t.length = 0)
    subst this
    rw [mapN_nil, List.nil_append, dotL_eq, if_neg (by simp)]
    have : lnL (46 :: 10 :: Z) = 2 := rfl
    rw [this, if_pos (by show isDot [46, 10] = true; decide)]
    rfl
  | succ m ih =>
    intro t Z hm ht
    by_cases hne : t = []
    · subst hne; exact ih [] Z (Nat.zero_le _) (.inl rfl)
    · have hl := ht.resolve_left hne
      have hp := lnL_pos t hne
      obtain ⟨r, h1, h2, h3⟩ := lnL_last t hne hl
      obtain ⟨q, q1, q2, q3, q4⟩ := stf_ln h2
      have ih := ih (t.drop (lnL t)) Z (by rw [List.length_drop]; omega) h3
      have ht2 : t = r ++ [10] ++ t.drop (lnL t) := by rw [← h1, split_at]
      rw [mapN_cons stfL t hne, h1, q1]
      generalize t.drop (lnL t) = u at *
      rw [dotL_eq, if_neg (by simp)]
      have e1 : lnL (q ++ [10] ++ mapN stfL u ++ 46 :: 10 :: Z) = q.length + 1 := by
        rw [List.append_assoc, List.append_assoc]
        exact lnL_line q2 _
      have e2 : (q ++ [10] ++ mapN stfL u ++ 46 :: 10 :: Z).take (q.length + 1) = q ++ [10] := by
        rw [List.append_assoc, take_app (by simp), List.take_of_length_le (by simp)]
      have e3 : (q ++ [10] ++ mapN stfL u ++ 46 :: 10 :: Z).drop (q.length + 1) = mapN stfL u ++ 46 :: 10 :: Z := by
        rw [List.append_assoc, drop_app (by simp), List.drop_eq_nil_of_le (by simp), List.nil_append]
      rw [e1, e2, e3, q3, if_neg (by decide), ih, Option.map_some, q4]
      conv => rhs; rw [ht2]
      simp
      omega
theorem begL_crlf (Z : List UInt8) : begL (13 :: 10 :: Z) = 1 := rfl
theorem run_lines (t : List UInt8) (ht : t = [] ∨ t.getLast? = some 10) : Run ([84, 101, 120, 116, 58, 13, 10] ++ mapN stfL t ++ [46, 10, 59]) 0 [(⟨4, t, 0⟩, 0), (⟨5, [59], 0⟩, (mapN stfL t).length + 9)] none := by
  have hd := dot_stf t.length t [59] (Nat.le_refl _) ht
  generalize mapN stfL t = M at *
  have hm : multiL (13 :: 10 :: (M ++ [46, 10, 59])) = some (t, 2 + (M.length + 2)) := by
    unfold multiL
    rw [begL_crlf, if_pos (show (List.drop 1 (13 :: 10 :: (M ++ [46, 10, 59]))).head? = some (10 : UInt8) from rfl)]
    show Option.map _ (dotL (M ++ [46, 10, 59])) = _
    rw [hd]
    rfl
  have e0 : ([84, 101, 120, 116, 58, 13, 10] ++ M ++ [46, 10, 59] : List UInt8) = 84 :: 101 :: 120 :: 116 :: 58 :: 13 :: 10 :: (M ++ [46, 10, 59]) := by simp
  have e5 : (84 :: 101 :: 120 :: 116 :: 58 :: 13 :: 10 :: (M ++ [46, 10, 59]) : List UInt8).drop (M.length + 9) = [59] := by
    rw [← e0]
    have : ([84, 101, 120, 116, 58, 13, 10] ++ M ++ [46, 10, 59] : List UInt8) = ([84, 101, 120, 116, 58, 13, 10] ++ M ++ [46, 10]) ++ [59] := by simp
    rw [this, drop_app (by simp), List.drop_eq_nil_of_le (by simp), List.nil_append]
  rw [e0]
  generalize hX : M ++ [46, 10, 59] = X at *
  have e4 : identL (84 :: 101 :: 120 :: 116 :: 58 :: 13 :: 10 :: X) = 4 := by
    rw [identL_cons, if_pos (by decide)]
    simp only [spanL, show isWd 101 = true by decide, show isWd 120 = true by decide, show isWd 116 = true by decide, show isWd 58 = false by decide, if_true]
    rfl
  have e6 : lowL ((84 :: 101 :: 120 :: 116 :: 58 :: 13 :: 10 :: X).take 4) = textW := by
    show lowL [84, 101, 120, 116] = textW
    decide
  have e7 : spaceL (84 :: 101 :: 120 :: 116 :: 58 :: 13 :: 10 :: X) = some 0 := by
    rw [spaceL_cons, if_neg (by decide), if_neg (by decide), if_neg (fun h => absurd h.1 (by decide))]
  have htk : tokenL (84 :: 101 :: 120 :: 116 :: 58 :: 13 :: 10 :: X) = some (⟨4, t, 0⟩, M.length + 9) := by
    unfold tokenL
    rw [if_pos ⟨e4, e6, rfl⟩]
    show Option.map _ (multiL (13 :: 10 :: X)) = _
    rw [hm, Option.map_some]
    simp only [Option.some.injEq, Prod.mk.injEq, true_and]
    omega
  have e8 := read_mark (c := 59) (by decide) []
  refine Run.tok (by simp) e7 htk ?_
  rw [e5, Nat.zero_add]
  exact Run.tok (by simp) e8.1 e8.2 (Run.fin _)
end Lx
