/- Plain: base subjects: what stands ahead of a subject and behind it. -/
import Derived.Test.YtlhmdooeffmedaaDoorPl30a
namespace Su
open Go Pk U8 Fo

theorem red_sp (l : List UInt8) : red (l ++ [32]) = red l := by
  have hs : stepR (l ++ [32]) = some (l, false) := by unfold stepR; rw [if_pos (by simp)]; simp
  rw [red_some hs, Bool.false_or]
theorem endsF_sp (l : List UInt8) : endsF (32 :: l) = endsF l := by
  by_cases h : 5 ≤ l.length
  · exact endsF_cons 32 l h
  · rw [endsF_short l (by omega)]
    by_cases h4 : l.length = 4
    · unfold endsF
      have e : (32 :: l).length - 5 = 0 := by rw [List.length_cons, h4]
      rw [e, List.drop_zero, List.map_cons]
      have : (lowc 32 :: l.map lowc == fwdT) = false := beq_eq_false_iff_ne.2 (by intro e; injection e with e; revert e; decide)
      rw [this, Bool.and_false]
    · exact endsF_short _ (by rw [List.length_cons]; omega)
theorem take_cons5 (c : UInt8) (l : List UInt8) (h : 5 ≤ l.length) : (c :: l).take ((c :: l).length - 5) = c :: l.take (l.length - 5) := by
  rw [List.length_cons, show l.length + 1 - 5 = (l.length - 5) + 1 by omega, List.take_succ_cons]
theorem endsF_len {l : List UInt8} (h : endsF l = true) : 5 ≤ l.length := by
  unfold endsF at h; simp at h; exact h.1
theorem last_snoc_ne {r : List UInt8} {c : UInt8} (h : c ≠ 32) : (r ++ [c]).getLast? ≠ some 32 := by simp [h]
/-- a space ahead -/
theorem red_sp1 : ∀ (n : Nat) (l : List UInt8), l.length ≤ n → red (32 :: l) = red l := by
  intro n
  induction n with
  | zero => intro l h; have : l = [] := List.eq_nil_of_length_eq_zero (by omega); subst this; decide
  | succ n ih =>
    intro l h
    rcases snoc_cases l with rfl | ⟨r, c, rfl⟩
    · decide
    · rw [List.length_append, List.length_singleton] at h
      by_cases hc : c = 32
      · subst hc
        rw [red_sp, ← List.cons_append, red_sp]
        exact ih r (by omega)
      · have h1 : (r ++ [c]).getLast? ≠ some 32 := last_snoc_ne hc
        have h1' : (32 :: (r ++ [c])).getLast? ≠ some 32 := by rw [← List.cons_append]; exact last_snoc_ne hc
        by_cases h2 : endsF (r ++ [c]) = true
        · have h2' : endsF (32 :: (r ++ [c])) = true := by rw [endsF_sp]; exact h2
          have h5 := endsF_len h2
          rw [red_fwd h1 h2, red_fwd h1' h2', take_cons5 _ _ h5, ih _ (by rw [List.length_take, List.length_append, List.length_singleton]; omega)]
        · have hs : stepR (32 :: (r ++ [c])) = some (r ++ [c], false) := by
            unfold stepR; rw [if_neg h1', if_neg (by rw [endsF_sp]; exact h2), if_pos (show (32 :: (r ++ [c])).head? = some 32 from rfl)]; rfl
          rw [red_some hs, Bool.false_or]
theorem red_free' : ∀ l : List UInt8, red (free l) = red l
  | [] => rfl
  | c :: r => by
    rw [free_cons]
    split
    · rename_i hc; subst hc; rw [red_sp1 _ r (Nat.le_refl _)]; exact red_free' r
    · rfl
/-- the end of a prefix -/
theorem endsF_pre (q P : List UInt8) (z : UInt8) (hz : lowc z ∉ fwdT) : endsF (q ++ [z] ++ P) = endsF P := by
  by_cases h : 5 ≤ P.length
  · unfold endsF
    rw [decide_eq_true h, decide_eq_true (show 5 ≤ (q ++ [z] ++ P).length by rw [List.length_append]; omega)]
    have e : (q ++ [z] ++ P).drop ((q ++ [z] ++ P).length - 5) = P.drop (P.length - 5) := by
      rw [List.drop_append]
      rw [List.drop_eq_nil_of_le (by rw [List.length_append (as := q ++ [z])]; omega), List.nil_append]
      congr 1
      rw [List.length_append (as := q ++ [z])]; omega
    rw [e]
  · rw [endsF_short P (by omega)]
    by_cases h5 : 5 ≤ (q ++ [z] ++ P).length
    · have hl : (q ++ [z] ++ P).length = q.length + 1 + P.length := by rw [List.length_append, List.length_append, List.length_singleton]
      unfold endsF
      rw [decide_eq_true h5, Bool.true_and, beq_eq_false_iff_ne]
      intro e
      apply hz
      rw [← e, List.append_assoc, List.drop_append_of_le_length (by rw [← List.append_assoc, hl]; omega)]
      simp
    · exact endsF_short _ (by omega)
theorem free_last : ∀ {l : List UInt8}, l.getLast? ≠ some 32 → (free l).getLast? ≠ some 32
  | [], h => h
  | c :: r, h => by
    rw [free_cons]
    split
    · rename_i hc
      apply free_last
      cases r with
      | nil => simp
      | cons a b => rw [List.getLast?_cons_cons] at h; exact h
    · exact h
theorem endsF_free : ∀ l : List UInt8, endsF (free l) = endsF l
  | [] => rfl
  | c :: r => by
    rw [free_cons]
    split
    · rename_i hc; subst hc; rw [endsF_sp]; exact endsF_free r
    · rfl
theorem free_head (l : List UInt8) : (free l).head? ≠ some 32 := free_eq.1 (free_free l)
/-- the mark of a reply ahead -/
theorem red_pre (q : List UInt8) (z : UInt8) (hz : lowc z ∉ fwdT) (hz2 : z ≠ 32) (hh : (q ++ [z]).head? ≠ some 32) (ha : ∀ P, answer (q ++ [z] ++ P) = some (free P)) :
    ∀ (n : Nat) (P : List UInt8), P.length ≤ n → red (q ++ [z] ++ P) = ((red P).1, true) := by
  intro n
  have hhP : ∀ P : List UInt8, (q ++ [z] ++ P).head? ≠ some 32 := by
    intro P
    rw [List.append_assoc]
    cases q with
    | nil => exact hh
    | cons a q => exact hh
  induction n with
  | zero =>
    intro P h
    have : P = [] := List.eq_nil_of_length_eq_zero (by omega)
    subst this
    rw [red_answer (t := []) (by rw [List.append_nil]; exact last_snoc_ne hz2) (by rw [endsF_pre q [] z hz]; rfl) (hhP []) (ha [])]
    rfl
  | succ n ih =>
    intro P h
    rcases snoc_cases P with rfl | ⟨r, c, rfl⟩
    · exact ih [] (by simp)
    · rw [List.length_append, List.length_singleton] at h
      by_cases hc : c = 32
      · subst hc
        rw [red_sp, ← List.append_assoc, red_sp]
        exact ih r (by omega)
      · have h1 : (r ++ [c]).getLast? ≠ some 32 := last_snoc_ne hc
        have h1' : (q ++ [z] ++ (r ++ [c])).getLast? ≠ some 32 := by rw [← List.append_assoc]; exact last_snoc_ne hc
        by_cases h2 : endsF (r ++ [c]) = true
        · have h2' : endsF (q ++ [z] ++ (r ++ [c])) = true := by rw [endsF_pre q _ z hz]; exact h2
          have h5 := endsF_len h2
          have e : (q ++ [z] ++ (r ++ [c])).take ((q ++ [z] ++ (r ++ [c])).length - 5) = q ++ [z] ++ (r ++ [c]).take ((r ++ [c]).length - 5) := by
            rw [List.take_append, List.take_of_length_le (l := q ++ [z]) (by rw [List.length_append (as := q ++ [z])]; omega)]
            congr 2
            rw [List.length_append (as := q ++ [z])]; omega
          rw [red_fwd h1 h2, red_fwd h1' h2', e, ih _ (by rw [List.length_take, List.length_append, List.length_singleton]; omega)]
          simp
        · have h2' : endsF (q ++ [z] ++ (r ++ [c])) = false := by rw [endsF_pre q _ z hz]; simpa using h2
          rw [red_answer h1' h2' (hhP _) (ha _), red_free', Bool.true_or]
theorem blobIn_app : ∀ (L P : List UInt8), (91 : UInt8) ∉ L → (93 : UInt8) ∉ L → blobIn (L ++ 93 :: P) = some (free P)
  | [], _, _, _ => rfl
  | c :: L, P, h1, h2 => by
    rw [List.cons_append]
    unfold blobIn
    rw [if_neg (by intro e; subst e; exact h2 (by simp)), if_neg (by intro e; subst e; exact h1 (by simp))]
    exact blobIn_app L P (fun h => h1 (by simp [h])) (fun h => h2 (by simp [h]))
theorem blob_app (L P : List UInt8) (h1 : (91 : UInt8) ∉ L) (h2 : (93 : UInt8) ∉ L) : blob (91 :: L ++ [93] ++ P) = some (free P) := by
  have := blobIn_app L P h1 h2
  simpa [blob] using this
theorem answer_skip {l u : List UInt8} (h : blob l = some u) : answer l = answer u := by
  unfold answer
  rw [skip_some h]
/-- the name of a list ahead -/
theorem red_list (L : List UInt8) (hL1 : (91 : UInt8) ∉ L) (hL2 : (93 : UInt8) ∉ L) : ∀ (n : Nat) (P : List UInt8), P.length ≤ n → (red P).1 ≠ [] → (red (91 :: L ++ [93] ++ P)).1 = (red P).1 := by
  intro n
  induction n with
  | zero =>
    intro P h hne
    have : P = [] := List.eq_nil_of_length_eq_zero (by omega)
    subst this
    exact absurd (by decide) hne
  | succ n ih =>
    intro P h hne
    rcases snoc_cases P with rfl | ⟨r, c, rfl⟩
    · exact absurd (by decide) hne
    · rw [List.length_append, List.length_singleton] at h
      by_cases hc : c = 32
      · subst hc
        rw [red_sp] at hne ⊢
        rw [← List.append_assoc, red_sp]
        exact ih r (by omega) hne
      · have h1 : (r ++ [c]).getLast? ≠ some 32 := last_snoc_ne hc
        have h1' : (91 :: L ++ [93] ++ (r ++ [c])).getLast? ≠ some 32 := by rw [← List.append_assoc]; exact last_snoc_ne hc
        by_cases h2 : endsF (r ++ [c]) = true
        · have h2' : endsF (91 :: L ++ [93] ++ (r ++ [c])) = true := by rw [endsF_pre (91 :: L) _ 93 (by decide)]; exact h2
          have h5 := endsF_len h2
          have e : (91 :: L ++ [93] ++ (r ++ [c])).take ((91 :: L ++ [93] ++ (r ++ [c])).length - 5) = 91 :: L ++ [93] ++ (r ++ [c]).take ((r ++ [c]).length - 5) := by
            rw [List.take_append, List.take_of_length_le (l := 91 :: L ++ [93]) (by rw [List.length_append (as := 91 :: L ++ [93])]; omega)]
            congr 2
            rw [List.length_append (as := 91 :: L ++ [93])]; omega
          rw [red_fwd h1 h2] at hne ⊢
          rw [red_fwd h1' h2', e]
          exact ih _ (by rw [List.length_take, List.length_append, List.length_singleton]; omega) hne
        · have h2' : endsF (91 :: L ++ [93] ++ (r ++ [c])) = false := by rw [endsF_pre (91 :: L) _ 93 (by decide)]; simpa using h2
          have h2f : endsF (r ++ [c]) = false := by simpa using h2
          have hb := blob_app L (r ++ [c]) hL1 hL2
          have hh : (91 :: L ++ [93] ++ (r ++ [c])).head? ≠ some 32 := by simp
          have hfl := free_last h1
          have hfe : endsF (free (r ++ [c])) = false := by rw [endsF_free]; exact h2f
          have hfh := free_head (r ++ [c])
          have e := answer_skip hb
          rw [← red_free' (r ++ [c])] at hne ⊢
          cases ha : answer (free (r ++ [c])) with
          | some t => rw [red_answer h1' h2' hh (e.trans ha), red_answer hfl hfe hfh ha]
          | none =>
            rw [red_mark h1' h2' hh (e.trans ha) hb]
            intro e0; rw [e0] at hne; exact absurd (by decide) hne
theorem endsF_other (l : List UInt8) (z : UInt8) (hz : lowc z ∉ fwdT) : endsF (l ++ [z]) = false := by
  have := endsF_pre l [] z hz
  rw [List.append_nil] at this
  rw [this]; rfl
theorem no_mem {l : List UInt8} {c : UInt8} (h : c ∉ l) : ∀ {q : List UInt8}, free l ≠ c :: q := by
  intro q e
  have h1 : c ∈ free l := by rw [e]; simp
  exact h ((List.dropWhile_sublist _).subset h1)
/-- forwarded as a whole -/
theorem red_whole (F Q : List UInt8) (hF : (91 :: F).map lowc = fwdB) (hF1 : (91 : UInt8) ∉ F) (hF2 : (93 : UInt8) ∉ F) (hQ1 : (91 : UInt8) ∉ Q) (hQ2 : (93 : UInt8) ∉ Q) :
    red (91 :: F ++ Q ++ [93]) = ((red Q).1, true) := by
  have hn1 : (91 : UInt8) ∉ F ++ Q := by rw [List.mem_append]; exact fun h => h.elim hF1 hQ1
  have hn2 : (93 : UInt8) ∉ F ++ Q := by rw [List.mem_append]; exact fun h => h.elim hF2 hQ2
  have hb := blob_app (F ++ Q) [] hn1 hn2
  have e : 91 :: (F ++ Q) ++ [93] ++ [] = 91 :: F ++ Q ++ [93] := by simp
  rw [e] at hb
  have hb' : blob (91 :: F ++ Q ++ [93]) = some [] := hb
  have ha : answer (91 :: F ++ Q ++ [93]) = none := by rw [answer_skip hb']; decide
  have hlen : F.length = 4 := by
    have := congrArg List.length hF
    rw [List.length_map, List.length_cons] at this
    have h5 : fwdB.length = 5 := rfl
    omega
  have hst : st fwdB (91 :: F ++ Q ++ [93]) = some (Q ++ [93]) := by
    unfold st
    have h5 : fwdB.length = (91 :: F).length := by rw [List.length_cons, hlen]; rfl
    rw [h5, List.append_assoc, List.take_left, List.drop_left, if_pos hF]
  have hw : wrap (91 :: F ++ Q ++ [93]) = some Q := by
    unfold wrap
    rw [hst]
    simp
  rw [red_wrap (t := Q) (last_snoc_ne (by decide)) (endsF_other _ 93 (by decide)) (by simp) ha (by intro t ht; rw [hb'] at ht; injection ht with ht; exact ht.symm) hw, Bool.true_or]
theorem foldL_nil : foldL [] = [] := rfl
/-- a string in which no step finds anything -/
theorem tryMark_no {m l : List UInt8} (h1 : (91 : UInt8) ∉ l) (h2 : (58 : UInt8) ∉ l) : tryMark m l = none := by
  unfold tryMark
  cases hs : st m l with
  | none => rfl
  | some r =>
    obtain ⟨-, hr, -⟩ := st_some hs
    have hr1 : (91 : UInt8) ∉ r := fun h => h1 (List.mem_of_mem_drop (by rwa [hr] at h))
    have hr2 : (58 : UInt8) ∉ r := fun h => h2 (List.mem_of_mem_drop (by rwa [hr] at h))
    have hb : blob (free r) = none := by
      cases hb : blob (free r) with
      | none => rfl
      | some t => obtain ⟨q, hq⟩ := blob_head hb; exact absurd hq (no_mem hr1)
    simp only [hb, Option.getD_none]
    split
    · rename_i q hq; exact absurd hq (no_mem hr2)
    · rfl
theorem blob_no1 {l : List UInt8} (h1 : (91 : UInt8) ∉ l) : blob l = none := by
  cases hb : blob l with
  | none => rfl
  | some t => obtain ⟨q, hq⟩ := blob_head hb; rw [hq] at h1; exact absurd (by simp) h1
theorem lowc_91 (c : UInt8) : lowc c = 91 → c = 91 := all_u8 (fun c => lowc c = 91 → c = 91) (by decide +kernel) c
theorem lowc_41 (c : UInt8) : lowc c = 41 → c = 41 := all_u8 (fun c => lowc c = 41 → c = 41) (by decide +kernel) c
theorem endsF_no {l : List UInt8} (h : (41 : UInt8) ∉ l) : endsF l = false := by
  rw [← Bool.not_eq_true]
  intro he
  unfold endsF at he
  simp only [Bool.and_eq_true, beq_iff_eq] at he
  have hm : (41 : UInt8) ∈ (l.drop (l.length - 5)).map lowc := by rw [he.2]; decide
  obtain ⟨c, hc, e⟩ := List.mem_map.1 hm
  have := lowc_41 c e
  subst this
  exact h (List.mem_of_mem_drop hc)
theorem wrap_no {l : List UInt8} (h1 : (91 : UInt8) ∉ l) : wrap l = none := by
  unfold wrap
  have : st fwdB l = none := by
    unfold st
    rw [if_neg]
    intro e
    cases l with
    | nil => revert e; decide
    | cons a r =>
      have : fwdB.length = 5 := rfl
      rw [this, List.take_succ_cons, List.map_cons] at e
      injection e with e1 e2
      have := lowc_91 a e1
      subst this
      exact h1 (by simp)
  rw [this]
theorem trimR_mem {l : List UInt8} {c : UInt8} (h : c ∈ trimR l) : c ∈ l := by
  unfold trimR at h
  rw [List.mem_reverse] at h
  exact List.mem_reverse.1 ((List.dropWhile_sublist _).subset h)
theorem trimR_trimR : ∀ (n : Nat) (l : List UInt8), l.length ≤ n → trimR (trimR l) = trimR l := by
  intro n
  induction n with
  | zero => intro l h; have : l = [] := List.eq_nil_of_length_eq_zero (by omega); subst this; rfl
  | succ n ih =>
    intro l h
    rcases snoc_cases l with rfl | ⟨r, c, rfl⟩
    · rfl
    · rw [trimR_snoc]
      split
      · exact ih r (by simp at h; omega)
      · rename_i hc; rw [trimR_snoc, if_neg hc]
theorem trimR_head : ∀ (n : Nat) (l : List UInt8), l.length ≤ n → l.head? ≠ some 32 → (trimR l).head? ≠ some 32 := by
  intro n
  induction n with
  | zero => intro l h h2; have : l = [] := List.eq_nil_of_length_eq_zero (by omega); subst this; exact h2
  | succ n ih =>
    intro l h h2
    rcases snoc_cases l with rfl | ⟨r, c, rfl⟩
    · exact h2
    · rw [trimR_snoc]
      split
      · apply ih r (by simp at h; omega)
        cases r with
        | nil => simp
        | cons a r => exact h2
      · exact h2
def trim2 (l : List UInt8) : List UInt8 := trimR (free l)
theorem red_plain (l : List UInt8) (h1 : (91 : UInt8) ∉ l) (h2 : (58 : UInt8) ∉ l) (h3 : (41 : UInt8) ∉ l) : red l = (trim2 l, false) := by
  have hsub : ∀ c, c ∈ trim2 l → c ∈ l := fun c h => (List.dropWhile_sublist _).subset (trimR_mem h)
  have e : red (trim2 l) = red l := by
    unfold trim2
    rw [red_trim _ _ (Nat.le_refl _), red_free']
  rw [← e]
  have g1 : (91 : UInt8) ∉ trim2 l := fun h => h1 (hsub _ h)
  have g2 : (58 : UInt8) ∉ trim2 l := fun h => h2 (hsub _ h)
  have g3 : (41 : UInt8) ∉ trim2 l := fun h => h3 (hsub _ h)
  refine red_stays ?_ (endsF_no g3) ?_ ?_ ?_ (wrap_no g1)
  · exact trimR_eq.1 (trimR_trimR _ _ (Nat.le_refl _))
  · exact trimR_head _ _ (Nat.le_refl _) (free_head l)
  · unfold answer
    rw [skip_none (blob_no1 g1), tryMark_no g1 g2, tryMark_no g1 g2, tryMark_no g1 g2]
  · intro t ht; rw [blob_no1 g1] at ht; cases ht
end Su
