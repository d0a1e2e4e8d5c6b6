/- Plain: the laws of base subjects: the name of a list ahead, a subject without marks, replies and forwards. -/
import Derived.Test.YtlhmdooeffmedaaDoorPl30b
namespace Su
open Go Pk U8 Fo

/-! SubjectLists -/
theorem red_plain_sp (l : List UInt8) : red (32 :: col true l) = red (col false l) := by
  rw [← red_free' (32 :: col true l), free_col, red_free']
def NoBr (l : List UInt8) : Prop := (91 : UInt8) ∉ l ∧ (93 : UInt8) ∉ l
theorem NoBr.col {l : List UInt8} (h : NoBr l) (x : Bool) : NoBr (col x (repairL l)) := ⟨not_colR h.1 (by decide) (by decide), not_colR h.2 (by decide) (by decide)⟩
theorem lists_1 (L l : List UInt8) (hL : NoBr L) (hne : (red (plain l)).1 ≠ []) : (red (plain ([91] ++ L ++ [93] ++ l))).1 = (red (plain l)).1 := by
  have e : plain ([91] ++ L ++ [93] ++ l) = 91 :: col false (repairL L) ++ [93] ++ plain l := by
    have e1 : repairL ([91] ++ L ++ [93] ++ l) = [91] ++ (repairL L ++ ([93] ++ repairL l)) := by
      rw [List.append_assoc, List.append_assoc, repair_pre [91] _ (by decide), repair_app L (x := [93] ++ l) (asc_cons (by decide)), repair_pre [93] _ (by decide)]
    unfold plain
    rw [e1]
    show 91 :: col false (repairL L ++ ([93] ++ repairL l)) = _
    rw [col_app]
    show 91 :: (col false (repairL L) ++ (93 :: col false (repairL l))) = _
    simp
  rw [e]
  exact red_list _ (hL.col false).1 (hL.col false).2 _ _ (Nat.le_refl _) hne
def xS : List UInt8 := [93, 32, 91, 120, 93, 32]
theorem lists_2 (L l : List UInt8) (hL : NoBr L) (hne : (red (plain l)).1 ≠ []) : (red (plain ([91] ++ L ++ xS ++ l))).1 = (red (plain l)).1 := by
  have e : plain ([91] ++ L ++ xS ++ l) = 91 :: col false (repairL L) ++ [93] ++ (32 :: (91 :: [120] ++ [93] ++ (32 :: col true (repairL l)))) := by
    have e1 : repairL ([91] ++ L ++ xS ++ l) = [91] ++ (repairL L ++ (xS ++ repairL l)) := by
      rw [List.append_assoc, List.append_assoc, repair_pre [91] _ (by decide), repair_app L (x := xS ++ l) (asc_cons (by decide)), repair_pre xS _ (by decide)]
    unfold plain
    rw [e1]
    show 91 :: col false (repairL L ++ (xS ++ repairL l)) = _
    rw [col_app]
    show 91 :: (col false (repairL L) ++ (93 :: 32 :: 91 :: 120 :: 93 :: 32 :: col true (repairL l))) = _
    simp
  have h2 : (red (32 :: col true (repairL l))).1 = (red (plain l)).1 := by rw [red_plain_sp]; rfl
  have h3 : (red (91 :: [120] ++ [93] ++ (32 :: col true (repairL l)))).1 = (red (plain l)).1 := by
    rw [red_list [120] (by decide) (by decide) _ _ (Nat.le_refl _) (by rw [h2]; exact hne), h2]
  have h4 : (red (32 :: (91 :: [120] ++ [93] ++ (32 :: col true (repairL l))))).1 = (red (plain l)).1 := by
    rw [red_sp1 _ _ (Nat.le_refl _), h3]
  rw [e, red_list _ (hL.col false).1 (hL.col false).2 _ _ (Nat.le_refl _) (by rw [h4]; exact hne), h4]
def fwdU : List UInt8 := [91, 70, 87, 68, 58, 32]
theorem lists_3 (l : List UInt8) (hl : NoBr l) : (red (plain (fwdU ++ l ++ [93]))).1 = (red (plain l)).1 := by
  have e : plain (fwdU ++ l ++ [93]) = 91 :: [70, 87, 68, 58] ++ (32 :: col true (repairL l)) ++ [93] := by
    have e1 : repairL (fwdU ++ l ++ [93]) = fwdU ++ (repairL l ++ [93]) := by
      rw [List.append_assoc, repair_pre fwdU _ (by decide), repair_app l (asc_cons (by decide)), repair_asc (by decide)]; rfl
    unfold plain
    rw [e1]
    show 91 :: 70 :: 87 :: 68 :: 58 :: 32 :: col true (repairL l ++ [93]) = _
    rw [col_app]
    show 91 :: 70 :: 87 :: 68 :: 58 :: 32 :: (col true (repairL l) ++ [93]) = _
    simp
  have hn := hl.col true
  rw [e, red_whole [70, 87, 68, 58] _ (by decide) (by decide) (by decide) (by simpa using hn.1) (by simpa using hn.2), red_plain_sp]
  rfl
def fwdD : List UInt8 := [91, 102, 119, 100, 58]
def endS : List UInt8 := [32, 93, 32]
theorem lists_4 (l : List UInt8) (hl : NoBr l) : (red (plain (fwdD ++ l ++ endS))).2 = true := by
  have e : plain (fwdD ++ l ++ endS) = 91 :: [102, 119, 100, 58] ++ (col false (repairL l ++ [32])) ++ [93] ++ [32] := by
    have e1 : repairL (fwdD ++ l ++ endS) = fwdD ++ ((repairL l ++ [32]) ++ [93, 32]) := by
      rw [List.append_assoc, repair_pre fwdD _ (by decide), repair_app l (x := endS) (asc_cons (by decide)), show repairL endS = endS by decide, List.append_assoc]; rfl
    unfold plain
    rw [e1]
    show 91 :: 102 :: 119 :: 100 :: 58 :: col false ((repairL l ++ [32]) ++ [93, 32]) = _
    rw [col_app]
    show 91 :: 102 :: 119 :: 100 :: 58 :: (col false (repairL l ++ [32]) ++ [93, 32]) = _
    simp
  have hm : ∀ c : UInt8, c ≠ 32 → c ∉ col false (repairL l) → c ∉ col false (repairL l ++ [32]) := by
    intro c hc h h2
    rw [col_app] at h2
    rcases List.mem_append.1 h2 with h2 | h2
    · exact h h2
    · rcases mem_col _ _ _ h2 with h3 | h3
      · simp at h3; exact hc h3
      · exact hc h3
  have hn := hl.col false
  rw [e, red_sp, red_whole [102, 119, 100, 58] _ (by decide) (by decide) (by decide) (hm _ (by decide) hn.1) (hm _ (by decide) hn.2)]
/-! SubjectPlain -/
def NoMk (l : List UInt8) : Prop := (58 : UInt8) ∉ l ∧ (91 : UInt8) ∉ l ∧ (41 : UInt8) ∉ l
theorem plain_law (l : List UInt8) (h : NoMk l) : red (plain l) = (trim2 (plain l), false) :=
  red_plain _ (not_colR h.2.1 (by decide) (by decide)) (not_colR h.1 (by decide) (by decide)) (not_colR h.2.2 (by decide) (by decide))
theorem lowc_keeps : Keeps lowc where
  one c := all_u8 (fun c => (lowc c = 32 ↔ c = 32) ∧ (lowc c = 91 ↔ c = 91) ∧ (lowc c = 93 ↔ c = 93) ∧ (lowc c = 58 ↔ c = 58)) (by decide +kernel) c
  low c := all_u8 (fun c => ∀ m ∈ ([40, 41, 58, 91, 114, 101, 102, 119, 100] : List UInt8), (lowc (lowc c) = m ↔ lowc c = m)) (by decide +kernel) c
theorem lowc_asc (c : UInt8) : (lowc c).toNat < 128 ↔ c.toNat < 128 := all_u8 (fun c => (lowc c).toNat < 128 ↔ c.toNat < 128) (by decide +kernel) c
theorem lowc_high (c : UInt8) : 128 ≤ c.toNat → lowc c = c := all_u8 (fun c => 128 ≤ c.toNat → lowc c = c) (by decide +kernel) c
theorem lowc_blk (c : UInt8) : blk (lowc c) = blk c := all_u8 (fun c => blk (lowc c) = blk c) (by decide +kernel) c
theorem lowc_blk_eq (c : UInt8) : blk c = true → lowc c = c := all_u8 (fun c => blk c = true → lowc c = c) (by decide +kernel) c
theorem lowc_64 (c : UInt8) : ((lowc c).toNat / 64 == 2) = (c.toNat / 64 == 2) := all_u8 (fun c => ((lowc c).toNat / 64 == 2) = (c.toNat / 64 == 2)) (by decide +kernel) c
theorem lowc_rune (c : UInt8) : c.toNat < 128 → lowI (c.toNat : Int) = ((lowc c).toNat : Int) := all_u8 (fun c => c.toNat < 128 → lowI (c.toNat : Int) = ((lowc c).toNat : Int)) (by decide +kernel) c
theorem lowc_lowc (c : UInt8) : lowc (lowc c) = lowc c := all_u8 (fun c => lowc (lowc c) = lowc c) (by decide +kernel) c
theorem at_map (l : List UInt8) (k : Nat) : at' (l.map lowc) k = (lowc (l.getD k 0)).toNat := by
  unfold at'
  rw [List.getD_eq_getElem?_getD, List.getD_eq_getElem?_getD, List.getElem?_map]
  cases l[k]? with
  | none => rfl
  | some c => rfl
theorem cont_map (l : List UInt8) (k : Nat) : cont (l.map lowc) k = cont l k := by
  unfold cont
  rw [List.length_map, at_map, lowc_64]
  rfl
theorem at_cont (l : List UInt8) (k : Nat) (h : cont l k = true) : at' (l.map lowc) k = at' l k := by
  unfold cont at h
  simp only [Bool.and_eq_true, decide_eq_true_eq, beq_iff_eq] at h
  rw [at_map]
  have : 128 ≤ (l.getD k 0).toNat := by have h2 := h.2; unfold at' at h2; omega
  rw [lowc_high _ this]; rfl
theorem dec_low (l : List UInt8) (h : 128 ≤ at' l 0) : dec (l.map lowc) = dec l := by
  have h0 : at' (l.map lowc) 0 = at' l 0 := by rw [at_map, lowc_high _ h]; rfl
  rw [dec_F, dec_F, h0, cont_map, cont_map, cont_map]
  cases h1 : cont l 1 with
  | false => exact decF_1 _ _ _ _ _ _ _ _ _ _ _
  | true =>
    rw [at_cont l 1 h1]
    cases h2 : cont l 2 with
    | false => exact decF_2 _ _ _ _ _ _ _ _ _
    | true =>
      rw [at_cont l 2 h2]
      cases h3 : cont l 3 with
      | false => exact decF_3 _ _ _ _ _ _ _
      | true => rw [at_cont l 3 h3]
theorem map_take_high {l : List UInt8} {n : Nat} (h : ∀ c ∈ l.take n, 128 ≤ c.toNat) : (l.map lowc).take n = l.take n := by
  rw [← List.map_take]
  exact (List.map_congr_left fun c hc => lowc_high c (h c hc)).trans (List.map_id _)
theorem enc_high (n : Nat) (hs : Sca n) (h : 128 ≤ n) : ∀ c ∈ Lib.encodeRune (n : Int), 128 ≤ c.toNat := by
  unfold Sca at hs
  by_cases h2 : n < 2048
  · rw [enc_two n h h2]; intro c hc; simp only [List.mem_cons, List.not_mem_nil, or_false] at hc
    rcases hc with rfl | rfl <;> rw [UInt8.toNat_ofNat'] <;> omega
  · by_cases h3 : n < 65536
    · rw [enc_three n (by omega)]; intro c hc; simp only [List.mem_cons, List.not_mem_nil, or_false] at hc
      rcases hc with rfl | rfl | rfl <;> rw [UInt8.toNat_ofNat'] <;> omega
    · rw [enc_four n (by omega) (by omega)]; intro c hc; simp only [List.mem_cons, List.not_mem_nil, or_false] at hc
      rcases hc with rfl | rfl | rfl | rfl <;> rw [UInt8.toNat_ofNat'] <;> omega
theorem take_at0 {l : List UInt8} {n w : Nat} (h2 : [UInt8.ofNat n] = l.take w) (hw : 1 ≤ w) : at' l 0 = n % 256 := by
  cases l with
  | nil => simp at h2
  | cons a r =>
    obtain ⟨v, rfl⟩ : ∃ v, w = v + 1 := ⟨w - 1, by omega⟩
    rw [List.take_succ_cons] at h2
    injection h2 with h3 _
    rw [at_cons0, ← h3, UInt8.toNat_ofNat']
theorem dec_high {l : List UInt8} (hl : l ≠ []) (h : 128 ≤ at' l 0) : 128 ≤ (dec l).1 := by
  by_cases ho : Okay l
  · obtain ⟨h1, h2⟩ := enc_dec l hl ho
    rcases Nat.lt_or_ge (dec l).1 128 with h3 | h3
    · rw [enc_one _ h3] at h2
      have hw := (dec_width l hl).1
      have := take_at0 h2 hw
      omega
    · exact h3
  · rw [dec_bad l ho]; decide
theorem drop_map (l : List UInt8) (n : Nat) : (l.map lowc).drop n = (l.drop n).map lowc := by rw [List.map_drop]
theorem repair_low : ∀ (n : Nat) (l : List UInt8), l.length ≤ n → repairL (l.map lowc) = (repairL l).map lowc := by
  intro n
  induction n with
  | zero => intro l h; have : l = [] := List.eq_nil_of_length_eq_zero (by omega); subst this; rfl
  | succ n ih =>
    intro l h
    cases l with
    | nil => rfl
    | cons a r =>
      by_cases ha : a.toNat < 128
      · rw [List.map_cons, repair_asc ((lowc_asc a).2 ha), repair_asc ha, List.map_cons, ih r (by simp at h; omega)]
      · have hd := dec_low (a :: r) (by rw [at_cons0]; omega)
        have hw := dec_width (a :: r) (by simp)
        have hh := dec_high (l := a :: r) (by simp) (by rw [at_cons0]; omega)
        have hr := dec_rune (a :: r) (by simp)
        unfold repairL
        rw [walk_cons _ _ (by simp), walk_cons _ (a :: r) (by simp), hd, drop_map]
        have e1 : encH ((a :: r).map lowc) = encH (a :: r) := by unfold encH; rw [hd]
        have e2 : (encH (a :: r)).map lowc = encH (a :: r) := (List.map_congr_left fun c hc => lowc_high c (enc_high _ hr hh c hc)).trans (List.map_id _)
        rw [e1, List.map_append, e2]
        congr 1
        exact ih _ (by rw [List.length_drop]; omega)
theorem col_low : ∀ (l : List UInt8) (b : Bool), col b (l.map lowc) = (col b l).map lowc
  | [], _ => rfl
  | c :: r, b => by
    rw [List.map_cons, col_cons, col_cons, lowc_blk]
    cases hb : blk c with
    | true =>
      rw [if_pos rfl, if_pos rfl]
      cases b
      · rw [if_neg (by decide), if_neg (by decide), List.map_cons, col_low r true]; rfl
      · rw [if_pos rfl, if_pos rfl, col_low r true]
    | false => rw [if_neg (by decide), if_neg (by decide), List.map_cons, col_low r false]
theorem plain_low (l : List UInt8) : plain (l.map lowc) = (plain l).map lowc := by
  unfold plain
  rw [repair_low _ l (Nat.le_refl _), col_low]
theorem fold_low : ∀ (n : Nat) (l : List UInt8), l.length ≤ n → foldL (l.map lowc) = foldL l := by
  intro n
  induction n with
  | zero => intro l h; have : l = [] := List.eq_nil_of_length_eq_zero (by omega); subst this; rfl
  | succ n ih =>
    intro l h
    cases l with
    | nil => rfl
    | cons a r =>
      unfold foldL
      rw [walk_cons _ _ (by simp), walk_cons _ (a :: r) (by simp)]
      by_cases ha : a.toNat < 128
      · have hb := (lowc_asc a).2 ha
        rw [List.map_cons, dec_asc hb, dec_asc ha]
        have e : foldH (lowc a :: r.map lowc) = foldH (a :: r) := by
          rw [foldH_ok (l := lowc a :: r.map lowc) (.inl (by rw [at_cons0]; exact hb)), foldH_ok (l := a :: r) (.inl (by rw [at_cons0]; exact ha)), dec_asc hb, dec_asc ha]
          show Lib.encodeRune (lowI ((lowc a).toNat : Int)) = Lib.encodeRune (lowI (a.toNat : Int))
          rw [lowc_rune _ hb, lowc_rune _ ha, lowc_lowc]
        rw [e]
        congr 1
        exact ih r (by simp at h; omega)
      · have h0 : 128 ≤ at' (a :: r) 0 := by rw [at_cons0]; omega
        have hd := dec_low (a :: r) h0
        have hw := dec_width (a :: r) (by simp)
        have ho : Okay ((a :: r).map lowc) ↔ Okay (a :: r) := by
          unfold Okay
          rw [hd, at_map, lowc_high _ h0]; rfl
        have hla : lowc a = a := lowc_high a (by omega)
        have e : foldH ((a :: r).map lowc) = foldH (a :: r) := by
          unfold foldH
          by_cases h1 : Okay (a :: r)
          · rw [if_pos h1, if_pos (ho.2 h1), hd]
          · rw [if_neg h1, if_neg (fun x => h1 (ho.1 x)), List.map_cons, hla]; rfl
        rw [e, hd, drop_map]
        congr 1
        exact ih _ (by rw [List.length_drop]; omega)
theorem trim2_low (l : List UInt8) : trim2 (l.map lowc) = (trim2 l).map lowc := by
  unfold trim2 trimR
  rw [free_map lowc_keeps, ← List.map_reverse]
  have := free_map lowc_keeps (free l).reverse
  unfold free at this ⊢
  rw [this, List.map_reverse]
theorem noMk_low {l : List UInt8} (h : NoMk l) : NoMk (l.map lowc) := by
  have hx : ∀ c m : UInt8, (m = 58 ∨ m = 91 ∨ m = 41) → lowc c = m → c = m := by
    intro c m hm e
    rcases hm with rfl | rfl | rfl
    · exact ((lowc_keeps.one c).2.2.2).1 e
    · exact lowc_91 c e
    · exact lowc_41 c e
  have hy : ∀ m : UInt8, (m = 58 ∨ m = 91 ∨ m = 41) → m ∉ l → m ∉ l.map lowc := by
    intro m hm h h2
    obtain ⟨c, hc, e⟩ := List.mem_map.1 h2
    have := hx c m hm e
    subst this
    exact h hc
  exact ⟨hy _ (by simp) h.1, hy _ (by simp) h.2.1, hy _ (by simp) h.2.2⟩
theorem small_law (l : List UInt8) (h : NoMk l) : foldL (red (plain (l.map lowc))).1 = foldL (red (plain l)).1 := by
  rw [plain_law _ (noMk_low h), plain_law l h, plain_low, trim2_low]
  exact fold_low _ _ (Nat.le_refl _)
end Su
