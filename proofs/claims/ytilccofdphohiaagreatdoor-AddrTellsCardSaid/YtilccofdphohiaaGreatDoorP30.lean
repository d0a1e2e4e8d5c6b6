/- Plain: strings cut at an ASCII byte; blanks; base subjects under a map of bytes. Plain: base subjects: what stands ahead of a subject and behind it. Plain: the laws of base subjects: the name of a list ahead, a subject without marks, replies and forwards. Plain: the laws of base subjects: replies and forwards; a base subject's own base subject. Plain: a base subject's own base subject is itself. Plain: a base subject is valid UTF-8; the number of a style. -/
import Derived.Test.YtilccofdphohiaaGreatDoorSubPP
import Derived.Test.YtilccofdphohiaaGreatDoorFolP
import Derived.Lib.ValidLaws
import Derived.Laws.BitsLemmas
namespace Su
open Go Pk U8 Fo

theorem all_u8 (p : UInt8 → Prop) (h : ∀ n : Nat, n < 256 → p (UInt8.ofNat n)) (c : UInt8) : p c := by
  have := h c.toNat (UInt8.toNat_lt c)
  rwa [show UInt8.ofNat c.toNat = c by simp] at this
/-- the string is empty or begins with an ASCII byte -/
def Asc (x : List UInt8) : Prop := x = [] ∨ ∃ c r, x = c :: r ∧ c.toNat < 128
theorem asc_nil : Asc [] := .inl rfl
theorem asc_cons {c : UInt8} {r : List UInt8} (h : c.toNat < 128) : Asc (c :: r) := .inr ⟨c, r, rfl, h⟩
theorem asc_cont {x : List UInt8} (h : Asc x) : cont x 0 = false := by
  rcases h with rfl | ⟨c, r, rfl, hc⟩
  · rfl
  · rw [cont_zero]; simp; omega
def decF (a0 a1 a2 a3 : Nat) (c1 c2 c3 : Bool) : Nat × Nat :=
  if a0 < 0x80 then (a0, 1)
  else if (a0 / 32 == 6 && c1) = true then
    if a0 % 32 * 64 + a1 % 64 ≥ 0x80 then (a0 % 32 * 64 + a1 % 64, 2) else (65533, 1)
  else if (a0 / 16 == 14 && c1 && c2) = true then
    if (decide (a0 % 16 * 4096 + a1 % 64 * 64 + a2 % 64 ≥ 0x800) && Utf8.valid ((a0 % 16 * 4096 + a1 % 64 * 64 + a2 % 64 : Nat) : Int)) = true then (a0 % 16 * 4096 + a1 % 64 * 64 + a2 % 64, 3) else (65533, 1)
  else if (a0 / 8 == 30 && c1 && c2 && c3) = true then
    if (decide (a0 % 8 * 262144 + a1 % 64 * 4096 + a2 % 64 * 64 + a3 % 64 ≥ 0x10000) && Utf8.valid ((a0 % 8 * 262144 + a1 % 64 * 4096 + a2 % 64 * 64 + a3 % 64 : Nat) : Int)) = true then (a0 % 8 * 262144 + a1 % 64 * 4096 + a2 % 64 * 64 + a3 % 64, 4) else (65533, 1)
  else (65533, 1)
theorem dec_F (l : List UInt8) : dec l = decF (at' l 0) (at' l 1) (at' l 2) (at' l 3) (cont l 1) (cont l 2) (cont l 3) := rfl
theorem decF_1 (a0 a1 a2 a3 b1 b2 b3 : Nat) (c2 c3 d2 d3 : Bool) : decF a0 a1 a2 a3 false c2 c3 = decF a0 b1 b2 b3 false d2 d3 := by
  unfold decF
  have e : ∀ x y z : Bool, ¬ ((x && false) = true) ∧ ¬ ((x && false && y) = true) ∧ ¬ ((x && false && y && z) = true) := by decide
  split
  · rfl
  · rw [if_neg (e _ c2 c3).1, if_neg (e _ c2 c3).2.1, if_neg (e _ c2 c3).2.2, if_neg (e _ d2 d3).1, if_neg (e _ d2 d3).2.1, if_neg (e _ d2 d3).2.2]
theorem decF_2 (a0 a1 a2 a3 b2 b3 : Nat) (c1 c3 d3 : Bool) : decF a0 a1 a2 a3 c1 false c3 = decF a0 a1 b2 b3 c1 false d3 := by
  unfold decF
  have e : ∀ x y z : Bool, ¬ ((x && y && false) = true) ∧ ¬ ((x && y && false && z) = true) := by decide
  split
  · rfl
  · split
    · rfl
    · rw [if_neg (e _ c1 c3).1, if_neg (e _ c1 c3).2, if_neg (e _ c1 d3).1, if_neg (e _ c1 d3).2]
theorem decF_3 (a0 a1 a2 a3 b3 : Nat) (c1 c2 : Bool) : decF a0 a1 a2 a3 c1 c2 false = decF a0 a1 a2 b3 c1 c2 false := by
  unfold decF
  have e : ∀ x y z : Bool, ¬ ((x && y && z && false) = true) := by decide
  split
  · rfl
  · split
    · rfl
    · split
      · rfl
      · rw [if_neg (e _ c1 c2), if_neg (e _ c1 c2)]
theorem dec_app {l x : List UInt8} (hl : l ≠ []) (hx : Asc x) : dec (l ++ x) = dec l := by
  have h0 := asc_cont hx
  have n0 := cont_nil 0
  rcases l with _ | ⟨a, _ | ⟨b, _ | ⟨c, _ | ⟨d, r⟩⟩⟩⟩
  · exact absurd rfl hl
  · rw [dec_F, dec_F]
    have e1 : cont ([a] ++ x) 1 = false := by rw [List.cons_append, List.nil_append, cont_cons]; exact h0
    have e2 : cont [a] 1 = false := by rw [cont_cons]; exact n0
    rw [e1, e2]
    exact decF_1 _ _ _ _ _ _ _ _ _ _ _
  · rw [dec_F, dec_F]
    have e1 : cont ([a, b] ++ x) 2 = false := by rw [List.cons_append, List.cons_append, List.nil_append, cont_cons, cont_cons]; exact h0
    have e2 : cont [a, b] 2 = false := by rw [cont_cons, cont_cons]; exact n0
    have e3 : cont ([a, b] ++ x) 1 = cont [a, b] 1 := by rw [List.cons_append, List.cons_append, List.nil_append, cont_cons, cont_cons, cont_zero, cont_zero]
    rw [e1, e2, e3]
    exact decF_2 _ _ _ _ _ _ _ _ _
  · rw [dec_F, dec_F]
    have e1 : cont ([a, b, c] ++ x) 3 = false := by rw [List.cons_append, List.cons_append, List.cons_append, List.nil_append, cont_cons, cont_cons, cont_cons]; exact h0
    have e2 : cont [a, b, c] 3 = false := by rw [cont_cons, cont_cons, cont_cons]; exact n0
    have e3 : cont ([a, b, c] ++ x) 1 = cont [a, b, c] 1 := by rw [List.cons_append, List.cons_append, List.cons_append, List.nil_append, cont_cons, cont_cons, cont_zero, cont_zero]
    have e4 : cont ([a, b, c] ++ x) 2 = cont [a, b, c] 2 := by rw [List.cons_append, List.cons_append, List.cons_append, List.nil_append, cont_cons, cont_cons, cont_cons, cont_cons, cont_zero, cont_zero]
    rw [e1, e2, e3, e4]
    exact decF_3 _ _ _ _ _ _ _
  · rw [dec_F, dec_F]
    simp only [List.cons_append, at_cons0, at_cons, cont_cons, cont_zero]
theorem walk_app {α : Type} (g : List UInt8 → List α) (hg : ∀ l x, l ≠ [] → Asc x → g (l ++ x) = g l) (x : List UInt8) (hx : Asc x) : ∀ (n : Nat) (l : List UInt8), l.length ≤ n → walk g (l ++ x) = walk g l ++ walk g x := by
  intro n
  induction n with
  | zero => intro l h; have : l = [] := List.eq_nil_of_length_eq_zero (by omega); subst this; rw [walk_nil]; rfl
  | succ n ih =>
    intro l h
    by_cases he : l = []
    · subst he; rw [walk_nil]; rfl
    · have hw := dec_width l he
      rw [walk_cons g (l ++ x) (by simp [he]), walk_cons g l he, hg l x he hx, dec_app he hx, List.drop_append_of_le_length (by omega), ih _ (by rw [List.length_drop]; omega), List.append_assoc]
theorem encH_app {l x : List UInt8} (hl : l ≠ []) (hx : Asc x) : encH (l ++ x) = encH l := by unfold encH; rw [dec_app hl hx]
theorem repair_app (l : List UInt8) {x : List UInt8} (hx : Asc x) : repairL (l ++ x) = repairL l ++ repairL x :=
  walk_app encH (fun _ _ a b => encH_app a b) x hx _ l (Nat.le_refl _)
theorem dec_asc {c : UInt8} (h : c.toNat < 128) (r : List UInt8) : dec (c :: r) = (c.toNat, 1) := by
  unfold dec; rw [if_pos (by rw [at_cons0]; omega)]; rfl
theorem repair_asc {c : UInt8} (h : c.toNat < 128) (r : List UInt8) : repairL (c :: r) = c :: repairL r := by
  unfold repairL
  rw [walk_cons _ _ (by simp), dec_asc h]
  unfold encH
  rw [dec_asc h, enc_one _ h]
  simp
theorem repair_pre : ∀ (p x : List UInt8), (∀ c ∈ p, c.toNat < 128) → repairL (p ++ x) = p ++ repairL x
  | [], _, _ => rfl
  | c :: p, x, h => by
    rw [List.cons_append, repair_asc (h c (by simp)), repair_pre p x (fun d hd => h d (by simp [hd]))]
    rfl
theorem repair_nil : repairL [] = [] := rfl
/-! blanks -/
/-- does a blank stand last? -/
def cs : Bool → List UInt8 → Bool
  | b, [] => b
  | _, c :: r => cs (blk c) r
theorem col_cons (b : Bool) (c : UInt8) (r : List UInt8) : col b (c :: r) = if blk c = true then (if b = true then col true r else 32 :: col true r) else c :: col false r := rfl
theorem col_app : ∀ (l x : List UInt8) (b : Bool), col b (l ++ x) = col b l ++ col (cs b l) x
  | [], _, _ => rfl
  | c :: r, x, b => by
    rw [List.cons_append, cs, col_cons, col_cons]
    cases hb : blk c with
    | true =>
      rw [if_pos rfl, if_pos rfl, col_app r x true]
      cases b
      · rw [if_neg (by decide), if_neg (by decide), List.cons_append]
      · rw [if_pos rfl, if_pos rfl]
    | false => rw [if_neg (by decide), if_neg (by decide), col_app r x false, List.cons_append]
theorem col_state (l : List UInt8) : ∀ b, col b l = col false l ∨ 32 :: col b l = col false l := by
  intro b
  cases b with
  | false => exact .inl rfl
  | true =>
    cases l with
    | nil => exact .inl rfl
    | cons c r =>
      unfold col
      cases hb : blk c with
      | true => exact .inr rfl
      | false => exact .inl rfl
/-- the space ahead of what is said of a string -/
theorem free_col (l : List UInt8) : free (32 :: col true l) = free (col false l) := by
  rw [free_cons, if_pos rfl]
  rcases col_state l true with h | h
  · rw [h]
  · rw [← h, free_cons, if_pos rfl]
theorem plain_pre (p x : List UInt8) (h : ∀ c ∈ p, c.toNat < 128) : plain (p ++ x) = col false p ++ col (cs false p) (repairL x) := by
  unfold plain
  rw [repair_pre p x h, col_app]
theorem plain_app (l : List UInt8) {x : List UInt8} (hx : Asc x) : plain (l ++ x) = plain l ++ col (cs false (repairL l)) (repairL x) := by
  unfold plain
  rw [repair_app l hx, col_app]
theorem mem_encH {l : List UInt8} {b : UInt8} (hl : l ≠ []) (h : b ∈ encH l) : b ∈ l ∨ 128 ≤ b.toNat := by
  unfold encH at h
  by_cases ho : Okay l
  · rw [(enc_dec l hl ho).2] at h
    exact .inl (List.mem_of_mem_take h)
  · rw [dec_bad l ho] at h
    have h' : b ∈ bad3 := h
    unfold bad3 at h'
    simp at h'
    rcases h' with rfl | rfl | rfl <;> exact .inr (by decide)
theorem mem_repair : ∀ (n : Nat) (l : List UInt8), l.length ≤ n → ∀ b ∈ repairL l, b ∈ l ∨ 128 ≤ b.toNat := by
  intro n
  induction n with
  | zero => intro l h; have : l = [] := List.eq_nil_of_length_eq_zero (by omega); subst this; intro b hb; cases hb
  | succ n ih =>
    intro l h b hb
    by_cases he : l = []
    · subst he; cases hb
    · have hw := dec_width l he
      unfold repairL at hb
      rw [walk_cons _ l he] at hb
      rcases List.mem_append.1 hb with hb | hb
      · exact mem_encH he hb
      · rcases ih (l.drop (dec l).2) (by rw [List.length_drop]; omega) b hb with h1 | h1
        · exact .inl (List.mem_of_mem_drop h1)
        · exact .inr h1
theorem mem_col : ∀ (l : List UInt8) (x : Bool) (b : UInt8), b ∈ col x l → b ∈ l ∨ b = 32
  | [], _, _, h => by cases h
  | c :: r, x, b, h => by
    unfold col at h
    split at h
    · split at h
      · rcases mem_col r true b h with h | h
        · exact .inl (by simp [h])
        · exact .inr h
      · rcases List.mem_cons.1 h with h | h
        · exact .inr h
        · rcases mem_col r true b h with h | h
          · exact .inl (by simp [h])
          · exact .inr h
    · rcases List.mem_cons.1 h with h | h
      · exact .inl (by simp [h])
      · rcases mem_col r false b h with h | h
        · exact .inl (by simp [h])
        · exact .inr h
theorem mem_colR {l : List UInt8} {x : Bool} {b : UInt8} (h : b ∈ col x (repairL l)) : b ∈ l ∨ b = 32 ∨ 128 ≤ b.toNat := by
  rcases mem_col _ _ _ h with h | h
  · rcases mem_repair _ l (Nat.le_refl _) b h with h | h
    · exact .inl h
    · exact .inr (.inr h)
  · exact .inr (.inl h)
theorem mem_plain {l : List UInt8} {b : UInt8} (h : b ∈ plain l) : b ∈ l ∨ b = 32 ∨ 128 ≤ b.toNat := mem_colR h
theorem not_colR {l : List UInt8} {x : Bool} {b : UInt8} (h : b ∉ l) (h1 : b ≠ 32) (h2 : b.toNat < 128) : b ∉ col x (repairL l) := by
  intro hb
  rcases mem_colR hb with h' | h' | h'
  · exact h h'
  · exact h1 h'
  · omega
/-! the steps under a map of bytes that keeps the marks -/
structure Keeps (f : UInt8 → UInt8) : Prop where
  one : ∀ c : UInt8, (f c = 32 ↔ c = 32) ∧ (f c = 91 ↔ c = 91) ∧ (f c = 93 ↔ c = 93) ∧ (f c = 58 ↔ c = 58)
  low : ∀ c : UInt8, ∀ m ∈ ([40, 41, 58, 91, 114, 101, 102, 119, 100] : List UInt8), (lowc (f c) = m ↔ lowc c = m)
variable {f : UInt8 → UInt8}
theorem free_map (hf : Keeps f) : ∀ l : List UInt8, free (l.map f) = (free l).map f
  | [] => rfl
  | c :: r => by
    rw [List.map_cons, free_cons, free_cons]
    by_cases h : c = 32
    · rw [if_pos h, if_pos ((hf.one c).1.2 h)]; exact free_map hf r
    · rw [if_neg h, if_neg (fun e => h ((hf.one c).1.1 e))]; rfl
theorem blobIn_map (hf : Keeps f) : ∀ l : List UInt8, blobIn (l.map f) = (blobIn l).map (List.map f)
  | [] => rfl
  | c :: r => by
    rw [List.map_cons]
    unfold blobIn
    by_cases h : c = 93
    · rw [if_pos h, if_pos ((hf.one c).2.2.1.2 h), free_map hf]; rfl
    · rw [if_neg h, if_neg (fun e => h ((hf.one c).2.2.1.1 e))]
      by_cases h2 : c = 91
      · rw [if_pos h2, if_pos ((hf.one c).2.1.2 h2)]; rfl
      · rw [if_neg h2, if_neg (fun e => h2 ((hf.one c).2.1.1 e))]; exact blobIn_map hf r
theorem blob_map (hf : Keeps f) (l : List UInt8) : blob (l.map f) = (blob l).map (List.map f) := by
  cases l with
  | nil => rfl
  | cons c r =>
    show (if f c = 91 then blobIn (r.map f) else none) = Option.map (List.map f) (if c = 91 then blobIn r else none)
    by_cases h2 : c = 91
    · rw [if_pos h2, if_pos ((hf.one c).2.1.2 h2)]; exact blobIn_map hf r
    · rw [if_neg h2, if_neg (fun e => h2 ((hf.one c).2.1.1 e))]; rfl
theorem skip_map (hf : Keeps f) : ∀ (n : Nat) (l : List UInt8), l.length ≤ n → skip (l.map f) = (skip l).map f := by
  intro n
  induction n with
  | zero => intro l h; have : l = [] := List.eq_nil_of_length_eq_zero (by omega); subst this; rfl
  | succ n ih =>
    intro l h
    have e := blob_map hf l
    cases hb : blob l with
    | none => rw [hb] at e; rw [skip_none hb, skip_none e]
    | some u =>
      rw [hb] at e
      have := blob_lt l u hb
      rw [skip_some hb, skip_some e]
      exact ih u (by omega)
theorem low_map (hf : Keeps f) : ∀ (m l : List UInt8), (∀ c ∈ m, c ∈ ([40, 41, 58, 91, 114, 101, 102, 119, 100] : List UInt8)) → (((l.map f).map lowc = m) ↔ (l.map lowc = m))
  | [], l, _ => by cases l <;> simp
  | c :: m, [], _ => by simp
  | c :: m, a :: l, h => by
    have := low_map hf m l (fun d hd => h d (by simp [hd]))
    simp only [List.map_cons, List.cons.injEq]
    rw [this, hf.low a c (h c (by simp))]
theorem st_map (hf : Keeps f) (m l : List UInt8) (hm : ∀ c ∈ m, c ∈ ([40, 41, 58, 91, 114, 101, 102, 119, 100] : List UInt8)) : st m (l.map f) = (st m l).map (List.map f) := by
  unfold st
  rw [← List.map_take]
  by_cases h : (l.take m.length).map lowc = m
  · rw [if_pos h, if_pos ((low_map hf _ _ hm).2 h), ← List.map_drop]; rfl
  · rw [if_neg h, if_neg (fun e => h ((low_map hf _ _ hm).1 e))]; rfl
theorem tryMark_map (hf : Keeps f) (m l : List UInt8) (hm : ∀ c ∈ m, c ∈ ([40, 41, 58, 91, 114, 101, 102, 119, 100] : List UInt8)) : tryMark m (l.map f) = (tryMark m l).map (List.map f) := by
  unfold tryMark
  rw [st_map hf m l hm]
  cases st m l with
  | none => rfl
  | some r =>
    simp only [Option.map_some]
    rw [free_map hf, blob_map hf]
    have e : ((blob (free r)).map (List.map f)).getD ((free r).map f) = ((blob (free r)).getD (free r)).map f := by cases blob (free r) <;> rfl
    rw [e]
    cases (blob (free r)).getD (free r) with
    | nil => rfl
    | cons c q =>
      by_cases h : c = 58
      · have := (hf.one c).2.2.2.2 h
        rw [List.map_cons, this, h]
        simp only [Option.map_some]
        rw [free_map hf]
      · have h2 : f c ≠ 58 := fun e => h ((hf.one c).2.2.2.1 e)
        rw [List.map_cons]
        split
        · rename_i q' hq
          simp only [List.cons.injEq] at hq
          exact absurd hq.1 h2
        · split
          · rename_i q' hq
            simp only [List.cons.injEq] at hq
            exact absurd hq.1 h
          · rfl
theorem answer_map (hf : Keeps f) (l : List UInt8) : answer (l.map f) = (answer l).map (List.map f) := by
  unfold answer
  rw [skip_map hf _ l (Nat.le_refl _), tryMark_map hf re _ (by decide), tryMark_map hf fwd _ (by decide), tryMark_map hf fw _ (by decide)]
  cases tryMark re (skip l) with
  | some t => rfl
  | none =>
    cases tryMark fwd (skip l) with
    | some t => rfl
    | none => rfl
theorem endsF_map (hf : Keeps f) (l : List UInt8) : endsF (l.map f) = endsF l := by
  unfold endsF
  rw [List.length_map, ← List.map_drop]
  congr 1
  rw [Bool.eq_iff_iff, beq_iff_eq, beq_iff_eq]
  exact low_map hf _ _ (by decide)
theorem last_map (l : List UInt8) : (l.map f).getLast? = (l.getLast?).map f := by simp
theorem wrap_map (hf : Keeps f) (l : List UInt8) : wrap (l.map f) = (wrap l).map (List.map f) := by
  unfold wrap
  rw [st_map hf fwdB l (by decide)]
  cases st fwdB l with
  | none => rfl
  | some t =>
    simp only [Option.map_some]
    rw [last_map]
    rcases snoc_cases t with rfl | ⟨r, c, rfl⟩
    · rfl
    · have e1 : (r ++ [c]).getLast? = some c := by simp
      rw [e1]
      by_cases h : c = 93
      · rw [Option.map_some, if_pos (by rw [(hf.one c).2.2.1.2 h]), if_pos (by rw [h])]
        simp
      · rw [Option.map_some, if_neg (by intro e; injection e with e; exact h ((hf.one c).2.2.1.1 e)), if_neg (by intro e; injection e with e; exact h e)]
        rfl
theorem step_map (hf : Keeps f) (l : List UInt8) : stepR (l.map f) = (stepR l).map fun p => (p.1.map f, p.2) := by
  have hl : (l.map f).getLast? = some 32 ↔ l.getLast? = some 32 := by
    rw [last_map]
    cases l.getLast? with
    | none => simp
    | some c => simp only [Option.map_some, Option.some.injEq]; exact (hf.one c).1
  have hh : (l.map f).head? = some 32 ↔ l.head? = some 32 := by
    cases l with
    | nil => simp
    | cons c r => simp only [List.map_cons, List.head?_cons, Option.some.injEq]; exact (hf.one c).1
  unfold stepR
  by_cases h1 : l.getLast? = some 32
  · rw [if_pos h1, if_pos (hl.2 h1)]; simp
  · rw [if_neg h1, if_neg (fun e => h1 (hl.1 e)), endsF_map hf]
    by_cases h2 : endsF l = true
    · rw [if_pos h2, if_pos h2]; simp
    · rw [if_neg h2, if_neg h2]
      by_cases h3 : l.head? = some 32
      · rw [if_pos h3, if_pos (hh.2 h3)]; simp
      · rw [if_neg h3, if_neg (fun e => h3 (hh.1 e)), answer_map hf, blob_map hf, wrap_map hf]
        cases answer l with
        | some t => rfl
        | none =>
          simp only [Option.map_none]
          cases blob l with
          | none => simp only [Option.map_none]; cases wrap l <;> rfl
          | some t =>
            simp only [Option.map_some]
            by_cases h4 : t = []
            · rw [if_pos h4, if_pos (by rw [h4]; rfl)]; cases wrap l <;> rfl
            · rw [if_neg h4, if_neg (by simpa using h4)]; rfl
end Su
namespace Su
open Go Pk U8 Fo

theorem red_sp (l : List UInt8) : red (l ++ [32]) = red l := by
  have hs : stepR (l ++ [32]) = some (l, false) := by unfold stepR; rw [if_pos (by simp)]; simp
  rw [red_some hs, Bool.false_or]
theorem endsF_sp (l : List UInt8) : endsF (32 :: l) = endsF l := by
  by_cases h : 5 ≤ l.length
  · exact endsF_cons 32 l h
  · rw [endsF_short l (by omega)]
    by_cases h4 : l.length = 4
    · unfold endsF
      have e : (32 :: l).length - 5 = 0 := by rw [List.length_cons, h4]
      rw [e, List.drop_zero, List.map_cons]
      have : (lowc 32 :: l.map lowc == fwdT) = false := beq_eq_false_iff_ne.2 (by intro e; injection e with e; revert e; decide)
      rw [this, Bool.and_false]
    · exact endsF_short _ (by rw [List.length_cons]; omega)
theorem take_cons5 (c : UInt8) (l : List UInt8) (h : 5 ≤ l.length) : (c :: l).take ((c :: l).length - 5) = c :: l.take (l.length - 5) := by
  rw [List.length_cons, show l.length + 1 - 5 = (l.length - 5) + 1 by omega, List.take_succ_cons]
theorem endsF_len {l : List UInt8} (h : endsF l = true) : 5 ≤ l.length := by
  unfold endsF at h; simp at h; exact h.1
theorem last_snoc_ne {r : List UInt8} {c : UInt8} (h : c ≠ 32) : (r ++ [c]).getLast? ≠ some 32 := by simp [h]
/-- a space ahead -/
theorem red_sp1 : ∀ (n : Nat) (l : List UInt8), l.length ≤ n → red (32 :: l) = red l := by
  intro n
  induction n with
  | zero => intro l h; have : l = [] := List.eq_nil_of_length_eq_zero (by omega); subst this; decide
  | succ n ih =>
    intro l h
    rcases snoc_cases l with rfl | ⟨r, c, rfl⟩
    · decide
    · rw [List.length_append, List.length_singleton] at h
      by_cases hc : c = 32
      · subst hc
        rw [red_sp, ← List.cons_append, red_sp]
        exact ih r (by omega)
      · have h1 : (r ++ [c]).getLast? ≠ some 32 := last_snoc_ne hc
        have h1' : (32 :: (r ++ [c])).getLast? ≠ some 32 := by rw [← List.cons_append]; exact last_snoc_ne hc
        by_cases h2 : endsF (r ++ [c]) = true
        · have h2' : endsF (32 :: (r ++ [c])) = true := by rw [endsF_sp]; exact h2
          have h5 := endsF_len h2
          rw [red_fwd h1 h2, red_fwd h1' h2', take_cons5 _ _ h5, ih _ (by rw [List.length_take, List.length_append, List.length_singleton]; omega)]
        · have hs : stepR (32 :: (r ++ [c])) = some (r ++ [c], false) := by
            unfold stepR; rw [if_neg h1', if_neg (by rw [endsF_sp]; exact h2), if_pos (show (32 :: (r ++ [c])).head? = some 32 from rfl)]; rfl
          rw [red_some hs, Bool.false_or]
theorem red_free' : ∀ l : List UInt8, red (free l) = red l
  | [] => rfl
  | c :: r => by
    rw [free_cons]
    split
    · rename_i hc; subst hc; rw [red_sp1 _ r (Nat.le_refl _)]; exact red_free' r
    · rfl
/-- the end of a prefix -/
theorem endsF_pre (q P : List UInt8) (z : UInt8) (hz : lowc z ∉ fwdT) : endsF (q ++ [z] ++ P) = endsF P := by
  by_cases h : 5 ≤ P.length
  · unfold endsF
    rw [decide_eq_true h, decide_eq_true (show 5 ≤ (q ++ [z] ++ P).length by rw [List.length_append]; omega)]
    have e : (q ++ [z] ++ P).drop ((q ++ [z] ++ P).length - 5) = P.drop (P.length - 5) := by
      rw [List.drop_append]
      rw [List.drop_eq_nil_of_le (by rw [List.length_append (as := q ++ [z])]; omega), List.nil_append]
      congr 1
      rw [List.length_append (as := q ++ [z])]; omega
    rw [e]
  · rw [endsF_short P (by omega)]
    by_cases h5 : 5 ≤ (q ++ [z] ++ P).length
    · have hl : (q ++ [z] ++ P).length = q.length + 1 + P.length := by rw [List.length_append, List.length_append, List.length_singleton]
      unfold endsF
      rw [decide_eq_true h5, Bool.true_and, beq_eq_false_iff_ne]
      intro e
      apply hz
      rw [← e, List.append_assoc, List.drop_append_of_le_length (by rw [← List.append_assoc, hl]; omega)]
      simp
    · exact endsF_short _ (by omega)
theorem free_last : ∀ {l : List UInt8}, l.getLast? ≠ some 32 → (free l).getLast? ≠ some 32
  | [], h => h
  | c :: r, h => by
    rw [free_cons]
    split
    · rename_i hc
      apply free_last
      cases r with
      | nil => simp
      | cons a b => rw [List.getLast?_cons_cons] at h; exact h
    · exact h
theorem endsF_free : ∀ l : List UInt8, endsF (free l) = endsF l
  | [] => rfl
  | c :: r => by
    rw [free_cons]
    split
    · rename_i hc; subst hc; rw [endsF_sp]; exact endsF_free r
    · rfl
theorem free_head (l : List UInt8) : (free l).head? ≠ some 32 := free_eq.1 (free_free l)
/-- the mark of a reply ahead -/
theorem red_pre (q : List UInt8) (z : UInt8) (hz : lowc z ∉ fwdT) (hz2 : z ≠ 32) (hh : (q ++ [z]).head? ≠ some 32) (ha : ∀ P, answer (q ++ [z] ++ P) = some (free P)) :
    ∀ (n : Nat) (P : List UInt8), P.length ≤ n → red (q ++ [z] ++ P) = ((red P).1, true) := by
  intro n
  have hhP : ∀ P : List UInt8, (q ++ [z] ++ P).head? ≠ some 32 := by
    intro P
    rw [List.append_assoc]
    cases q with
    | nil => exact hh
    | cons a q => exact hh
  induction n with
  | zero =>
    intro P h
    have : P = [] := List.eq_nil_of_length_eq_zero (by omega)
    subst this
    rw [red_answer (t := []) (by rw [List.append_nil]; exact last_snoc_ne hz2) (by rw [endsF_pre q [] z hz]; rfl) (hhP []) (ha [])]
    rfl
  | succ n ih =>
    intro P h
    rcases snoc_cases P with rfl | ⟨r, c, rfl⟩
    · exact ih [] (by simp)
    · rw [List.length_append, List.length_singleton] at h
      by_cases hc : c = 32
      · subst hc
        rw [red_sp, ← List.append_assoc, red_sp]
        exact ih r (by omega)
      · have h1 : (r ++ [c]).getLast? ≠ some 32 := last_snoc_ne hc
        have h1' : (q ++ [z] ++ (r ++ [c])).getLast? ≠ some 32 := by rw [← List.append_assoc]; exact last_snoc_ne hc
        by_cases h2 : endsF (r ++ [c]) = true
        · have h2' : endsF (q ++ [z] ++ (r ++ [c])) = true := by rw [endsF_pre q _ z hz]; exact h2
          have h5 := endsF_len h2
          have e : (q ++ [z] ++ (r ++ [c])).take ((q ++ [z] ++ (r ++ [c])).length - 5) = q ++ [z] ++ (r ++ [c]).take ((r ++ [c]).length - 5) := by
            rw [List.take_append, List.take_of_length_le (l := q ++ [z]) (by rw [List.length_append (as := q ++ [z])]; omega)]
            congr 2
            rw [List.length_append (as := q ++ [z])]; omega
          rw [red_fwd h1 h2, red_fwd h1' h2', e, ih _ (by rw [List.length_take, List.length_append, List.length_singleton]; omega)]
          simp
        · have h2' : endsF (q ++ [z] ++ (r ++ [c])) = false := by rw [endsF_pre q _ z hz]; simpa using h2
          rw [red_answer h1' h2' (hhP _) (ha _), red_free', Bool.true_or]
theorem blobIn_app : ∀ (L P : List UInt8), (91 : UInt8) ∉ L → (93 : UInt8) ∉ L → blobIn (L ++ 93 :: P) = some (free P)
  | [], _, _, _ => rfl
  | c :: L, P, h1, h2 => by
    rw [List.cons_append]
    unfold blobIn
    rw [if_neg (by intro e; subst e; exact h2 (by simp)), if_neg (by intro e; subst e; exact h1 (by simp))]
    exact blobIn_app L P (fun h => h1 (by simp [h])) (fun h => h2 (by simp [h]))
theorem blob_app (L P : List UInt8) (h1 : (91 : UInt8) ∉ L) (h2 : (93 : UInt8) ∉ L) : blob (91 :: L ++ [93] ++ P) = some (free P) := by
  have := blobIn_app L P h1 h2
  simpa [blob] using this
theorem answer_skip {l u : List UInt8} (h : blob l = some u) : answer l = answer u := by
  unfold answer
  rw [skip_some h]
/-- the name of a list ahead -/
theorem red_list (L : List UInt8) (hL1 : (91 : UInt8) ∉ L) (hL2 : (93 : UInt8) ∉ L) : ∀ (n : Nat) (P : List UInt8), P.length ≤ n → (red P).1 ≠ [] → (red (91 :: L ++ [93] ++ P)).1 = (red P).1 := by
  intro n
  induction n with
  | zero =>
    intro P h hne
    have : P = [] := List.eq_nil_of_length_eq_zero (by omega)
    subst this
    exact absurd (by decide) hne
  | succ n ih =>
    intro P h hne
    rcases snoc_cases P with rfl | ⟨r, c, rfl⟩
    · exact absurd (by decide) hne
    · rw [List.length_append, List.length_singleton] at h
      by_cases hc : c = 32
      · subst hc
        rw [red_sp] at hne ⊢
        rw [← List.append_assoc, red_sp]
        exact ih r (by omega) hne
      · have h1 : (r ++ [c]).getLast? ≠ some 32 := last_snoc_ne hc
        have h1' : (91 :: L ++ [93] ++ (r ++ [c])).getLast? ≠ some 32 := by rw [← List.append_assoc]; exact last_snoc_ne hc
        by_cases h2 : endsF (r ++ [c]) = true
        · have h2' : endsF (91 :: L ++ [93] ++ (r ++ [c])) = true := by rw [endsF_pre (91 :: L) _ 93 (by decide)]; exact h2
          have h5 := endsF_len h2
          have e : (91 :: L ++ [93] ++ (r ++ [c])).take ((91 :: L ++ [93] ++ (r ++ [c])).length - 5) = 91 :: L ++ [93] ++ (r ++ [c]).take ((r ++ [c]).length - 5) := by
            rw [List.take_append, List.take_of_length_le (l := 91 :: L ++ [93]) (by rw [List.length_append (as := 91 :: L ++ [93])]; omega)]
            congr 2
            rw [List.length_append (as := 91 :: L ++ [93])]; omega
          rw [red_fwd h1 h2] at hne ⊢
          rw [red_fwd h1' h2', e]
          exact ih _ (by rw [List.length_take, List.length_append, List.length_singleton]; omega) hne
        · have h2' : endsF (91 :: L ++ [93] ++ (r ++ [c])) = false := by rw [endsF_pre (91 :: L) _ 93 (by decide)]; simpa using h2
          have h2f : endsF (r ++ [c]) = false := by simpa using h2
          have hb := blob_app L (r ++ [c]) hL1 hL2
          have hh : (91 :: L ++ [93] ++ (r ++ [c])).head? ≠ some 32 := by simp
          have hfl := free_last h1
          have hfe : endsF (free (r ++ [c])) = false := by rw [endsF_free]; exact h2f
          have hfh := free_head (r ++ [c])
          have e := answer_skip hb
          rw [← red_free' (r ++ [c])] at hne ⊢
          cases ha : answer (free (r ++ [c])) with
          | some t => rw [red_answer h1' h2' hh (e.trans ha), red_answer hfl hfe hfh ha]
          | none =>
            rw [red_mark h1' h2' hh (e.trans ha) hb]
            intro e0; rw [e0] at hne; exact absurd (by decide) hne
theorem endsF_other (l : List UInt8) (z : UInt8) (hz : lowc z ∉ fwdT) : endsF (l ++ [z]) = false := by
  have := endsF_pre l [] z hz
  rw [List.append_nil] at this
  rw [this]; rfl
theorem no_mem {l : List UInt8} {c : UInt8} (h : c ∉ l) : ∀ {q : List UInt8}, free l ≠ c :: q := by
  intro q e
  have h1 : c ∈ free l := by rw [e]; simp
  exact h ((List.dropWhile_sublist _).subset h1)
/-- forwarded as a whole -/
theorem red_whole (F Q : List UInt8) (hF : (91 :: F).map lowc = fwdB) (hF1 : (91 : UInt8) ∉ F) (hF2 : (93 : UInt8) ∉ F) (hQ1 : (91 : UInt8) ∉ Q) (hQ2 : (93 : UInt8) ∉ Q) :
    red (91 :: F ++ Q ++ [93]) = ((red Q).1, true) := by
  have hn1 : (91 : UInt8) ∉ F ++ Q := by rw [List.mem_append]; exact fun h => h.elim hF1 hQ1
  have hn2 : (93 : UInt8) ∉ F ++ Q := by rw [List.mem_append]; exact fun h => h.elim hF2 hQ2
  have hb := blob_app (F ++ Q) [] hn1 hn2
  have e : 91 :: (F ++ Q) ++ [93] ++ [] = 91 :: F ++ Q ++ [93] := by simp
  rw [e] at hb
  have hb' : blob (91 :: F ++ Q ++ [93]) = some [] := hb
  have ha : answer (91 :: F ++ Q ++ [93]) = none := by rw [answer_skip hb']; decide
  have hlen : F.length = 4 := by
    have := congrArg List.length hF
    rw [List.length_map, List.length_cons] at this
    have h5 : fwdB.length = 5 := rfl
    omega
  have hst : st fwdB (91 :: F ++ Q ++ [93]) = some (Q ++ [93]) := by
    unfold st
    have h5 : fwdB.length = (91 :: F).length := by rw [List.length_cons, hlen]; rfl
    rw [h5, List.append_assoc, List.take_left, List.drop_left, if_pos hF]
  have hw : wrap (91 :: F ++ Q ++ [93]) = some Q := by
    unfold wrap
    rw [hst]
    simp
  rw [red_wrap (t := Q) (last_snoc_ne (by decide)) (endsF_other _ 93 (by decide)) (by simp) ha (by intro t ht; rw [hb'] at ht; injection ht with ht; exact ht.symm) hw, Bool.true_or]
theorem foldL_nil : foldL [] = [] := rfl
/-- a string in which no step finds anything -/
theorem tryMark_no {m l : List UInt8} (h1 : (91 : UInt8) ∉ l) (h2 : (58 : UInt8) ∉ l) : tryMark m l = none := by
  unfold tryMark
  cases hs : st m l with
  | none => rfl
  | some r =>
    obtain ⟨-, hr, -⟩ := st_some hs
    have hr1 : (91 : UInt8) ∉ r := fun h => h1 (List.mem_of_mem_drop (by rwa [hr] at h))
    have hr2 : (58 : UInt8) ∉ r := fun h => h2 (List.mem_of_mem_drop (by rwa [hr] at h))
    have hb : blob (free r) = none := by
      cases hb : blob (free r) with
      | none => rfl
      | some t => obtain ⟨q, hq⟩ := blob_head hb; exact absurd hq (no_mem hr1)
    simp only [hb, Option.getD_none]
    split
    · rename_i q hq; exact absurd hq (no_mem hr2)
    · rfl
theorem blob_no1 {l : List UInt8} (h1 : (91 : UInt8) ∉ l) : blob l = none := by
  cases hb : blob l with
  | none => rfl
  | some t => obtain ⟨q, hq⟩ := blob_head hb; rw [hq] at h1; exact absurd (by simp) h1
theorem lowc_91 (c : UInt8) : lowc c = 91 → c = 91 := all_u8 (fun c => lowc c = 91 → c = 91) (by decide +kernel) c
theorem lowc_41 (c : UInt8) : lowc c = 41 → c = 41 := all_u8 (fun c => lowc c = 41 → c = 41) (by decide +kernel) c
theorem endsF_no {l : List UInt8} (h : (41 : UInt8) ∉ l) : endsF l = false := by
  rw [← Bool.not_eq_true]
  intro he
  unfold endsF at he
  simp only [Bool.and_eq_true, beq_iff_eq] at he
  have hm : (41 : UInt8) ∈ (l.drop (l.length - 5)).map lowc := by rw [he.2]; decide
  obtain ⟨c, hc, e⟩ := List.mem_map.1 hm
  have := lowc_41 c e
  subst this
  exact h (List.mem_of_mem_drop hc)
theorem wrap_no {l : List UInt8} (h1 : (91 : UInt8) ∉ l) : wrap l = none := by
  unfold wrap
  have : st fwdB l = none := by
    unfold st
    rw [if_neg]
    intro e
    cases l with
    | nil => revert e; decide
    | cons a r =>
      have : fwdB.length = 5 := rfl
      rw [this, List.take_succ_cons, List.map_cons] at e
      injection e with e1 e2
      have := lowc_91 a e1
      subst this
      exact h1 (by simp)
  rw [this]
theorem trimR_mem {l : List UInt8} {c : UInt8} (h : c ∈ trimR l) : c ∈ l := by
  unfold trimR at h
  rw [List.mem_reverse] at h
  exact List.mem_reverse.1 ((List.dropWhile_sublist _).subset h)
theorem trimR_trimR : ∀ (n : Nat) (l : List UInt8), l.length ≤ n → trimR (trimR l) = trimR l := by
  intro n
  induction n with
  | zero => intro l h; have : l = [] := List.eq_nil_of_length_eq_zero (by omega); subst this; rfl
  | succ n ih =>
    intro l h
    rcases snoc_cases l with rfl | ⟨r, c, rfl⟩
    · rfl
    · rw [trimR_snoc]
      split
      · exact ih r (by simp at h; omega)
      · rename_i hc; rw [trimR_snoc, if_neg hc]
theorem trimR_head : ∀ (n : Nat) (l : List UInt8), l.length ≤ n → l.head? ≠ some 32 → (trimR l).head? ≠ some 32 := by
  intro n
  induction n with
  | zero => intro l h h2; have : l = [] := List.eq_nil_of_length_eq_zero (by omega); subst this; exact h2
  | succ n ih =>
    intro l h h2
    rcases snoc_cases l with rfl | ⟨r, c, rfl⟩
    · exact h2
    · rw [trimR_snoc]
      split
      · apply ih r (by simp at h; omega)
        cases r with
        | nil => simp
        | cons a r => exact h2
      · exact h2
def trim2 (l : List UInt8) : List UInt8 := trimR (free l)
theorem red_plain (l : List UInt8) (h1 : (91 : UInt8) ∉ l) (h2 : (58 : UInt8) ∉ l) (h3 : (41 : UInt8) ∉ l) : red l = (trim2 l, false) := by
  have hsub : ∀ c, c ∈ trim2 l → c ∈ l := fun c h => (List.dropWhile_sublist _).subset (trimR_mem h)
  have e : red (trim2 l) = red l := by
    unfold trim2
    rw [red_trim _ _ (Nat.le_refl _), red_free']
  rw [← e]
  have g1 : (91 : UInt8) ∉ trim2 l := fun h => h1 (hsub _ h)
  have g2 : (58 : UInt8) ∉ trim2 l := fun h => h2 (hsub _ h)
  have g3 : (41 : UInt8) ∉ trim2 l := fun h => h3 (hsub _ h)
  refine red_stays ?_ (endsF_no g3) ?_ ?_ ?_ (wrap_no g1)
  · exact trimR_eq.1 (trimR_trimR _ _ (Nat.le_refl _))
  · exact trimR_head _ _ (Nat.le_refl _) (free_head l)
  · unfold answer
    rw [skip_none (blob_no1 g1), tryMark_no g1 g2, tryMark_no g1 g2, tryMark_no g1 g2]
  · intro t ht; rw [blob_no1 g1] at ht; cases ht
end Su
namespace Su
open Go Pk U8 Fo

/-! SubjectLists -/
theorem red_plain_sp (l : List UInt8) : red (32 :: col true l) = red (col false l) := by
  rw [← red_free' (32 :: col true l), free_col, red_free']
def NoBr (l : List UInt8) : Prop := (91 : UInt8) ∉ l ∧ (93 : UInt8) ∉ l
theorem NoBr.col {l : List UInt8} (h : NoBr l) (x : Bool) : NoBr (col x (repairL l)) := ⟨not_colR h.1 (by decide) (by decide), not_colR h.2 (by decide) (by decide)⟩
theorem lists_1 (L l : List UInt8) (hL : NoBr L) (hne : (red (plain l)).1 ≠ []) : (red (plain ([91] ++ L ++ [93] ++ l))).1 = (red (plain l)).1 := by
  have e : plain ([91] ++ L ++ [93] ++ l) = 91 :: col false (repairL L) ++ [93] ++ plain l := by
    have e1 : repairL ([91] ++ L ++ [93] ++ l) = [91] ++ (repairL L ++ ([93] ++ repairL l)) := by
      rw [List.append_assoc, List.append_assoc, repair_pre [91] _ (by decide), repair_app L (x := [93] ++ l) (asc_cons (by decide)), repair_pre [93] _ (by decide)]
    unfold plain
    rw [e1]
    show 91 :: col false (repairL L ++ ([93] ++ repairL l)) = _
    rw [col_app]
    show 91 :: (col false (repairL L) ++ (93 :: col false (repairL l))) = _
    simp
  rw [e]
  exact red_list _ (hL.col false).1 (hL.col false).2 _ _ (Nat.le_refl _) hne
def xS : List UInt8 := [93, 32, 91, 120, 93, 32]
theorem lists_2 (L l : List UInt8) (hL : NoBr L) (hne : (red (plain l)).1 ≠ []) : (red (plain ([91] ++ L ++ xS ++ l))).1 = (red (plain l)).1 := by
  have e : plain ([91] ++ L ++ xS ++ l) = 91 :: col false (repairL L) ++ [93] ++ (32 :: (91 :: [120] ++ [93] ++ (32 :: col true (repairL l)))) := by
    have e1 : repairL ([91] ++ L ++ xS ++ l) = [91] ++ (repairL L ++ (xS ++ repairL l)) := by
      rw [List.append_assoc, List.append_assoc, repair_pre [91] _ (by decide), repair_app L (x := xS ++ l) (asc_cons (by decide)), repair_pre xS _ (by decide)]
    unfold plain
    rw [e1]
    show 91 :: col false (repairL L ++ (xS ++ repairL l)) = _
    rw [col_app]
    show 91 :: (col false (repairL L) ++ (93 :: 32 :: 91 :: 120 :: 93 :: 32 :: col true (repairL l))) = _
    simp
  have h2 : (red (32 :: col true (repairL l))).1 = (red (plain l)).1 := by rw [red_plain_sp]; rfl
  have h3 : (red (91 :: [120] ++ [93] ++ (32 :: col true (repairL l)))).1 = (red (plain l)).1 := by
    rw [red_list [120] (by decide) (by decide) _ _ (Nat.le_refl _) (by rw [h2]; exact hne), h2]
  have h4 : (red (32 :: (91 :: [120] ++ [93] ++ (32 :: col true (repairL l))))).1 = (red (plain l)).1 := by
    rw [red_sp1 _ _ (Nat.le_refl _), h3]
  rw [e, red_list _ (hL.col false).1 (hL.col false).2 _ _ (Nat.le_refl _) (by rw [h4]; exact hne), h4]
def fwdU : List UInt8 := [91, 70, 87, 68, 58, 32]
theorem lists_3 (l : List UInt8) (hl : NoBr l) : (red (plain (fwdU ++ l ++ [93]))).1 = (red (plain l)).1 := by
  have e : plain (fwdU ++ l ++ [93]) = 91 :: [70, 87, 68, 58] ++ (32 :: col true (repairL l)) ++ [93] := by
    have e1 : repairL (fwdU ++ l ++ [93]) = fwdU ++ (repairL l ++ [93]) := by
      rw [List.append_assoc, repair_pre fwdU _ (by decide), repair_app l (asc_cons (by decide)), repair_asc (by decide)]; rfl
    unfold plain
    rw [e1]
    show 91 :: 70 :: 87 :: 68 :: 58 :: 32 :: col true (repairL l ++ [93]) = _
    rw [col_app]
    show 91 :: 70 :: 87 :: 68 :: 58 :: 32 :: (col true (repairL l) ++ [93]) = _
    simp
  have hn := hl.col true
  rw [e, red_whole [70, 87, 68, 58] _ (by decide) (by decide) (by decide) (by simpa using hn.1) (by simpa using hn.2), red_plain_sp]
  rfl
def fwdD : List UInt8 := [91, 102, 119, 100, 58]
def endS : List UInt8 := [32, 93, 32]
theorem lists_4 (l : List UInt8) (hl : NoBr l) : (red (plain (fwdD ++ l ++ endS))).2 = true := by
  have e : plain (fwdD ++ l ++ endS) = 91 :: [102, 119, 100, 58] ++ (col false (repairL l ++ [32])) ++ [93] ++ [32] := by
    have e1 : repairL (fwdD ++ l ++ endS) = fwdD ++ ((repairL l ++ [32]) ++ [93, 32]) := by
      rw [List.append_assoc, repair_pre fwdD _ (by decide), repair_app l (x := endS) (asc_cons (by decide)), show repairL endS = endS by decide, List.append_assoc]; rfl
    unfold plain
    rw [e1]
    show 91 :: 102 :: 119 :: 100 :: 58 :: col false ((repairL l ++ [32]) ++ [93, 32]) = _
    rw [col_app]
    show 91 :: 102 :: 119 :: 100 :: 58 :: (col false (repairL l ++ [32]) ++ [93, 32]) = _
    simp
  have hm : ∀ c : UInt8, c ≠ 32 → c ∉ col false (repairL l) → c ∉ col false (repairL l ++ [32]) := by
    intro c hc h h2
    rw [col_app] at h2
    rcases List.mem_append.1 h2 with h2 | h2
    · exact h h2
    · rcases mem_col _ _ _ h2 with h3 | h3
      · simp at h3; exact hc h3
      · exact hc h3
  have hn := hl.col false
  rw [e, red_sp, red_whole [102, 119, 100, 58] _ (by decide) (by decide) (by decide) (hm _ (by decide) hn.1) (hm _ (by decide) hn.2)]
/-! SubjectPlain -/
def NoMk (l : List UInt8) : Prop := (58 : UInt8) ∉ l ∧ (91 : UInt8) ∉ l ∧ (41 : UInt8) ∉ l
theorem plain_law (l : List UInt8) (h : NoMk l) : red (plain l) = (trim2 (plain l), false) :=
  red_plain _ (not_colR h.2.1 (by decide) (by decide)) (not_colR h.1 (by decide) (by decide)) (not_colR h.2.2 (by decide) (by decide))
theorem lowc_keeps : Keeps lowc where
  one c := all_u8 (fun c => (lowc c = 32 ↔ c = 32) ∧ (lowc c = 91 ↔ c = 91) ∧ (lowc c = 93 ↔ c = 93) ∧ (lowc c = 58 ↔ c = 58)) (by decide +kernel) c
  low c := all_u8 (fun c => ∀ m ∈ ([40, 41, 58, 91, 114, 101, 102, 119, 100] : List UInt8), (lowc (lowc c) = m ↔ lowc c = m)) (by decide +kernel) c
theorem lowc_asc (c : UInt8) : (lowc c).toNat < 128 ↔ c.toNat < 128 := all_u8 (fun c => (lowc c).toNat < 128 ↔ c.toNat < 128) (by decide +kernel) c
theorem lowc_high (c : UInt8) : 128 ≤ c.toNat → lowc c = c := all_u8 (fun c => 128 ≤ c.toNat → lowc c = c) (by decide +kernel) c
theorem lowc_blk (c : UInt8) : blk (lowc c) = blk c := all_u8 (fun c => blk (lowc c) = blk c) (by decide +kernel) c
theorem lowc_blk_eq (c : UInt8) : blk c = true → lowc c = c := all_u8 (fun c => blk c = true → lowc c = c) (by decide +kernel) c
theorem lowc_64 (c : UInt8) : ((lowc c).toNat / 64 == 2) = (c.toNat / 64 == 2) := all_u8 (fun c => ((lowc c).toNat / 64 == 2) = (c.toNat / 64 == 2)) (by decide +kernel) c
theorem lowc_rune (c : UInt8) : c.toNat < 128 → lowI (c.toNat : Int) = ((lowc c).toNat : Int) := all_u8 (fun c => c.toNat < 128 → lowI (c.toNat : Int) = ((lowc c).toNat : Int)) (by decide +kernel) c
theorem lowc_lowc (c : UInt8) : lowc (lowc c) = lowc c := all_u8 (fun c => lowc (lowc c) = lowc c) (by decide +kernel) c
theorem at_map (l : List UInt8) (k : Nat) : at' (l.map lowc) k = (lowc (l.getD k 0)).toNat := by
  unfold at'
  rw [List.getD_eq_getElem?_getD, List.getD_eq_getElem?_getD, List.getElem?_map]
  cases l[k]? with
  | none => rfl
  | some c => rfl
theorem cont_map (l : List UInt8) (k : Nat) : cont (l.map lowc) k = cont l k := by
  unfold cont
  rw [List.length_map, at_map, lowc_64]
  rfl
theorem at_cont (l : List UInt8) (k : Nat) (h : cont l k = true) : at' (l.map lowc) k = at' l k := by
  unfold cont at h
  simp only [Bool.and_eq_true, decide_eq_true_eq, beq_iff_eq] at h
  rw [at_map]
  have : 128 ≤ (l.getD k 0).toNat := by have h2 := h.2; unfold at' at h2; omega
  rw [lowc_high _ this]; rfl
theorem dec_low (l : List UInt8) (h : 128 ≤ at' l 0) : dec (l.map lowc) = dec l := by
  have h0 : at' (l.map lowc) 0 = at' l 0 := by rw [at_map, lowc_high _ h]; rfl
  rw [dec_F, dec_F, h0, cont_map, cont_map, cont_map]
  cases h1 : cont l 1 with
  | false => exact decF_1 _ _ _ _ _ _ _ _ _ _ _
  | true =>
    rw [at_cont l 1 h1]
    cases h2 : cont l 2 with
    | false => exact decF_2 _ _ _ _ _ _ _ _ _
    | true =>
      rw [at_cont l 2 h2]
      cases h3 : cont l 3 with
      | false => exact decF_3 _ _ _ _ _ _ _
      | true => rw [at_cont l 3 h3]
theorem map_take_high {l : List UInt8} {n : Nat} (h : ∀ c ∈ l.take n, 128 ≤ c.toNat) : (l.map lowc).take n = l.take n := by
  rw [← List.map_take]
  exact (List.map_congr_left fun c hc => lowc_high c (h c hc)).trans (List.map_id _)
theorem enc_high (n : Nat) (hs : Sca n) (h : 128 ≤ n) : ∀ c ∈ Lib.encodeRune (n : Int), 128 ≤ c.toNat := by
  unfold Sca at hs
  by_cases h2 : n < 2048
  · rw [enc_two n h h2]; intro c hc; simp only [List.mem_cons, List.not_mem_nil, or_false] at hc
    rcases hc with rfl | rfl <;> rw [UInt8.toNat_ofNat'] <;> omega
  · by_cases h3 : n < 65536
    · rw [enc_three n (by omega)]; intro c hc; simp only [List.mem_cons, List.not_mem_nil, or_false] at hc
      rcases hc with rfl | rfl | rfl <;> rw [UInt8.toNat_ofNat'] <;> omega
    · rw [enc_four n (by omega) (by omega)]; intro c hc; simp only [List.mem_cons, List.not_mem_nil, or_false] at hc
      rcases hc with rfl | rfl | rfl | rfl <;> rw [UInt8.toNat_ofNat'] <;> omega
theorem take_at0 {l : List UInt8} {n w : Nat} (h2 : [UInt8.ofNat n] = l.take w) (hw : 1 ≤ w) : at' l 0 = n % 256 := by
  cases l with
  | nil => simp at h2
  | cons a r =>
    obtain ⟨v, rfl⟩ : ∃ v, w = v + 1 := ⟨w - 1, by omega⟩
    rw [List.take_succ_cons] at h2
    injection h2 with h3 _
    rw [at_cons0, ← h3, UInt8.toNat_ofNat']
theorem dec_high {l : List UInt8} (hl : l ≠ []) (h : 128 ≤ at' l 0) : 128 ≤ (dec l).1 := by
  by_cases ho : Okay l
  · obtain ⟨h1, h2⟩ := enc_dec l hl ho
    rcases Nat.lt_or_ge (dec l).1 128 with h3 | h3
    · rw [enc_one _ h3] at h2
      have hw := (dec_width l hl).1
      have := take_at0 h2 hw
      omega
    · exact h3
  · rw [dec_bad l ho]; decide
theorem drop_map (l : List UInt8) (n : Nat) : (l.map lowc).drop n = (l.drop n).map lowc := by rw [List.map_drop]
theorem repair_low : ∀ (n : Nat) (l : List UInt8), l.length ≤ n → repairL (l.map lowc) = (repairL l).map lowc := by
  intro n
  induction n with
  | zero => intro l h; have : l = [] := List.eq_nil_of_length_eq_zero (by omega); subst this; rfl
  | succ n ih =>
    intro l h
    cases l with
    | nil => rfl
    | cons a r =>
      by_cases ha : a.toNat < 128
      · rw [List.map_cons, repair_asc ((lowc_asc a).2 ha), repair_asc ha, List.map_cons, ih r (by simp at h; omega)]
      · have hd := dec_low (a :: r) (by rw [at_cons0]; omega)
        have hw := dec_width (a :: r) (by simp)
        have hh := dec_high (l := a :: r) (by simp) (by rw [at_cons0]; omega)
        have hr := dec_rune (a :: r) (by simp)
        unfold repairL
        rw [walk_cons _ _ (by simp), walk_cons _ (a :: r) (by simp), hd, drop_map]
        have e1 : encH ((a :: r).map lowc) = encH (a :: r) := by unfold encH; rw [hd]
        have e2 : (encH (a :: r)).map lowc = encH (a :: r) := (List.map_congr_left fun c hc => lowc_high c (enc_high _ hr hh c hc)).trans (List.map_id _)
        rw [e1, List.map_append, e2]
        congr 1
        exact ih _ (by rw [List.length_drop]; omega)
theorem col_low : ∀ (l : List UInt8) (b : Bool), col b (l.map lowc) = (col b l).map lowc
  | [], _ => rfl
  | c :: r, b => by
    rw [List.map_cons, col_cons, col_cons, lowc_blk]
    cases hb : blk c with
    | true =>
      rw [if_pos rfl, if_pos rfl]
      cases b
      · rw [if_neg (by decide), if_neg (by decide), List.map_cons, col_low r true]; rfl
      · rw [if_pos rfl, if_pos rfl, col_low r true]
    | false => rw [if_neg (by decide), if_neg (by decide), List.map_cons, col_low r false]
theorem plain_low (l : List UInt8) : plain (l.map lowc) = (plain l).map lowc := by
  unfold plain
  rw [repair_low _ l (Nat.le_refl _), col_low]
theorem fold_low : ∀ (n : Nat) (l : List UInt8), l.length ≤ n → foldL (l.map lowc) = foldL l := by
  intro n
  induction n with
  | zero => intro l h; have : l = [] := List.eq_nil_of_length_eq_zero (by omega); subst this; rfl
  | succ n ih =>
    intro l h
    cases l with
    | nil => rfl
    | cons a r =>
      unfold foldL
      rw [walk_cons _ _ (by simp), walk_cons _ (a :: r) (by simp)]
      by_cases ha : a.toNat < 128
      · have hb := (lowc_asc a).2 ha
        rw [List.map_cons, dec_asc hb, dec_asc ha]
        have e : foldH (lowc a :: r.map lowc) = foldH (a :: r) := by
          rw [foldH_ok (l := lowc a :: r.map lowc) (.inl (by rw [at_cons0]; exact hb)), foldH_ok (l := a :: r) (.inl (by rw [at_cons0]; exact ha)), dec_asc hb, dec_asc ha]
          show Lib.encodeRune (lowI ((lowc a).toNat : Int)) = Lib.encodeRune (lowI (a.toNat : Int))
          rw [lowc_rune _ hb, lowc_rune _ ha, lowc_lowc]
        rw [e]
        congr 1
        exact ih r (by simp at h; omega)
      · have h0 : 128 ≤ at' (a :: r) 0 := by rw [at_cons0]; omega
        have hd := dec_low (a :: r) h0
        have hw := dec_width (a :: r) (by simp)
        have ho : Okay ((a :: r).map lowc) ↔ Okay (a :: r) := by
          unfold Okay
          rw [hd, at_map, lowc_high _ h0]; rfl
        have hla : lowc a = a := lowc_high a (by omega)
        have e : foldH ((a :: r).map lowc) = foldH (a :: r) := by
          unfold foldH
          by_cases h1 : Okay (a :: r)
          · rw [if_pos h1, if_pos (ho.2 h1), hd]
          · rw [if_neg h1, if_neg (fun x => h1 (ho.1 x)), List.map_cons, hla]; rfl
        rw [e, hd, drop_map]
        congr 1
        exact ih _ (by rw [List.length_drop]; omega)
theorem trim2_low (l : List UInt8) : trim2 (l.map lowc) = (trim2 l).map lowc := by
  unfold trim2 trimR
  rw [free_map lowc_keeps, ← List.map_reverse]
  have := free_map lowc_keeps (free l).reverse
  unfold free at this ⊢
  rw [this, List.map_reverse]
theorem noMk_low {l : List UInt8} (h : NoMk l) : NoMk (l.map lowc) := by
  have hx : ∀ c m : UInt8, (m = 58 ∨ m = 91 ∨ m = 41) → lowc c = m → c = m := by
    intro c m hm e
    rcases hm with rfl | rfl | rfl
    · exact ((lowc_keeps.one c).2.2.2).1 e
    · exact lowc_91 c e
    · exact lowc_41 c e
  have hy : ∀ m : UInt8, (m = 58 ∨ m = 91 ∨ m = 41) → m ∉ l → m ∉ l.map lowc := by
    intro m hm h h2
    obtain ⟨c, hc, e⟩ := List.mem_map.1 h2
    have := hx c m hm e
    subst this
    exact h hc
  exact ⟨hy _ (by simp) h.1, hy _ (by simp) h.2.1, hy _ (by simp) h.2.2⟩
theorem small_law (l : List UInt8) (h : NoMk l) : foldL (red (plain (l.map lowc))).1 = foldL (red (plain l)).1 := by
  rw [plain_law _ (noMk_low h), plain_law l h, plain_low, trim2_low]
  exact fold_low _ _ (Nat.le_refl _)
end Su
namespace Su
open Go Pk U8 Fo

/-! replies and forwards, in eight styles -/
def p0 : List UInt8 := [82, 101, 58, 32]
def p1 : List UInt8 := [70, 87, 68, 58]
def p2 : List UInt8 := [102, 119, 32, 91, 50, 93, 32, 58, 32]
def q3 : List UInt8 := [32, 40, 70, 119, 100, 41]
def p4 : List UInt8 := [91, 108, 105, 115, 116, 93, 32, 114, 69, 9, 91, 120, 93, 58]
def p5 : List UInt8 := [13, 10, 32, 114, 101, 32, 58, 32]
def p6 : List UInt8 := [91, 97, 93, 32, 91, 98, 93, 70, 119, 100, 58, 32]
def q6 : List UInt8 := [32, 32]
def p7 : List UInt8 := [70, 119, 58, 9]
def q7 : List UInt8 := [40, 102, 119, 100, 41]
def laidL (s : List UInt8) : Nat → List UInt8
  | 0 => p0 ++ s
  | 1 => p1 ++ s
  | 2 => p2 ++ s
  | 3 => s ++ q3
  | 4 => p4 ++ s
  | 5 => p5 ++ s
  | 6 => p6 ++ s ++ q6
  | _ => p7 ++ s ++ q7
/-- the two answers that a reply's subject must give -/
def Same (l s : List UInt8) : Prop := (red (plain l)).1 = (red (plain s)).1 ∧ (red (plain l)).2 = true
theorem same_pre (q : List UInt8) (z : UInt8) (hz : lowc z ∉ fwdT) (hz2 : z ≠ 32) (hh : (q ++ [z]).head? ≠ some 32) (ha : ∀ P, answer (q ++ [z] ++ P) = some (free P)) {l s : List UInt8} {P : List UInt8}
    (hl : red (plain l) = red (q ++ [z] ++ P)) (hP : red P = red (plain s)) : Same l s := by
  unfold Same
  rw [hl, red_pre q z hz hz2 hh ha _ P (Nat.le_refl _), hP]
  exact ⟨rfl, rfl⟩
theorem tm_no (x : List UInt8) {m l : List UInt8} (hx : l.take m.length = x) (h : x.map lowc ≠ m) : tryMark m l = none := by
  unfold tryMark st; rw [if_neg (by rw [hx]; exact h)]
theorem tm_yes {m l r q : List UInt8} (h : (l.take m.length).map lowc = m) (hr : l.drop m.length = r) (hq : (blob (free r)).getD (free r) = 58 :: q) : tryMark m l = some (free q) := by
  unfold tryMark st
  rw [if_pos h, hr]
  simp only
  rw [hq]
  rfl
theorem ans_re {l t u : List UInt8} (hs : skip l = t) (h : tryMark re t = some u) : answer l = some u := by
  unfold answer; rw [hs, h]
theorem ans_fwd {l t u : List UInt8} (hs : skip l = t) (h0 : tryMark re t = none) (h : tryMark fwd t = some u) : answer l = some u := by
  unfold answer; rw [hs, h0, h]
theorem ans_fw {l t u : List UInt8} (hs : skip l = t) (h0 : tryMark re t = none) (h1 : tryMark fwd t = none) (h : tryMark fw t = some u) : answer l = some u := by
  unfold answer; rw [hs, h0, h1, h]
theorem ans_0 (P : List UInt8) : answer ([82, 101] ++ [58] ++ P) = some (free P) :=
  ans_re (skip_none rfl) (tm_yes (r := 58 :: P) (q := P) rfl rfl rfl)
theorem ans_1 (P : List UInt8) : answer ([70, 87, 68] ++ [58] ++ P) = some (free P) :=
  ans_fwd (skip_none rfl) (tm_no [70, 87] rfl (by decide)) (tm_yes (r := 58 :: P) (q := P) rfl rfl rfl)
theorem ans_2 (P : List UInt8) : answer ([102, 119, 32, 91, 50, 93, 32] ++ [58] ++ P) = some (free P) :=
  ans_fw (skip_none rfl) (tm_no [102, 119] rfl (by decide)) (tm_no [102, 119, 32] rfl (by decide)) (tm_yes (r := [32, 91, 50, 93, 32, 58] ++ P) (q := P) rfl rfl rfl)
theorem ans_4 (P : List UInt8) : answer ([91, 108, 105, 115, 116, 93, 32, 114, 69, 32, 91, 120, 93] ++ [58] ++ P) = some (free P) :=
  ans_re (t := [114, 69, 32, 91, 120, 93, 58] ++ P) ((skip_some rfl).trans (skip_none rfl)) (tm_yes (r := [32, 91, 120, 93, 58] ++ P) (q := P) rfl rfl rfl)
theorem ans_5 (P : List UInt8) : answer ([114, 101, 32] ++ [58] ++ P) = some (free P) :=
  ans_re (skip_none rfl) (tm_yes (r := [32, 58] ++ P) (q := P) rfl rfl rfl)
theorem ans_6 (P : List UInt8) : answer ([91, 97, 93, 32, 91, 98, 93, 70, 119, 100] ++ [58] ++ P) = some (free P) :=
  ans_fwd (t := [70, 119, 100, 58] ++ P) ((skip_some (u := [91, 98, 93, 70, 119, 100, 58] ++ P) rfl).trans ((skip_some (u := [70, 119, 100, 58] ++ P) rfl).trans (skip_none rfl))) (tm_no [70, 119] rfl (by decide)) (tm_yes (r := 58 :: P) (q := P) rfl rfl rfl)
theorem ans_7 (P : List UInt8) : answer ([70, 119] ++ [58] ++ P) = some (free P) :=
  ans_fw (skip_none rfl) (tm_no [70, 119] rfl (by decide)) (tm_no [70, 119, 58] rfl (by decide)) (tm_yes (r := 58 :: P) (q := P) rfl rfl rfl)
/-- a string behind a blank -/
theorem red_sp_col (l : List UInt8) : red (32 :: col true (repairL l)) = red (plain l) := red_plain_sp (repairL l)
theorem red_ends (l : List UInt8) (b : Bool) : red (col false l ++ (if b = true then [] else [32])) = red (col false l) := by
  cases b
  · exact red_sp _
  · rw [if_pos rfl, List.append_nil]
theorem col_q (l q : List UInt8) (hq : col true (32 :: q) = col true q) (hq2 : col false (32 :: q) = 32 :: col true q) (b0 : Bool) : col b0 (l ++ 32 :: q) = col b0 l ++ ((if cs b0 l = true then [] else [32]) ++ col true q) := by
  rw [col_app]
  cases cs b0 l
  · rw [hq2]; rfl
  · rw [hq]; rfl
theorem red_fwdEnd (X f : List UInt8) (hf : f.map lowc = fwdT) (hf2 : f.getLast? ≠ some 32) : red (X ++ f) = ((red X).1, true) := by
  have h5 : f.length = 5 := by
    have := congrArg List.length hf
    rw [List.length_map] at this
    exact this
  have hne : f ≠ [] := by intro e; rw [e] at h5; cases h5
  have hl : (X ++ f).getLast? ≠ some 32 := by
    rcases snoc_cases f with e | ⟨r, c, e⟩
    · exact absurd e hne
    · rw [e] at hf2 ⊢
      rw [← List.append_assoc]
      simpa using hf2
  have hlen : (X ++ f).length - 5 = X.length := by rw [List.length_append]; omega
  have he : endsF (X ++ f) = true := by
    unfold endsF
    rw [hlen, List.drop_left, hf, decide_eq_true (by rw [List.length_append]; omega)]
    simp
  rw [red_fwd hl he, hlen, List.take_left, Bool.true_or]
theorem same_0 (s : List UInt8) : Same (p0 ++ s) s :=
  same_pre [82, 101] 58 (by decide) (by decide) (by decide) ans_0 (P := 32 :: col true (repairL s)) (by rw [plain_pre p0 s (by decide)]; rfl) (red_sp_col s)
theorem same_1 (s : List UInt8) : Same (p1 ++ s) s :=
  same_pre [70, 87, 68] 58 (by decide) (by decide) (by decide) ans_1 (P := plain s) (by rw [plain_pre p1 s (by decide)]; rfl) rfl
theorem same_2 (s : List UInt8) : Same (p2 ++ s) s :=
  same_pre [102, 119, 32, 91, 50, 93, 32] 58 (by decide) (by decide) (by decide) ans_2 (P := 32 :: col true (repairL s)) (by rw [plain_pre p2 s (by decide)]; rfl) (red_sp_col s)
theorem same_3 (s : List UInt8) : Same (s ++ q3) s := by
  have e : plain (s ++ q3) = (col false (repairL s) ++ (if cs false (repairL s) = true then [] else [32])) ++ [40, 70, 119, 100, 41] := by
    rw [plain_app s (x := q3) (asc_cons (by decide)), show repairL q3 = q3 by decide]
    show _ ++ col _ (32 :: [40, 70, 119, 100, 41]) = _
    cases cs false (repairL s) <;> simp [plain, col, blk]
  unfold Same
  rw [e, red_fwdEnd _ _ (by decide) (by decide), red_ends]
  exact ⟨rfl, rfl⟩
theorem same_4 (s : List UInt8) : Same (p4 ++ s) s :=
  same_pre [91, 108, 105, 115, 116, 93, 32, 114, 69, 32, 91, 120, 93] 58 (by decide) (by decide) (by decide) ans_4 (P := plain s) (by rw [plain_pre p4 s (by decide)]; rfl) rfl
theorem same_5 (s : List UInt8) : Same (p5 ++ s) s :=
  same_pre [114, 101, 32] 58 (by decide) (by decide) (by decide) ans_5 (P := 32 :: col true (repairL s)) (by rw [plain_pre p5 s (by decide)]; exact red_sp1 _ _ (Nat.le_refl _)) (red_sp_col s)
theorem same_6 (s : List UInt8) : Same (p6 ++ s ++ q6) s := by
  have e : plain (p6 ++ s ++ q6) = [91, 97, 93, 32, 91, 98, 93, 70, 119, 100] ++ [58] ++ (32 :: (col true (repairL s) ++ (if cs true (repairL s) = true then [] else [32]))) := by
    rw [List.append_assoc, plain_pre p6 _ (by decide), repair_app s (x := q6) (asc_cons (by decide)), show repairL q6 = q6 by decide]
    show _ ++ col true (repairL s ++ [32, 32]) = _
    rw [col_app]
    show col false p6 ++ _ = _
    cases cs true (repairL s) <;> simp [col, blk, p6]
  refine same_pre [91, 97, 93, 32, 91, 98, 93, 70, 119, 100] 58 (by decide) (by decide) (by decide) ans_6 (P := 32 :: (col true (repairL s) ++ (if cs true (repairL s) = true then [] else [32]))) (by rw [e]) ?_
  cases cs true (repairL s)
  · rw [if_neg (by decide), ← List.cons_append, red_sp]; exact red_sp_col s
  · rw [if_pos rfl, List.append_nil]; exact red_sp_col s
theorem same_7 (s : List UInt8) : Same (p7 ++ s ++ q7) s := by
  have e : plain (p7 ++ s ++ q7) = [70, 119] ++ [58] ++ (32 :: col true (repairL s)) ++ q7 := by
    rw [List.append_assoc, plain_pre p7 _ (by decide), repair_app s (x := q7) (asc_cons (by decide)), show repairL q7 = q7 by decide]
    show _ ++ col true (repairL s ++ q7) = _
    rw [col_app]
    show col false p7 ++ _ = _
    cases cs true (repairL s) <;> simp [col, blk, p7, q7]
  unfold Same
  rw [e, red_fwdEnd _ _ (by decide) (by decide)]
  have := same_pre (s := s) (l := p7 ++ s) [70, 119] 58 (by decide) (by decide) (by decide) ans_7 (P := 32 :: col true (repairL s)) (by rw [plain_pre p7 s (by decide)]; rfl) (red_sp_col s)
  have h2 : red (plain (p7 ++ s)) = red ([70, 119] ++ [58] ++ (32 :: col true (repairL s))) := by rw [plain_pre p7 s (by decide)]; rfl
  unfold Same at this
  rw [h2] at this
  exact ⟨this.1, rfl⟩
theorem same_laid (s : List UInt8) : ∀ k : Nat, k < 8 → Same (laidL s k) s
  | 0, _ => same_0 s
  | 1, _ => same_1 s
  | 2, _ => same_2 s
  | 3, _ => same_3 s
  | 4, _ => same_4 s
  | 5, _ => same_5 s
  | 6, _ => same_6 s
  | 7, _ => same_7 s
  | n + 8, h => absurd h (by omega)
end Su
namespace Su
open Go Pk U8 Fo

def Val (l : List UInt8) : Prop := repairL l = l
theorem repair_longer : ∀ (n : Nat) (l : List UInt8), l.length ≤ n → l.length ≤ (repairL l).length := by
  intro n
  induction n with
  | zero => intro l h; omega
  | succ n ih =>
    intro l h
    by_cases he : l = []
    · subst he; exact Nat.le_refl _
    · have hw := dec_width l he
      have h1 := ih (l.drop (dec l).2) (by rw [List.length_drop]; omega)
      unfold repairL at h1 ⊢
      rw [walk_cons _ l he, List.length_append]
      rw [List.length_drop] at h1
      have h2 : (dec l).2 ≤ (encH l).length := by
        unfold encH
        by_cases ho : Okay l
        · rw [(enc_dec l he ho).2, List.length_take]; omega
        · rw [dec_bad l ho]; decide
      omega
theorem val_split {l x : List UInt8} (hx : Asc x) (h : Val (l ++ x)) : Val l ∧ Val x := by
  unfold Val at h
  rw [repair_app l hx] at h
  have h1 := repair_longer _ l (Nat.le_refl _)
  have h2 := repair_longer _ x (Nat.le_refl _)
  have h3 := congrArg List.length h
  rw [List.length_append, List.length_append] at h3
  exact List.append_inj h (by omega)
theorem val_asc {c : UInt8} {r : List UInt8} (hc : c.toNat < 128) (h : Val (c :: r)) : Val r := by
  unfold Val at h
  rw [repair_asc hc] at h
  injection h
/-- no blank but the space, no two of them -/
def nrm : Bool → List UInt8 → Bool
  | _, [] => true
  | b, c :: r => if blk c = true then (c == 32) && !b && nrm true r else nrm false r
theorem nrm_cons (b : Bool) (c : UInt8) (r : List UInt8) : nrm b (c :: r) = if blk c = true then (c == 32) && !b && nrm true r else nrm false r := rfl
theorem nrm_false {b : Bool} {l : List UInt8} (h : nrm b l = true) : nrm false l = true := by
  cases b
  · exact h
  · cases l with
    | nil => rfl
    | cons c r =>
      rw [nrm_cons] at h ⊢
      split at h
      · simp at h
      · rename_i hb; rw [if_neg hb]; exact h
theorem nrm_tail {b : Bool} {c : UInt8} {r : List UInt8} (h : nrm b (c :: r) = true) : nrm false r = true := by
  rw [nrm_cons] at h
  split at h
  · simp only [Bool.and_eq_true] at h; exact nrm_false h.2
  · exact h
theorem nrm_drop : ∀ (a : List UInt8) {b : Bool} {t : List UInt8}, nrm b (a ++ t) = true → nrm false t = true
  | [], _, _, h => nrm_false h
  | _ :: a, _, _, h => nrm_drop a (nrm_tail h)
theorem nrm_take : ∀ (t : List UInt8) {b : Bool} {y : List UInt8}, nrm b (t ++ y) = true → nrm b t = true
  | [], _, _, _ => rfl
  | c :: t, b, y, h => by
    rw [List.cons_append, nrm_cons] at h
    rw [nrm_cons]
    split
    · rename_i hb
      rw [if_pos hb] at h
      simp only [Bool.and_eq_true] at h ⊢
      exact ⟨h.1, nrm_take t h.2⟩
    · rename_i hb
      rw [if_neg hb] at h
      exact nrm_take t h
theorem nrm_col : ∀ (l : List UInt8) (b : Bool), nrm b (col b l) = true
  | [], _ => rfl
  | c :: r, b => by
    rw [col_cons]
    split
    · cases b
      · rw [if_neg (by decide), nrm_cons, if_pos (by decide), nrm_col r true]; rfl
      · rw [if_pos rfl]; exact nrm_col r true
    · rename_i hb
      rw [nrm_cons, if_neg hb]; exact nrm_col r false
theorem col_nrm : ∀ (l : List UInt8) (b : Bool), nrm b l = true → col b l = l
  | [], _, _ => rfl
  | c :: r, b, h => by
    rw [nrm_cons] at h
    rw [col_cons]
    split
    · rename_i hb
      rw [if_pos hb] at h
      simp only [Bool.and_eq_true, beq_iff_eq, Bool.not_eq_true'] at h
      obtain ⟨⟨h1, h2⟩, h3⟩ := h
      subst h2
      rw [if_neg (by decide), col_nrm r true h3, h1]
    · rename_i hb
      rw [if_neg hb] at h
      rw [col_nrm r false h]
def Fine (l : List UInt8) : Prop := Val l ∧ nrm false l = true
theorem fine_drop {a t : List UInt8} {c : UInt8} (hc : c.toNat < 128) (h : Fine (a ++ c :: t)) : Fine t :=
  ⟨val_asc hc (val_split (asc_cons hc) h.1).2, nrm_tail (nrm_drop a h.2)⟩
theorem fine_take {t y : List UInt8} (hy : Asc y) (h : Fine (t ++ y)) : Fine t := ⟨(val_split hy h.1).1, nrm_take t h.2⟩
theorem fine_free : ∀ {l : List UInt8}, Fine l → Fine (free l)
  | [], h => h
  | c :: r, h => by
    rw [free_cons]
    split
    · rename_i hc; subst hc; exact fine_free (fine_drop (a := []) (c := 32) (by decide) h)
    · exact h
theorem blobIn_cut : ∀ {r t : List UInt8}, blobIn r = some t → ∃ a q, r = a ++ 93 :: q ∧ t = free q
  | [], _, h => by cases h
  | c :: r, t, h => by
    unfold blobIn at h
    split at h
    · rename_i hc; subst hc; injection h with h; exact ⟨[], r, rfl, h.symm⟩
    · split at h
      · cases h
      · obtain ⟨a, q, h1, h2⟩ := blobIn_cut h
        exact ⟨c :: a, q, by rw [h1]; rfl, h2⟩
theorem fine_blob {l t : List UInt8} (h : blob l = some t) (hf : Fine l) : Fine t := by
  obtain ⟨r, rfl⟩ := blob_head h
  have h' : blobIn r = some t := h
  obtain ⟨a, q, rfl, rfl⟩ := blobIn_cut h'
  exact fine_free (fine_drop (a := 91 :: a) (c := 93) (by decide) hf)
theorem fine_skip : ∀ (n : Nat) (l : List UInt8), l.length ≤ n → Fine l → Fine (skip l) := by
  intro n
  induction n with
  | zero => intro l h hf; have : l = [] := List.eq_nil_of_length_eq_zero (by omega); subst this; exact hf
  | succ n ih =>
    intro l h hf
    cases hb : blob l with
    | none => rw [skip_none hb]; exact hf
    | some u =>
      have := blob_lt l u hb
      rw [skip_some hb]
      exact ih u (by omega) (fine_blob hb hf)
theorem fine_st {m l t : List UInt8} (hm : m ≠ []) (ha : ∀ c ∈ m, c.toNat < 128) (h : st m l = some t) (hf : Fine l) : Fine t := by
  obtain ⟨h1, h2, h3⟩ := st_some h
  rcases snoc_cases (l.take m.length) with e | ⟨a, x, e⟩
  · rw [e] at h1; exact absurd h1.symm hm
  · have hx : x.toNat < 128 := by
      have : lowc x ∈ m := by rw [← h1, e]; simp
      exact (lowc_asc x).1 (ha _ this)
    have e2 : l = a ++ x :: t := by
      have := List.take_append_drop m.length l
      rw [e, ← h2] at this
      rw [← this]; simp
    rw [e2] at hf
    exact fine_drop hx hf
theorem fine_tryMark {m l t : List UInt8} (hm : m ≠ []) (ha : ∀ c ∈ m, c.toNat < 128) (h : tryMark m l = some t) (hf : Fine l) : Fine t := by
  unfold tryMark at h
  cases hs : st m l with
  | none => rw [hs] at h; cases h
  | some r =>
    rw [hs] at h
    simp only at h
    have h1 := fine_free (fine_st hm ha hs hf)
    have h2 : Fine ((blob (free r)).getD (free r)) := by
      cases hb : blob (free r) with
      | none => exact h1
      | some u => exact fine_blob hb h1
    split at h
    · rename_i q hq
      injection h with h
      subst h
      rw [hq] at h2
      exact fine_free (fine_drop (a := []) (c := 58) (by decide) h2)
    · cases h
theorem fine_answer {l t : List UInt8} (h : answer l = some t) (hf : Fine l) : Fine t := by
  have hs := fine_skip _ l (Nat.le_refl _) hf
  unfold answer at h
  split at h
  · rename_i u hu; injection h with h; subst h; exact fine_tryMark (by decide) (by decide) hu hs
  · split at h
    · rename_i u hu; injection h with h; subst h; exact fine_tryMark (by decide) (by decide) hu hs
    · exact fine_tryMark (by decide) (by decide) h hs
theorem fine_wrap {l t : List UInt8} (h : wrap l = some t) (hf : Fine l) : Fine t := by
  unfold wrap at h
  cases hs : st fwdB l with
  | none => rw [hs] at h; cases h
  | some r =>
    rw [hs] at h
    simp only at h
    have h1 := fine_st (by decide) (by decide) hs hf
    split at h
    · rename_i hl
      injection h with h
      subst h
      rcases snoc_cases r with rfl | ⟨a, c, rfl⟩
      · cases hl
      · simp at hl
        subst hl
        rw [List.dropLast_concat]
        exact fine_take (asc_cons (by decide)) h1
    · cases h
theorem fine_step {l t : List UInt8} {b : Bool} (h : stepR l = some (t, b)) (hf : Fine l) : Fine t := by
  unfold stepR at h
  split at h
  · rename_i c
    simp at h
    rw [← h.1]
    rcases snoc_cases l with rfl | ⟨r, x, rfl⟩
    · cases c
    · simp at c
      subst c
      rw [List.dropLast_concat]
      exact fine_take (asc_cons (by decide)) hf
  · split at h
    · rename_i c
      simp at h
      rw [← h.1]
      have e := List.take_append_drop (l.length - 5) l
      rw [← e] at hf
      refine fine_take ?_ hf
      unfold endsF at c
      simp only [Bool.and_eq_true, beq_iff_eq] at c
      have c2 := c.2
      cases hd : l.drop (l.length - 5) with
      | nil => exact asc_nil
      | cons x r =>
        rw [hd, List.map_cons] at c2
        injection c2 with c3 _
        exact asc_cons ((lowc_asc x).1 (by rw [c3]; decide))
    · split at h
      · rename_i c
        simp at h
        rw [← h.1]
        cases l with
        | nil => cases c
        | cons a r =>
          simp at c
          subst c
          exact fine_drop (a := []) (c := 32) (by decide) hf
      · split at h
        · rename_i u hu; simp at h; rw [← h.1]; exact fine_answer hu hf
        · split at h
          · rename_i u hu
            split at h
            · simp only [Option.map_eq_some_iff] at h
              obtain ⟨x, hx, he⟩ := h
              simp at he
              rw [← he.1]; exact fine_wrap hx hf
            · simp at h
              rw [← h.1]; exact fine_blob hu hf
          · simp only [Option.map_eq_some_iff] at h
            obtain ⟨x, hx, he⟩ := h
            simp at he
            rw [← he.1]; exact fine_wrap hx hf
theorem red_end : ∀ (n : Nat) (l : List UInt8), l.length ≤ n → Fine l → Fine (red l).1 ∧ stepR (red l).1 = none := by
  intro n
  induction n with
  | zero => intro l h hf; have : l = [] := List.eq_nil_of_length_eq_zero (by omega); subst this; rw [red_none step_nil]; exact ⟨hf, step_nil⟩
  | succ n ih =>
    intro l h hf
    cases hs : stepR l with
    | none => rw [red_none hs]; exact ⟨hf, hs⟩
    | some p =>
      obtain ⟨t, b⟩ := p
      have := stepR_lt hs
      rw [red_some hs]
      exact ih t (by omega) (fine_step hs hf)
/-! code points -/
theorem val_encs (ms : List Nat) (h : ∀ n ∈ ms, Sca n) : Val (encs ms) := by
  unfold Val
  rw [repair_encs _ _ (Nat.le_refl _), runes_encs ms h]
theorem blk_high (c : UInt8) : 128 ≤ c.toNat → blk c = false := all_u8 (fun c => 128 ≤ c.toNat → blk c = false) (by decide +kernel) c
theorem col_high : ∀ (bs Y : List UInt8) (b : Bool), bs ≠ [] → (∀ c ∈ bs, 128 ≤ c.toNat) → col b (bs ++ Y) = bs ++ col false Y
  | [], _, _, h, _ => absurd rfl h
  | c :: bs, Y, b, _, h => by
    rw [List.cons_append, col_cons, if_neg (by rw [blk_high c (h c (by simp))]; decide)]
    by_cases hb : bs = []
    · subst hb; rfl
    · rw [col_high bs Y false hb (fun d hd => h d (by simp [hd]))]; rfl
theorem enc_ne (n : Nat) : Lib.encodeRune (n : Int) ≠ [] := by
  intro e
  have := (enc_len n).1
  rw [e] at this; simp at this
theorem encs_cons (n : Nat) (ns : List Nat) : encs (n :: ns) = Lib.encodeRune (n : Int) ++ encs ns := rfl
theorem col_encs : ∀ (ns : List Nat) (b : Bool), (∀ n ∈ ns, Sca n) → ∃ ms, (∀ n ∈ ms, Sca n) ∧ col b (encs ns) = encs ms
  | [], _, _ => ⟨[], by simp, rfl⟩
  | n :: ns, b, h => by
    have hn := h n (by simp)
    have h' := fun (m : Nat) (hm : m ∈ ns) => h m (by simp [hm])
    rw [encs_cons]
    by_cases h1 : n < 128
    · rw [enc_one n h1, List.singleton_append, col_cons]
      split
      · obtain ⟨ms, h2, h3⟩ := col_encs ns true h'
        cases b
        · refine ⟨32 :: ms, ?_, ?_⟩
          · intro m hm
            rcases List.mem_cons.1 hm with rfl | hm
            · exact .inl (by omega)
            · exact h2 m hm
          · rw [if_neg (by decide), h3, encs_cons, enc_one 32 (by omega)]; rfl
        · exact ⟨ms, h2, by rw [if_pos rfl, h3]⟩
      · obtain ⟨ms, h2, h3⟩ := col_encs ns false h'
        refine ⟨n :: ms, ?_, ?_⟩
        · intro m hm
          rcases List.mem_cons.1 hm with rfl | hm
          · exact hn
          · exact h2 m hm
        · rw [h3, encs_cons, enc_one n h1]; rfl
    · obtain ⟨ms, h2, h3⟩ := col_encs ns false h'
      refine ⟨n :: ms, ?_, ?_⟩
      · intro m hm
        rcases List.mem_cons.1 hm with rfl | hm
        · exact hn
        · exact h2 m hm
      · rw [col_high _ _ _ (enc_ne n) (enc_high n hn (by omega)), h3, encs_cons]
theorem fine_plain (s : List UInt8) : Fine (plain s) := by
  unfold plain
  rw [repair_encs _ s (Nat.le_refl _)]
  obtain ⟨ms, h2, h3⟩ := col_encs (runes s) false (runes_Sca _ s (Nat.le_refl _))
  exact ⟨by rw [h3]; exact val_encs ms h2, nrm_col _ _⟩
/-! folding -/
def lowN (n : Nat) : Nat := (lowI (n : Int)).toNat
theorem lowN_cast (n : Nat) : ((lowN n : Nat) : Int) = lowI (n : Int) := by
  obtain ⟨m, hm, -⟩ := lowI_nat n
  unfold lowN; rw [hm]; simp
theorem lowN_sca {n : Nat} (h : Sca n) : Sca (lowN n) := by
  obtain ⟨m, hm, h1, -⟩ := lowI_nat n
  have : lowN n = m := by unfold lowN; rw [hm]; simp
  rw [this]; exact h1 h
theorem lowN_128 (n : Nat) : n < 128 ↔ lowN n < 128 := by
  obtain ⟨m, hm, -, h2, -⟩ := lowI_nat n
  have : lowN n = m := by unfold lowN; rw [hm]; simp
  rw [this]; exact h2
theorem lowN_len {n : Nat} (h : Sca n) : (Lib.encodeRune (n : Int)).length = (Lib.encodeRune ((lowN n : Nat) : Int)).length := by
  obtain ⟨m, hm, h1, h2, h3, h4⟩ := lowI_nat n
  have : lowN n = m := by unfold lowN; rw [hm]; simp
  rw [this]; exact enc_len_eq h (h1 h) h2 h3 h4
theorem lowI_idem : ∀ n : Nat, n < 1200 → lowI (lowI (n : Int)) = lowI (n : Int) := by decide +kernel
theorem lowN_idem (n : Nat) : lowN (lowN n) = lowN n := by
  have : lowI ((lowN n : Nat) : Int) = lowI (n : Int) := by
    rw [lowN_cast]
    by_cases h : n < 1200
    · exact lowI_idem n h
    · rw [lowI_small (r := (n : Int)) (by omega), lowI_small (by omega)]
  unfold lowN at this ⊢
  rw [this]
theorem foldH_enc {n : Nat} (h : Sca n) (x : List UInt8) : foldH (Lib.encodeRune (n : Int) ++ x) = Lib.encodeRune ((lowN n : Nat) : Int) := by
  have hd := dec_enc n h x
  have ho : Okay (Lib.encodeRune (n : Int) ++ x) := by
    unfold Okay
    by_cases h1 : n < 128
    · left; rw [enc_one n h1, List.singleton_append, at_cons0]; simp; omega
    · right
      rw [hd]
      show 1 < (Lib.encodeRune (n : Int)).length
      unfold Sca at h
      by_cases h2 : n < 2048
      · rw [enc_two n (by omega) h2]; simp
      · by_cases h3 : n < 65536
        · rw [enc_three n (by omega)]; simp
        · rw [enc_four n (by omega) (by omega)]; simp
  rw [foldH_ok ho, hd, lowN_cast]
theorem fold_encs (ns : List Nat) (h : ∀ n ∈ ns, Sca n) : foldL (encs ns) = encs (ns.map lowN) := by
  unfold foldL
  rw [walk_encs foldH (fun n hn x => by have := foldH_enc hn []; rw [List.append_nil] at this; rw [foldH_enc hn x, this]) ns h]
  induction ns with
  | nil => rfl
  | cons n ns ih =>
    rw [List.flatMap_cons, List.map_cons, encs_cons, ih (fun m hm => h m (by simp [hm]))]
    have := foldH_enc (h n (by simp)) []
    rw [List.append_nil] at this
    rw [this]
def nu (c : UInt8) : UInt8 := if c.toNat < 128 then lowc c else 255
theorem nu_keeps : Keeps nu where
  one c := all_u8 (fun c => (nu c = 32 ↔ c = 32) ∧ (nu c = 91 ↔ c = 91) ∧ (nu c = 93 ↔ c = 93) ∧ (nu c = 58 ↔ c = 58)) (by decide +kernel) c
  low c := all_u8 (fun c => ∀ m ∈ ([40, 41, 58, 91, 114, 101, 102, 119, 100] : List UInt8), (lowc (nu c) = m ↔ lowc c = m)) (by decide +kernel) c
theorem nu_blk (c : UInt8) : blk (nu c) = blk c ∧ (nu c == 32) = (c == 32) := all_u8 (fun c => blk (nu c) = blk c ∧ (nu c == 32) = (c == 32)) (by decide +kernel) c
theorem nu_lowN : ∀ n : Nat, n < 128 → nu (UInt8.ofNat n) = nu (UInt8.ofNat (lowN n)) := by decide +kernel
theorem nu_high {l : List UInt8} (h : ∀ c ∈ l, 128 ≤ c.toNat) : l.map nu = List.replicate l.length 255 := by
  rw [List.eq_replicate_iff]
  refine ⟨by simp, fun b hb => ?_⟩
  obtain ⟨c, hc, rfl⟩ := List.mem_map.1 hb
  unfold nu; rw [if_neg (by have := h c hc; omega)]
theorem nu_encs : ∀ (ns : List Nat), (∀ n ∈ ns, Sca n) → (encs (ns.map lowN)).map nu = (encs ns).map nu
  | [], _ => rfl
  | n :: ns, h => by
    have hn := h n (by simp)
    rw [List.map_cons, encs_cons, encs_cons, List.map_append, List.map_append, nu_encs ns (fun m hm => h m (by simp [hm]))]
    congr 1
    by_cases h1 : n < 128
    · rw [enc_one n h1, enc_one _ ((lowN_128 n).1 h1), List.map_singleton, List.map_singleton, nu_lowN n h1]
    · rw [nu_high (enc_high n hn (by omega)), nu_high (enc_high _ (lowN_sca hn) (by have := (lowN_128 n); omega)), lowN_len hn]
theorem nrm_nu : ∀ (l : List UInt8) (b : Bool), nrm b (l.map nu) = nrm b l
  | [], _ => rfl
  | c :: r, b => by
    rw [List.map_cons, nrm_cons, nrm_cons, (nu_blk c).1, (nu_blk c).2, nrm_nu r true, nrm_nu r false]
def BsL (s : List UInt8) : List UInt8 := foldL (red (plain s)).1
theorem base_base (s : List UInt8) : red (plain (BsL s)) = (BsL s, false) ∧ foldL (BsL s) = BsL s ∧ Val (BsL s) := by
  obtain ⟨hf, hn⟩ := red_end _ (plain s) (Nat.le_refl _) (fine_plain s)
  have hR : (red (plain s)).1 = encs (runes (red (plain s)).1) := by
    have := hf.1
    unfold Val at this
    conv => lhs; rw [← this]
    exact repair_encs _ _ (Nat.le_refl _)
  have hsc := runes_Sca _ (red (plain s)).1 (Nat.le_refl _)
  obtain ⟨ns, hns⟩ : ∃ ns, ns = runes (red (plain s)).1 := ⟨_, rfl⟩
  rw [← hns] at hR hsc
  have hB : BsL s = encs (ns.map lowN) := by unfold BsL; rw [hR, fold_encs ns hsc]
  have hsc2 : ∀ n ∈ ns.map lowN, Sca n := by
    intro n hn
    obtain ⟨m, hm, rfl⟩ := List.mem_map.1 hn
    exact lowN_sca (hsc m hm)
  have hv : Val (BsL s) := by rw [hB]; exact val_encs _ hsc2
  have hm : (BsL s).map nu = ((red (plain s)).1).map nu := by rw [hB, hR]; exact nu_encs ns hsc
  have hnr : nrm false (BsL s) = true := by rw [← nrm_nu, hm, nrm_nu]; exact hf.2
  have hpl : plain (BsL s) = BsL s := by
    unfold plain
    unfold Val at hv
    rw [hv]
    exact col_nrm _ _ hnr
  have hst : stepR (BsL s) = none := by
    have h1 := step_map nu_keeps (red (plain s)).1
    rw [hn, ← hm, step_map nu_keeps] at h1
    simpa using h1
  refine ⟨by rw [hpl, red_none hst], ?_, hv⟩
  rw [hB, fold_encs _ hsc2, List.map_map]
  congr 1
  exact List.map_congr_left fun n _ => lowN_idem n
end Su
namespace Su
open Go Pk U8 Fo

theorem decodeL_dec (l : List UInt8) : Lib.decodeL l = dec l := by
  unfold Lib.decodeL
  rw [dec_eq, tl_zero]
theorem validD_encs : ∀ ns : List Nat, (∀ n ∈ ns, Sca n) → Lib.validD (encs ns) = true
  | [], _ => rfl
  | n :: ns, h => by
    have hn := h n (by simp)
    have hne : encs (n :: ns) ≠ [] := by
      rw [encs_cons]; intro e
      exact enc_ne n (List.append_eq_nil_iff.1 e).1
    rw [Lib.validD_step _ hne, decodeL_dec, encs_cons, dec_enc n hn, List.drop_left]
    rw [if_neg]
    · exact validD_encs ns (fun m hm => h m (by simp [hm]))
    · rintro ⟨h1, h2⟩
      have h1' : n = 65533 := h1
      have h2' : (Lib.encodeRune (n : Int)).length = 1 := h2
      rw [h1'] at h2'
      revert h2'; decide
theorem valid_of {l : List UInt8} (h : Val l) : Lib.validD l = true := by
  unfold Val at h
  rw [← h, repair_encs _ l (Nat.le_refl _)]
  exact validD_encs _ (runes_Sca _ l (Nat.le_refl _))
theorem low3 (n : Int) : ∃ k : Nat, k < 8 ∧ bits .and .i64 n 7 = (k : Int) := by
  refine ⟨(BitVec.ofInt 64 n).toNat % 8, Nat.mod_lt _ (by decide), ?_⟩
  have h7 : (BitVec.ofInt 64 7).toNat = 2 ^ 3 - 1 := by decide
  show IntKind.i64.wrap ((BitVec.ofInt 64 n &&& BitVec.ofInt 64 7).toNat : Int) = _
  rw [BitVec.toNat_and, h7, Nat.and_two_pow_sub_one_eq_mod, IntKind.wrap_i64]
  have := Nat.mod_lt (BitVec.ofInt 64 n).toNat (show 0 < 2 ^ 3 by decide)
  omega
theorem laidL_len (s : List UInt8) : ∀ k : Nat, (laidL s k).length ≤ s.length + 20
  | 0 => by simp [laidL, p0]
  | 1 => by simp [laidL, p1]
  | 2 => by simp [laidL, p2]
  | 3 => by simp [laidL, q3]
  | 4 => by simp [laidL, p4]
  | 5 => by simp [laidL, p5]
  | 6 => by simp [laidL, p6, q6]
  | n + 7 => by simp [laidL, p7, q7]
end Su
