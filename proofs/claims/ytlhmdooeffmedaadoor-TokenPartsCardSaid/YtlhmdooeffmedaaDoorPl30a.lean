/- Plain: strings cut at an ASCII byte; blanks; base subjects under a map of bytes. -/
import Derived.Test.YtlhmdooeffmedaaDoorSubP
import Derived.Test.YtlhmdooeffmedaaDoorFoldP2
namespace Su
open Go Pk U8 Fo

theorem all_u8 (p : UInt8 → Prop) (h : ∀ n : Nat, n < 256 → p (UInt8.ofNat n)) (c : UInt8) : p c := by
  have := h c.toNat (UInt8.toNat_lt c)
  rwa [show UInt8.ofNat c.toNat = c by simp] at this
/-- the string is empty or begins with an ASCII byte -/
def Asc (x : List UInt8) : Prop := x = [] ∨ ∃ c r, x = c :: r ∧ c.toNat < 128
theorem asc_nil : Asc [] := .inl rfl
theorem asc_cons {c : UInt8} {r : List UInt8} (h : c.toNat < 128) : Asc (c :: r) := .inr ⟨c, r, rfl, h⟩
theorem asc_cont {x : List UInt8} (h : Asc x) : cont x 0 = false := by
  rcases h with rfl | ⟨c, r, rfl, hc⟩
  · rfl
  · rw [cont_zero]; simp; omega
def decF (a0 a1 a2 a3 : Nat) (c1 c2 c3 : Bool) : Nat × Nat :=
  if a0 < 0x80 then (a0, 1)
  else if (a0 / 32 == 6 && c1) = true then
    if a0 % 32 * 64 + a1 % 64 ≥ 0x80 then (a0 % 32 * 64 + a1 % 64, 2) else (65533, 1)
  else if (a0 / 16 == 14 && c1 && c2) = true then
    if (decide (a0 % 16 * 4096 + a1 % 64 * 64 + a2 % 64 ≥ 0x800) && Utf8.valid ((a0 % 16 * 4096 + a1 % 64 * 64 + a2 % 64 : Nat) : Int)) = true then (a0 % 16 * 4096 + a1 % 64 * 64 + a2 % 64, 3) else (65533, 1)
  else if (a0 / 8 == 30 && c1 && c2 && c3) = true then
    if (decide (a0 % 8 * 262144 + a1 % 64 * 4096 + a2 % 64 * 64 + a3 % 64 ≥ 0x10000) && Utf8.valid ((a0 % 8 * 262144 + a1 % 64 * 4096 + a2 % 64 * 64 + a3 % 64 : Nat) : Int)) = true then (a0 % 8 * 262144 + a1 % 64 * 4096 + a2 % 64 * 64 + a3 % 64, 4) else (65533, 1)
  else (65533, 1)
theorem dec_F (l : List UInt8) : dec l = decF (at' l 0) (at' l 1) (at' l 2) (at' l 3) (cont l 1) (cont l 2) (cont l 3) := rfl
theorem decF_1 (a0 a1 a2 a3 b1 b2 b3 : Nat) (c2 c3 d2 d3 : Bool) : decF a0 a1 a2 a3 false c2 c3 = decF a0 b1 b2 b3 false d2 d3 := by
  unfold decF
  have e : ∀ x y z : Bool, ¬ ((x && false) = true) ∧ ¬ ((x && false && y) = true) ∧ ¬ ((x && false && y && z) = true) := by decide
  split
  · rfl
  · rw [if_neg (e _ c2 c3).1, if_neg (e _ c2 c3).2.1, if_neg (e _ c2 c3).2.2, if_neg (e _ d2 d3).1, if_neg (e _ d2 d3).2.1, if_neg (e _ d2 d3).2.2]
theorem decF_2 (a0 a1 a2 a3 b2 b3 : Nat) (c1 c3 d3 : Bool) : decF a0 a1 a2 a3 c1 false c3 = decF a0 a1 b2 b3 c1 false d3 := by
  unfold decF
  have e : ∀ x y z : Bool, ¬ ((x && y && false) = true) ∧ ¬ ((x && y && false && z) = true) := by decide
  split
  · rfl
  · split
    · rfl
    · rw [if_neg (e _ c1 c3).1, if_neg (e _ c1 c3).2, if_neg (e _ c1 d3).1, if_neg (e _ c1 d3).2]
theorem decF_3 (a0 a1 a2 a3 b3 : Nat) (c1 c2 : Bool) : decF a0 a1 a2 a3 c1 c2 false = decF a0 a1 a2 b3 c1 c2 false := by
  unfold decF
  have e : ∀ x y z : Bool, ¬ ((x && y && z && false) = true) := by decide
  split
  · rfl
  · split
    · rfl
    · split
      · rfl
      · rw [if_neg (e _ c1 c2), if_neg (e _ c1 c2)]
theorem dec_app {l x : List UInt8} (hl : l ≠ []) (hx : Asc x) : dec (l ++ x) = dec l := by
  have h0 := asc_cont hx
  have n0 := cont_nil 0
  rcases l with _ | ⟨a, _ | ⟨b, _ | ⟨c, _ | ⟨d, r⟩⟩⟩⟩
  · exact absurd rfl hl
  · rw [dec_F, dec_F]
    have e1 : cont ([a] ++ x) 1 = false := by rw [List.cons_append, List.nil_append, cont_cons]; exact h0
    have e2 : cont [a] 1 = false := by rw [cont_cons]; exact n0
    rw [e1, e2]
    exact decF_1 _ _ _ _ _ _ _ _ _ _ _
  · rw [dec_F, dec_F]
    have e1 : cont ([a, b] ++ x) 2 = false := by rw [List.cons_append, List.cons_append, List.nil_append, cont_cons, cont_cons]; exact h0
    have e2 : cont [a, b] 2 = false := by rw [cont_cons, cont_cons]; exact n0
    have e3 : cont ([a, b] ++ x) 1 = cont [a, b] 1 := by rw [List.cons_append, List.cons_append, List.nil_append, cont_cons, cont_cons, cont_zero, cont_zero]
    rw [e1, e2, e3]
    exact decF_2 _ _ _ _ _ _ _ _ _
  · rw [dec_F, dec_F]
    have e1 : cont ([a, b, c] ++ x) 3 = false := by rw [List.cons_append, List.cons_append, List.cons_append, List.nil_append, cont_cons, cont_cons, cont_cons]; exact h0
    have e2 : cont [a, b, c] 3 = false := by rw [cont_cons, cont_cons, cont_cons]; exact n0
    have e3 : cont ([a, b, c] ++ x) 1 = cont [a, b, c] 1 := by rw [List.cons_append, List.cons_append, List.cons_append, List.nil_append, cont_cons, cont_cons, cont_zero, cont_zero]
    have e4 : cont ([a, b, c] ++ x) 2 = cont [a, b, c] 2 := by rw [List.cons_append, List.cons_append, List.cons_append, List.nil_append, cont_cons, cont_cons, cont_cons, cont_cons, cont_zero, cont_zero]
    rw [e1, e2, e3, e4]
    exact decF_3 _ _ _ _ _ _ _
  · rw [dec_F, dec_F]
    simp only [List.cons_append, at_cons0, at_cons, cont_cons, cont_zero]
theorem walk_app {α : Type} (g : List UInt8 → List α) (hg : ∀ l x, l ≠ [] → Asc x → g (l ++ x) = g l) (x : List UInt8) (hx : Asc x) : ∀ (n : Nat) (l : List UInt8), l.length ≤ n → walk g (l ++ x) = walk g l ++ walk g x := by
  intro n
  induction n with
  | zero => intro l h; have : l = [] := List.eq_nil_of_length_eq_zero (by omega); subst this; rw [walk_nil]; rfl
  | succ n ih =>
    intro l h
    by_cases he : l = []
    · subst he; rw [walk_nil]; rfl
    · have hw := dec_width l he
      rw [walk_cons g (l ++ x) (by simp [he]), walk_cons g l he, hg l x he hx, dec_app he hx, List.drop_append_of_le_length (by omega), ih _ (by rw [List.length_drop]; omega), List.append_assoc]
theorem encH_app {l x : List UInt8} (hl : l ≠ []) (hx : Asc x) : encH (l ++ x) = encH l := by unfold encH; rw [dec_app hl hx]
theorem repair_app (l : List UInt8) {x : List UInt8} (hx : Asc x) : repairL (l ++ x) = repairL l ++ repairL x :=
  walk_app encH (fun _ _ a b => encH_app a b) x hx _ l (Nat.le_refl _)
theorem dec_asc {c : UInt8} (h : c.toNat < 128) (r : List UInt8) : dec (c :: r) = (c.toNat, 1) := by
  unfold dec; rw [if_pos (by rw [at_cons0]; omega)]; rfl
theorem repair_asc {c : UInt8} (h : c.toNat < 128) (r : List UInt8) : repairL (c :: r) = c :: repairL r := by
  unfold repairL
  rw [walk_cons _ _ (by simp), dec_asc h]
  unfold encH
  rw [dec_asc h, enc_one _ h]
  simp
theorem repair_pre : ∀ (p x : List UInt8), (∀ c ∈ p, c.toNat < 128) → repairL (p ++ x) = p ++ repairL x
  | [], _, _ => rfl
  | c :: p, x, h => by
    rw [List.cons_append, repair_asc (h c (by simp)), repair_pre p x (fun d hd => h d (by simp [hd]))]
    rfl
theorem repair_nil : repairL [] = [] := rfl
/-! blanks -/
/-- does a blank stand last? -/
def cs : Bool → List UInt8 → Bool
  | b, [] => b
  | _, c :: r => cs (blk c) r
theorem col_cons (b : Bool) (c : UInt8) (r : List UInt8) : col b (c :: r) = if blk c = true then (if b = true then col true r else 32 :: col true r) else c :: col false r := rfl
theorem col_app : ∀ (l x : List UInt8) (b : Bool), col b (l ++ x) = col b l ++ col (cs b l) x
  | [], _, _ => rfl
  | c :: r, x, b => by
    rw [List.cons_append, cs, col_cons, col_cons]
    cases hb : blk c with
    | true =>
      rw [if_pos rfl, if_pos rfl, col_app r x true]
      cases b
      · rw [if_neg (by decide), if_neg (by decide), List.cons_append]
      · rw [if_pos rfl, if_pos rfl]
    | false => rw [if_neg (by decide), if_neg (by decide), col_app r x false, List.cons_append]
theorem col_state (l : List UInt8) : ∀ b, col b l = col false l ∨ 32 :: col b l = col false l := by
  intro b
  cases b with
  | false => exact .inl rfl
  | true =>
    cases l with
    | nil => exact .inl rfl
    | cons c r =>
      unfold col
      cases hb : blk c with
      | true => exact .inr rfl
      | false => exact .inl rfl
/-- the space ahead of what is said of a string -/
theorem free_col (l : List UInt8) : free (32 :: col true l) = free (col false l) := by
  rw [free_cons, if_pos rfl]
  rcases col_state l true with h | h
  · rw [h]
  · rw [← h, free_cons, if_pos rfl]
theorem plain_pre (p x : List UInt8) (h : ∀ c ∈ p, c.toNat < 128) : plain (p ++ x) = col false p ++ col (cs false p) (repairL x) := by
  unfold plain
  rw [repair_pre p x h, col_app]
theorem plain_app (l : List UInt8) {x : List UInt8} (hx : Asc x) : plain (l ++ x) = plain l ++ col (cs false (repairL l)) (repairL x) := by
  unfold plain
  rw [repair_app l hx, col_app]
theorem mem_encH {l : List UInt8} {b : UInt8} (hl : l ≠ []) (h : b ∈ encH l) : b ∈ l ∨ 128 ≤ b.toNat := by
  unfold encH at h
  by_cases ho : Okay l
  · rw [(enc_dec l hl ho).2] at h
    exact .inl (List.mem_of_mem_take h)
  · rw [dec_bad l ho] at h
    have h' : b ∈ bad3 := h
    unfold bad3 at h'
    simp at h'
    rcases h' with rfl | rfl | rfl <;> exact .inr (by decide)
theorem mem_repair : ∀ (n : Nat) (l : List UInt8), l.length ≤ n → ∀ b ∈ repairL l, b ∈ l ∨ 128 ≤ b.toNat := by
  intro n
  induction n with
  | zero => intro l h; have : l = [] := List.eq_nil_of_length_eq_zero (by omega); subst this; intro b hb; cases hb
  | succ n ih =>
    intro l h b hb
    by_cases he : l = []
    · subst he; cases hb
    · have hw := dec_width l he
      unfold repairL at hb
      rw [walk_cons _ l he] at hb
      rcases List.mem_append.1 hb with hb | hb
      · exact mem_encH he hb
      · rcases ih (l.drop (dec l).2) (by rw [List.length_drop]; omega) b hb with h1 | h1
        · exact .inl (List.mem_of_mem_drop h1)
        · exact .inr h1
theorem mem_col : ∀ (l : List UInt8) (x : Bool) (b : UInt8), b ∈ col x l → b ∈ l ∨ b = 32
  | [], _, _, h => by cases h
  | c :: r, x, b, h => by
    unfold col at h
    split at h
    · split at h
      · rcases mem_col r true b h with h | h
        · exact .inl (by simp [h])
        · exact .inr h
      · rcases List.mem_cons.1 h with h | h
        · exact .inr h
        · rcases mem_col r true b h with h | h
          · exact .inl (by simp [h])
          · exact .inr h
    · rcases List.mem_cons.1 h with h | h
      · exact .inl (by simp [h])
      · rcases mem_col r false b h with h | h
        · exact .inl (by simp [h])
        · exact .inr h
theorem mem_colR {l : List UInt8} {x : Bool} {b : UInt8} (h : b ∈ col x (repairL l)) : b ∈ l ∨ b = 32 ∨ 128 ≤ b.toNat := by
  rcases mem_col _ _ _ h with h | h
  · rcases mem_repair _ l (Nat.le_refl _) b h with h | h
    · exact .inl h
    · exact .inr (.inr h)
  · exact .inr (.inl h)
theorem mem_plain {l : List UInt8} {b : UInt8} (h : b ∈ plain l) : b ∈ l ∨ b = 32 ∨ 128 ≤ b.toNat := mem_colR h
theorem not_colR {l : List UInt8} {x : Bool} {b : UInt8} (h : b ∉ l) (h1 : b ≠ 32) (h2 : b.toNat < 128) : b ∉ col x (repairL l) := by
  intro hb
  rcases mem_colR hb with h' | h' | h'
  · exact h h'
  · exact h1 h'
  · omega
/-! the steps under a map of bytes that keeps the marks -/
structure Keeps (f : UInt8 → UInt8) : Prop where
  one : ∀ c : UInt8, (f c = 32 ↔ c = 32) ∧ (f c = 91 ↔ c = 91) ∧ (f c = 93 ↔ c = 93) ∧ (f c = 58 ↔ c = 58)
  low : ∀ c : UInt8, ∀ m ∈ ([40, 41, 58, 91, 114, 101, 102, 119, 100] : List UInt8), (lowc (f c) = m ↔ lowc c = m)
variable {f : UInt8 → UInt8}
theorem free_map (hf : Keeps f) : ∀ l : List UInt8, free (l.map f) = (free l).map f
  | [] => rfl
  | c :: r => by
    rw [List.map_cons, free_cons, free_cons]
    by_cases h : c = 32
    · rw [if_pos h, if_pos ((hf.one c).1.2 h)]; exact free_map hf r
    · rw [if_neg h, if_neg (fun e => h ((hf.one c).1.1 e))]; rfl
theorem blobIn_map (hf : Keeps f) : ∀ l : List UInt8, blobIn (l.map f) = (blobIn l).map (List.map f)
  | [] => rfl
  | c :: r => by
    rw [List.map_cons]
    unfold blobIn
    by_cases h : c = 93
    · rw [if_pos h, if_pos ((hf.one c).2.2.1.2 h), free_map hf]; rfl
    · rw [if_neg h, if_neg (fun e => h ((hf.one c).2.2.1.1 e))]
      by_cases h2 : c = 91
      · rw [if_pos h2, if_pos ((hf.one c).2.1.2 h2)]; rfl
      · rw [if_neg h2, if_neg (fun e => h2 ((hf.one c).2.1.1 e))]; exact blobIn_map hf r
theorem blob_map (hf : Keeps f) (l : List UInt8) : blob (l.map f) = (blob l).map (List.map f) := by
  cases l with
  | nil => rfl
  | cons c r =>
    show (if f c = 91 then blobIn (r.map f) else none) = Option.map (List.map f) (if c = 91 then blobIn r else none)
    by_cases h2 : c = 91
    · rw [if_pos h2, if_pos ((hf.one c).2.1.2 h2)]; exact blobIn_map hf r
    · rw [if_neg h2, if_neg (fun e => h2 ((hf.one c).2.1.1 e))]; rfl
theorem skip_map (hf : Keeps f) : ∀ (n : Nat) (l : List UInt8), l.length ≤ n → skip (l.map f) = (skip l).map f := by
  intro n
  induction n with
  | zero => intro l h; have : l = [] := List.eq_nil_of_length_eq_zero (by omega); subst this; rfl
  | succ n ih =>
    intro l h
    have e := blob_map hf l
    cases hb : blob l with
    | none => rw [hb] at e; rw [skip_none hb, skip_none e]
    | some u =>
      rw [hb] at e
      have := blob_lt l u hb
      rw [skip_some hb, skip_some e]
      exact ih u (by omega)
theorem low_map (hf : Keeps f) : ∀ (m l : List UInt8), (∀ c ∈ m, c ∈ ([40, 41, 58, 91, 114, 101, 102, 119, 100] : List UInt8)) → (((l.map f).map lowc = m) ↔ (l.map lowc = m))
  | [], l, _ => by cases l <;> simp
  | c :: m, [], _ => by simp
  | c :: m, a :: l, h => by
    have := low_map hf m l (fun d hd => h d (by simp [hd]))
    simp only [List.map_cons, List.cons.injEq]
    rw [this, hf.low a c (h c (by simp))]
theorem st_map (hf : Keeps f) (m l : List UInt8) (hm : ∀ c ∈ m, c ∈ ([40, 41, 58, 91, 114, 101, 102, 119, 100] : List UInt8)) : st m (l.map f) = (st m l).map (List.map f) := by
  unfold st
  rw [← List.map_take]
  by_cases h : (l.take m.length).map lowc = m
  · rw [if_pos h, if_pos ((low_map hf _ _ hm).2 h), ← List.map_drop]; rfl
  · rw [if_neg h, if_neg (fun e => h ((low_map hf _ _ hm).1 e))]; rfl
theorem tryMark_map (hf : Keeps f) (m l : List UInt8) (hm : ∀ c ∈ m, c ∈ ([40, 41, 58, 91, 114, 101, 102, 119, 100] : List UInt8)) : tryMark m (l.map f) = (tryMark m l).map (List.map f) := by
  unfold tryMark
  rw [st_map hf m l hm]
  cases st m l with
  | none => rfl
  | some r =>
    simp only [Option.map_some]
    rw [free_map hf, blob_map hf]
    have e : ((blob (free r)).map (List.map f)).getD ((free r).map f) = ((blob (free r)).getD (free r)).map f := by cases blob (free r) <;> rfl
    rw [e]
    cases (blob (free r)).getD (free r) with
    | nil => rfl
    | cons c q =>
      by_cases h : c = 58
      · have := (hf.one c).2.2.2.2 h
        rw [List.map_cons, this, h]
        simp only [Option.map_some]
        rw [free_map hf]
      · have h2 : f c ≠ 58 := fun e => h ((hf.one c).2.2.2.1 e)
        rw [List.map_cons]
        split
        · rename_i q' hq
          simp only [List.cons.injEq] at hq
          exact absurd hq.1 h2
        · split
          · rename_i q' hq
            simp only [List.cons.injEq] at hq
            exact absurd hq.1 h
          · rfl
theorem answer_map (hf : Keeps f) (l : List UInt8) : answer (l.map f) = (answer l).map (List.map f) := by
  unfold answer
  rw [skip_map hf _ l (Nat.le_refl _), tryMark_map hf re _ (by decide), tryMark_map hf fwd _ (by decide), tryMark_map hf fw _ (by decide)]
  cases tryMark re (skip l) with
  | some t => rfl
  | none =>
    cases tryMark fwd (skip l) with
    | some t => rfl
    | none => rfl
theorem endsF_map (hf : Keeps f) (l : List UInt8) : endsF (l.map f) = endsF l := by
  unfold endsF
  rw [List.length_map, ← List.map_drop]
  congr 1
  rw [Bool.eq_iff_iff, beq_iff_eq, beq_iff_eq]
  exact low_map hf _ _ (by decide)
theorem last_map (l : List UInt8) : (l.map f).getLast? = (l.getLast?).map f := by simp
theorem wrap_map (hf : Keeps f) (l : List UInt8) : wrap (l.map f) = (wrap l).map (List.map f) := by
  unfold wrap
  rw [st_map hf fwdB l (by decide)]
  cases st fwdB l with
  | none => rfl
  | some t =>
    simp only [Option.map_some]
    rw [last_map]
    rcases snoc_cases t with rfl | ⟨r, c, rfl⟩
    · rfl
    · have e1 : (r ++ [c]).getLast? = some c := by simp
      rw [e1]
      by_cases h : c = 93
      · rw [Option.map_some, if_pos (by rw [(hf.one c).2.2.1.2 h]), if_pos (by rw [h])]
        simp
      · rw [Option.map_some, if_neg (by intro e; injection e with e; exact h ((hf.one c).2.2.1.1 e)), if_neg (by intro e; injection e with e; exact h e)]
        rfl
theorem step_map (hf : Keeps f) (l : List UInt8) : stepR (l.map f) = (stepR l).map fun p => (p.1.map f, p.2) := by
  have hl : (l.map f).getLast? = some 32 ↔ l.getLast? = some 32 := by
    rw [last_map]
    cases l.getLast? with
    | none => simp
    | some c => simp only [Option.map_some, Option.some.injEq]; exact (hf.one c).1
  have hh : (l.map f).head? = some 32 ↔ l.head? = some 32 := by
    cases l with
    | nil => simp
    | cons c r => simp only [List.map_cons, List.head?_cons, Option.some.injEq]; exact (hf.one c).1
  unfold stepR
  by_cases h1 : l.getLast? = some 32
  · rw [if_pos h1, if_pos (hl.2 h1)]; simp
  · rw [if_neg h1, if_neg (fun e => h1 (hl.1 e)), endsF_map hf]
    by_cases h2 : endsF l = true
    · rw [if_pos h2, if_pos h2]; simp
    · rw [if_neg h2, if_neg h2]
      by_cases h3 : l.head? = some 32
      · rw [if_pos h3, if_pos (hh.2 h3)]; simp
      · rw [if_neg h3, if_neg (fun e => h3 (hh.1 e)), answer_map hf, blob_map hf, wrap_map hf]
        cases answer l with
        | some t => rfl
        | none =>
          simp only [Option.map_none]
          cases blob l with
          | none => simp only [Option.map_none]; cases wrap l <;> rfl
          | some t =>
            simp only [Option.map_some]
            by_cases h4 : t = []
            · rw [if_pos h4, if_pos (by rw [h4]; rfl)]; cases wrap l <;> rfl
            · rw [if_neg h4, if_neg (by simpa using h4)]; rfl
end Su
