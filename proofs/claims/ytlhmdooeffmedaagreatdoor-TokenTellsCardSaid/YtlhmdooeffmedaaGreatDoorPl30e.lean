/- Plain: a base subject's own base subject is itself. -/
import Derived.Test.YtlhmdooeffmedaaGreatDoorPl30x
namespace Su
open Go Pk U8 Fo

def Val (l : List UInt8) : Prop := repairL l = l
theorem repair_longer : ∀ (n : Nat) (l : List UInt8), l.length ≤ n → l.length ≤ (repairL l).length := by
  intro n
  induction n with
  | zero => intro l h; omega
  | succ n ih =>
    intro l h
    by_cases he : l = []
    · subst he; exact Nat.le_refl _
    · have hw := dec_width l he
      have h1 := ih (l.drop (dec l).2) (by rw [List.length_drop]; omega)
      unfold repairL at h1 ⊢
      rw [walk_cons _ l he, List.length_append]
      rw [List.length_drop] at h1
      have h2 : (dec l).2 ≤ (encH l).length := by
        unfold encH
        by_cases ho : Okay l
        · rw [(enc_dec l he ho).2, List.length_take]; omega
        · rw [dec_bad l ho]; decide
      omega
theorem val_split {l x : List UInt8} (hx : Asc x) (h : Val (l ++ x)) : Val l ∧ Val x := by
  unfold Val at h
  rw [repair_app l hx] at h
  have h1 := repair_longer _ l (Nat.le_refl _)
  have h2 := repair_longer _ x (Nat.le_refl _)
  have h3 := congrArg List.length h
  rw [List.length_append, List.length_append] at h3
  exact List.append_inj h (by omega)
theorem val_asc {c : UInt8} {r : List UInt8} (hc : c.toNat < 128) (h : Val (c :: r)) : Val r := by
  unfold Val at h
  rw [repair_asc hc] at h
  injection h
/-- no blank but the space, no two of them -/
def nrm : Bool → List UInt8 → Bool
  | _, [] => true
  | b, c :: r => if blk c = true then (c == 32) && !b && nrm true r else nrm false r
theorem nrm_cons (b : Bool) (c : UInt8) (r : List UInt8) : nrm b (c :: r) = if blk c = true then (c == 32) && !b && nrm true r else nrm false r := rfl
theorem nrm_false {b : Bool} {l : List UInt8} (h : nrm b l = true) : nrm false l = true := by
  cases b
  · exact h
  · cases l with
    | nil => rfl
    | cons c r =>
      rw [nrm_cons] at h ⊢
      split at h
      · simp at h
      · rename_i hb; rw [if_neg hb]; exact h
theorem nrm_tail {b : Bool} {c : UInt8} {r : List UInt8} (h : nrm b (c :: r) = true) : nrm false r = true := by
  rw [nrm_cons] at h
  split at h
  · simp only [Bool.and_eq_true] at h; exact nrm_false h.2
  · exact h
theorem nrm_drop : ∀ (a : List UInt8) {b : Bool} {t : List UInt8}, nrm b (a ++ t) = true → nrm false t = true
  | [], _, _, h => nrm_false h
  | _ :: a, _, _, h => nrm_drop a (nrm_tail h)
theorem nrm_take : ∀ (t : List UInt8) {b : Bool} {y : List UInt8}, nrm b (t ++ y) = true → nrm b t = true
  | [], _, _, _ => rfl
  | c :: t, b, y, h => by
    rw [List.cons_append, nrm_cons] at h
    rw [nrm_cons]
    split
    · rename_i hb
      rw [if_pos hb] at h
      simp only [Bool.and_eq_true] at h ⊢
      exact ⟨h.1, nrm_take t h.2⟩
    · rename_i hb
      rw [if_neg hb] at h
      exact nrm_take t h
theorem nrm_col : ∀ (l : List UInt8) (b : Bool), nrm b (col b l) = true
  | [], _ => rfl
  | c :: r, b => by
    rw [col_cons]
    split
    · cases b
      · rw [if_neg (by decide), nrm_cons, if_pos (by decide), nrm_col r true]; rfl
      · rw [if_pos rfl]; exact nrm_col r true
    · rename_i hb
      rw [nrm_cons, if_neg hb]; exact nrm_col r false
theorem col_nrm : ∀ (l : List UInt8) (b : Bool), nrm b l = true → col b l = l
  | [], _, _ => rfl
  | c :: r, b, h => by
    rw [nrm_cons] at h
    rw [col_cons]
    split
    · rename_i hb
      rw [if_pos hb] at h
      simp only [Bool.and_eq_true, beq_iff_eq, Bool.not_eq_true'] at h
      obtain ⟨⟨h1, h2⟩, h3⟩ := h
      subst h2
      rw [if_neg (by decide), col_nrm r true h3, h1]
    · rename_i hb
      rw [if_neg hb] at h
      rw [col_nrm r false h]
def Fine (l : List UInt8) : Prop := Val l ∧ nrm false l = true
theorem fine_drop {a t : List UInt8} {c : UInt8} (hc : c.toNat < 128) (h : Fine (a ++ c :: t)) : Fine t :=
  ⟨val_asc hc (val_split (asc_cons hc) h.1).2, nrm_tail (nrm_drop a h.2)⟩
theorem fine_take {t y : List UInt8} (hy : Asc y) (h : Fine (t ++ y)) : Fine t := ⟨(val_split hy h.1).1, nrm_take t h.2⟩
theorem fine_free : ∀ {l : List UInt8}, Fine l → Fine (free l)
  | [], h => h
  | c :: r, h => by
    rw [free_cons]
    split
    · rename_i hc; subst hc; exact fine_free (fine_drop (a := []) (c := 32) (by decide) h)
    · exact h
theorem blobIn_cut : ∀ {r t : List UInt8}, blobIn r = some t → ∃ a q, r = a ++ 93 :: q ∧ t = free q
  | [], _, h => by cases h
  | c :: r, t, h => by
    unfold blobIn at h
    split at h
    · rename_i hc; subst hc; injection h with h; exact ⟨[], r, rfl, h.symm⟩
    · split at h
      · cases h
      · obtain ⟨a, q, h1, h2⟩ := blobIn_cut h
        exact ⟨c :: a, q, by rw [h1]; rfl, h2⟩
theorem fine_blob {l t : List UInt8} (h : blob l = some t) (hf : Fine l) : Fine t := by
  obtain ⟨r, rfl⟩ := blob_head h
  have h' : blobIn r = some t := h
  obtain ⟨a, q, rfl, rfl⟩ := blobIn_cut h'
  exact fine_free (fine_drop (a := 91 :: a) (c := 93) (by decide) hf)
theorem fine_skip : ∀ (n : Nat) (l : List UInt8), l.length ≤ n → Fine l → Fine (skip l) := by
  intro n
  induction n with
  | zero => intro l h hf; have : l = [] := List.eq_nil_of_length_eq_zero (by omega); subst this; exact hf
  | succ n ih =>
    intro l h hf
    cases hb : blob l with
    | none => rw [skip_none hb]; exact hf
    | some u =>
      have := blob_lt l u hb
      rw [skip_some hb]
      exact ih u (by omega) (fine_blob hb hf)
theorem fine_st {m l t : List UInt8} (hm : m ≠ []) (ha : ∀ c ∈ m, c.toNat < 128) (h : st m l = some t) (hf : Fine l) : Fine t := by
  obtain ⟨h1, h2, h3⟩ := st_some h
  rcases snoc_cases (l.take m.length) with e | ⟨a, x, e⟩
  · rw [e] at h1; exact absurd h1.symm hm
  · have hx : x.toNat < 128 := by
      have : lowc x ∈ m := by rw [← h1, e]; simp
      exact (lowc_asc x).1 (ha _ this)
    have e2 : l = a ++ x :: t := by
      have := List.take_append_drop m.length l
      rw [e, ← h2] at this
      rw [← this]; simp
    rw [e2] at hf
    exact fine_drop hx hf
theorem fine_tryMark {m l t : List UInt8} (hm : m ≠ []) (ha : ∀ c ∈ m, c.toNat < 128) (h : tryMark m l = some t) (hf : Fine l) : Fine t := by
  unfold tryMark at h
  cases hs : st m l with
  | none => rw [hs] at h; cases h
  | some r =>
    rw [hs] at h
    simp only at h
    have h1 := fine_free (fine_st hm ha hs hf)
    have h2 : Fine ((blob (free r)).getD (free r)) := by
      cases hb : blob (free r) with
      | none => exact h1
      | some u => exact fine_blob hb h1
    split at h
    · rename_i q hq
      injection h with h
      subst h
      rw [hq] at h2
      exact fine_free (fine_drop (a := []) (c := 58) (by decide) h2)
    · cases h
theorem fine_answer {l t : List UInt8} (h : answer l = some t) (hf : Fine l) : Fine t := by
  have hs := fine_skip _ l (Nat.le_refl _) hf
  unfold answer at h
  split at h
  · rename_i u hu; injection h with h; subst h; exact fine_tryMark (by decide) (by decide) hu hs
  · split at h
    · rename_i u hu; injection h with h; subst h; exact fine_tryMark (by decide) (by decide) hu hs
    · exact fine_tryMark (by decide) (by decide) h hs
theorem fine_wrap {l t : List UInt8} (h : wrap l = some t) (hf : Fine l) : Fine t := by
  unfold wrap at h
  cases hs : st fwdB l with
  | none => rw [hs] at h; cases h
  | some r =>
    rw [hs] at h
    simp only at h
    have h1 := fine_st (by decide) (by decide) hs hf
    split at h
    · rename_i hl
      injection h with h
      subst h
      rcases snoc_cases r with rfl | ⟨a, c, rfl⟩
      · cases hl
      · simp at hl
        subst hl
        rw [List.dropLast_concat]
        exact fine_take (asc_cons (by decide)) h1
    · cases h
theorem fine_step {l t : List UInt8} {b : Bool} (h : stepR l = some (t, b)) (hf : Fine l) : Fine t := by
  unfold stepR at h
  split at h
  · rename_i c
    simp at h
    rw [← h.1]
    rcases snoc_cases l with rfl | ⟨r, x, rfl⟩
    · cases c
    · simp at c
      subst c
      rw [List.dropLast_concat]
      exact fine_take (asc_cons (by decide)) hf
  · split at h
    · rename_i c
      simp at h
      rw [← h.1]
      have e := List.take_append_drop (l.length - 5) l
      rw [← e] at hf
      refine fine_take ?_ hf
      unfold endsF at c
      simp only [Bool.and_eq_true, beq_iff_eq] at c
      have c2 := c.2
      cases hd : l.drop (l.length - 5) with
      | nil => exact asc_nil
      | cons x r =>
        rw [hd, List.map_cons] at c2
        injection c2 with c3 _
        exact asc_cons ((lowc_asc x).1 (by rw [c3]; decide))
    · split at h
      · rename_i c
        simp at h
        rw [← h.1]
        cases l with
        | nil => cases c
        | cons a r =>
          simp at c
          subst c
          exact fine_drop (a := []) (c := 32) (by decide) hf
      · split at h
        · rename_i u hu; simp at h; rw [← h.1]; exact fine_answer hu hf
        · split at h
          · rename_i u hu
            split at h
            · simp only [Option.map_eq_some_iff] at h
              obtain ⟨x, hx, he⟩ := h
              simp at he
              rw [← he.1]; exact fine_wrap hx hf
            · simp at h
              rw [← h.1]; exact fine_blob hu hf
          · simp only [Option.map_eq_some_iff] at h
            obtain ⟨x, hx, he⟩ := h
            simp at he
            rw [← he.1]; exact fine_wrap hx hf
theorem red_end : ∀ (n : Nat) (l : List UInt8), l.length ≤ n → Fine l → Fine (red l).1 ∧ stepR (red l).1 = none := by
  intro n
  induction n with
  | zero => intro l h hf; have : l = [] := List.eq_nil_of_length_eq_zero (by omega); subst this; rw [red_none step_nil]; exact ⟨hf, step_nil⟩
  | succ n ih =>
    intro l h hf
    cases hs : stepR l with
    | none => rw [red_none hs]; exact ⟨hf, hs⟩
    | some p =>
      obtain ⟨t, b⟩ := p
      have := stepR_lt hs
      rw [red_some hs]
      exact ih t (by omega) (fine_step hs hf)
/-! code points -/
theorem val_encs (ms : List Nat) (h : ∀ n ∈ ms, Sca n) : Val (encs ms) := by
  unfold Val
  rw [repair_encs _ _ (Nat.le_refl _), runes_encs ms h]
theorem blk_high (c : UInt8) : 128 ≤ c.toNat → blk c = false := all_u8 (fun c => 128 ≤ c.toNat → blk c = false) (by decide +kernel) c
theorem col_high : ∀ (bs Y : List UInt8) (b : Bool), bs ≠ [] → (∀ c ∈ bs, 128 ≤ c.toNat) → col b (bs ++ Y) = bs ++ col false Y
  | [], _, _, h, _ => absurd rfl h
  | c :: bs, Y, b, _, h => by
    rw [List.cons_append, col_cons, if_neg (by rw [blk_high c (h c (by simp))]; decide)]
    by_cases hb : bs = []
    · subst hb; rfl
    · rw [col_high bs Y false hb (fun d hd => h d (by simp [hd]))]; rfl
theorem enc_ne (n : Nat) : Lib.encodeRune (n : Int) ≠ [] := by
  intro e
  have := (enc_len n).1
  rw [e] at this; simp at this
theorem encs_cons (n : Nat) (ns : List Nat) : encs (n :: ns) = Lib.encodeRune (n : Int) ++ encs ns := rfl
theorem col_encs : ∀ (ns : List Nat) (b : Bool), (∀ n ∈ ns, Sca n) → ∃ ms, (∀ n ∈ ms, Sca n) ∧ col b (encs ns) = encs ms
  | [], _, _ => ⟨[], by simp, rfl⟩
  | n :: ns, b, h => by
    have hn := h n (by simp)
    have h' := fun (m : Nat) (hm : m ∈ ns) => h m (by simp [hm])
    rw [encs_cons]
    by_cases h1 : n < 128
    · rw [enc_one n h1, List.singleton_append, col_cons]
      split
      · obtain ⟨ms, h2, h3⟩ := col_encs ns true h'
        cases b
        · refine ⟨32 :: ms, ?_, ?_⟩
          · intro m hm
            rcases List.mem_cons.1 hm with rfl | hm
            · exact .inl (by omega)
            · exact h2 m hm
          · rw [if_neg (by decide), h3, encs_cons, enc_one 32 (by omega)]; rfl
        · exact ⟨ms, h2, by rw [if_pos rfl, h3]⟩
      · obtain ⟨ms, h2, h3⟩ := col_encs ns false h'
        refine ⟨n :: ms, ?_, ?_⟩
        · intro m hm
          rcases List.mem_cons.1 hm with rfl | hm
          · exact hn
          · exact h2 m hm
        · rw [h3, encs_cons, enc_one n h1]; rfl
    · obtain ⟨ms, h2, h3⟩ := col_encs ns false h'
      refine ⟨n :: ms, ?_, ?_⟩
      · intro m hm
        rcases List.mem_cons.1 hm with rfl | hm
        · exact hn
        · exact h2 m hm
      · rw [col_high _ _ _ (enc_ne n) (enc_high n hn (by omega)), h3, encs_cons]
theorem fine_plain (s : List UInt8) : Fine (plain s) := by
  unfold plain
  rw [repair_encs _ s (Nat.le_refl _)]
  obtain ⟨ms, h2, h3⟩ := col_encs (runes s) false (runes_Sca _ s (Nat.le_refl _))
  exact ⟨by rw [h3]; exact val_encs ms h2, nrm_col _ _⟩
/-! folding -/
def lowN (n : Nat) : Nat := (lowI (n : Int)).toNat
theorem lowN_cast (n : Nat) : ((lowN n : Nat) : Int) = lowI (n : Int) := by
  obtain ⟨m, hm, -⟩ := lowI_nat n
  unfold lowN; rw [hm]; simp
theorem lowN_sca {n : Nat} (h : Sca n) : Sca (lowN n) := by
  obtain ⟨m, hm, h1, -⟩ := lowI_nat n
  have : lowN n = m := by unfold lowN; rw [hm]; simp
  rw [this]; exact h1 h
theorem lowN_128 (n : Nat) : n < 128 ↔ lowN n < 128 := by
  obtain ⟨m, hm, -, h2, -⟩ := lowI_nat n
  have : lowN n = m := by unfold lowN; rw [hm]; simp
  rw [this]; exact h2
theorem lowN_len {n : Nat} (h : Sca n) : (Lib.encodeRune (n : Int)).length = (Lib.encodeRune ((lowN n : Nat) : Int)).length := by
  obtain ⟨m, hm, h1, h2, h3, h4⟩ := lowI_nat n
  have : lowN n = m := by unfold lowN; rw [hm]; simp
  rw [this]; exact enc_len_eq h (h1 h) h2 h3 h4
theorem lowI_idem : ∀ n : Nat, n < 1200 → lowI (lowI (n : Int)) = lowI (n : Int) := by decide +kernel
theorem lowN_idem (n : Nat) : lowN (lowN n) = lowN n := by
  have : lowI ((lowN n : Nat) : Int) = lowI (n : Int) := by
    rw [lowN_cast]
    by_cases h : n < 1200
    · exact lowI_idem n h
    · rw [lowI_small (r := (n : Int)) (by omega), lowI_small (by omega)]
  unfold lowN at this ⊢
  rw [this]
theorem foldH_enc {n : Nat} (h : Sca n) (x : List UInt8) : foldH (Lib.encodeRune (n : Int) ++ x) = Lib.encodeRune ((lowN n : Nat) : Int) := by
  have hd := dec_enc n h x
  have ho : Okay (Lib.encodeRune (n : Int) ++ x) := by
    unfold Okay
    by_cases h1 : n < 128
    · left; rw [enc_one n h1, List.singleton_append, at_cons0]; simp; omega
    · right
      rw [hd]
      show 1 < (Lib.encodeRune (n : Int)).length
      unfold Sca at h
      by_cases h2 : n < 2048
      · rw [enc_two n (by omega) h2]; simp
      · by_cases h3 : n < 65536
        · rw [enc_three n (by omega)]; simp
        · rw [enc_four n (by omega) (by omega)]; simp
  rw [foldH_ok ho, hd, lowN_cast]
theorem fold_encs (ns : List Nat) (h : ∀ n ∈ ns, Sca n) : foldL (encs ns) = encs (ns.map lowN) := by
  unfold foldL
  rw [walk_encs foldH (fun n hn x => by have := foldH_enc hn []; rw [List.append_nil] at this; rw [foldH_enc hn x, this]) ns h]
  induction ns with
  | nil => rfl
  | cons n ns ih =>
    rw [List.flatMap_cons, List.map_cons, encs_cons, ih (fun m hm => h m (by simp [hm]))]
    have := foldH_enc (h n (by simp)) []
    rw [List.append_nil] at this
    rw [this]
def nu (c : UInt8) : UInt8 := if c.toNat < 128 then lowc c else 255
theorem nu_keeps : Keeps nu where
  one c := all_u8 (fun c => (nu c = 32 ↔ c = 32) ∧ (nu c = 91 ↔ c = 91) ∧ (nu c = 93 ↔ c = 93) ∧ (nu c = 58 ↔ c = 58)) (by decide +kernel) c
  low c := all_u8 (fun c => ∀ m ∈ ([40, 41, 58, 91, 114, 101, 102, 119, 100] : List UInt8), (lowc (nu c) = m ↔ lowc c = m)) (by decide +kernel) c
theorem nu_blk (c : UInt8) : blk (nu c) = blk c ∧ (nu c == 32) = (c == 32) := all_u8 (fun c => blk (nu c) = blk c ∧ (nu c == 32) = (c == 32)) (by decide +kernel) c
theorem nu_lowN : ∀ n : Nat, n < 128 → nu (UInt8.ofNat n) = nu (UInt8.ofNat (lowN n)) := by decide +kernel
theorem nu_high {l : List UInt8} (h : ∀ c ∈ l, 128 ≤ c.toNat) : l.map nu = List.replicate l.length 255 := by
  rw [List.eq_replicate_iff]
  refine ⟨by simp, fun b hb => ?_⟩
  obtain ⟨c, hc, rfl⟩ := List.mem_map.1 hb
  unfold nu; rw [if_neg (by have := h c hc; omega)]
theorem nu_encs : ∀ (ns : List Nat), (∀ n ∈ ns, Sca n) → (encs (ns.map lowN)).map nu = (encs ns).map nu
  | [], _ => rfl
  | n :: ns, h => by
    have hn := h n (by simp)
    rw [List.map_cons, encs_cons, encs_cons, List.map_append, List.map_append, nu_encs ns (fun m hm => h m (by simp [hm]))]
    congr 1
    by_cases h1 : n < 128
    · rw [enc_one n h1, enc_one _ ((lowN_128 n).1 h1), List.map_singleton, List.map_singleton, nu_lowN n h1]
    · rw [nu_high (enc_high n hn (by omega)), nu_high (enc_high _ (lowN_sca hn) (by have := (lowN_128 n); omega)), lowN_len hn]
theorem nrm_nu : ∀ (l : List UInt8) (b : Bool), nrm b (l.map nu) = nrm b l
  | [], _ => rfl
  | c :: r, b => by
    rw [List.map_cons, nrm_cons, nrm_cons, (nu_blk c).1, (nu_blk c).2, nrm_nu r true, nrm_nu r false]
def BsL (s : List UInt8) : List UInt8 := foldL (red (plain s)).1
theorem base_base (s : List UInt8) : red (plain (BsL s)) = (BsL s, false) ∧ foldL (BsL s) = BsL s ∧ Val (BsL s) := by
  obtain ⟨hf, hn⟩ := red_end _ (plain s) (Nat.le_refl _) (fine_plain s)
  have hR : (red (plain s)).1 = encs (runes (red (plain s)).1) := by
    have := hf.1
    unfold Val at this
    conv => lhs; rw [← this]
    exact repair_encs _ _ (Nat.le_refl _)
  have hsc := runes_Sca _ (red (plain s)).1 (Nat.le_refl _)
  obtain ⟨ns, hns⟩ : ∃ ns, ns = runes (red (plain s)).1 := ⟨_, rfl⟩
  rw [← hns] at hR hsc
  have hB : BsL s = encs (ns.map lowN) := by unfold BsL; rw [hR, fold_encs ns hsc]
  have hsc2 : ∀ n ∈ ns.map lowN, Sca n := by
    intro n hn
    obtain ⟨m, hm, rfl⟩ := List.mem_map.1 hn
    exact lowN_sca (hsc m hm)
  have hv : Val (BsL s) := by rw [hB]; exact val_encs _ hsc2
  have hm : (BsL s).map nu = ((red (plain s)).1).map nu := by rw [hB, hR]; exact nu_encs ns hsc
  have hnr : nrm false (BsL s) = true := by rw [← nrm_nu, hm, nrm_nu]; exact hf.2
  have hpl : plain (BsL s) = BsL s := by
    unfold plain
    unfold Val at hv
    rw [hv]
    exact col_nrm _ _ hnr
  have hst : stepR (BsL s) = none := by
    have h1 := step_map nu_keeps (red (plain s)).1
    rw [hn, ← hm, step_map nu_keeps] at h1
    simpa using h1
  refine ⟨by rw [hpl, red_none hst], ?_, hv⟩
  rw [hB, fold_encs _ hsc2, List.map_map]
  congr 1
  exact List.map_congr_left fun n _ => lowN_idem n
end Su
