/- Plain: a key without wildcards is found where its pattern matches. -/
import Derived.Test.YtlbnhkojfefccaaDoorFdO
import Derived.Test.YtlbnhkojfefccaaDoorFdW
import Derived.Lib.IndexMore
namespace Go.Proofs.YtlbnhkojfefccaaDoor
open Go.RowKit Lib Pk U8 Su Fo

theorem index_neg : ∀ (s sub : List UInt8), Lib.index s sub = -1 → ∀ j, j ≤ s.length → Lib.occAt s sub j = false
  | [], sub, h, j, hj => by
    unfold Lib.index at h
    cases sub with
    | nil => simp at h
    | cons a t => simp [Lib.occAt]
  | b :: l, sub, h, j, hj => by
    have hg := Lib.index_ge l sub
    unfold Lib.index at h
    by_cases h0 : sub.isPrefixOf (b :: l) = true
    · rw [if_pos h0] at h; omega
    · rw [if_neg h0] at h
      by_cases h1 : Lib.index l sub = -1
      · cases j with
        | zero => exact Bool.eq_false_iff.2 h0
        | succ j => simpa [Lib.occAt] using index_neg l sub h1 j (by simpa using hj)
      · rw [if_neg (by simpa using h1)] at h; omega
theorem contains_iff (s sub : List UInt8) : Lib.contains s sub = true ↔ ∃ i, i ≤ s.length ∧ sub <+: s.drop i := by
  unfold Lib.contains
  have hg := Lib.index_ge s sub
  rw [decide_eq_true_eq]
  constructor
  · intro h
    by_cases hx : ∃ i, i ≤ s.length ∧ sub <+: s.drop i
    · exact hx
    · have : Lib.index s sub = -1 := Lib.index_none fun j hj => by
        rw [← Bool.not_eq_true]
        intro ho
        unfold Lib.occAt at ho
        rw [List.isPrefixOf_iff_prefix] at ho
        exact hx ⟨j, hj, ho⟩
      omega
  · rintro ⟨i, hi, hp⟩
    by_cases h : Lib.index s sub = -1
    · have := index_neg s sub h i hi
      unfold Lib.occAt at this
      rw [← List.isPrefixOf_iff_prefix] at hp
      rw [hp] at this; cases this
    · omega
def one (c : UInt8) : ByteArray := ⟨#[c]⟩
def litE (c : UInt8) : El := ⟨0, one c⟩
def Asc (K : List UInt8) : Prop := ∀ c ∈ K, c.toNat < 128
theorem dec_ascii {c : UInt8} (h : c.toNat < 128) (X : List UInt8) : (dec (c :: X)).2 = 1 := by
  have e := dec_enc c.toNat (.inl (by omega)) X
  rw [enc_one _ h] at e
  simp at e
  rw [e]
theorem asc_isC {c : UInt8} (h : c.toNat < 128) : isC c = false := by
  unfold isC; rw [beq_eq_false_iff_ne]; omega
theorem units_asc : ∀ K : List UInt8, Asc K → unitsB K = K.map one
  | [], _ => rfl
  | c :: K, h => by
    rw [units_cons (by simp), dec_ascii (h c (by simp))]
    show _ :: unitsB K = _
    rw [units_asc K fun d hd => h d (by simp [hd])]
    rfl
theorem fo_one {c : UInt8} (h : c.toNat < 128) : fo (one c) = one (UInt8.ofNat (lowN c.toNat)) := by
  have e := fo_ok (u := one c) (n := c.toNat) (.inl (by omega)) (by rw [enc_one _ h]; simp [one])
  refine ba_ext ?_
  rw [e, enc_one _ ((lowN_128 _).1 h)]
  rfl
def lowA (comp : Int) (c : UInt8) : UInt8 := if comp = 1 then UInt8.ofNat (lowN c.toNat) else c
theorem ko_one (comp : Int) {c : UInt8} (h : c.toNat < 128) : ko comp (one c) = one (lowA comp c) := by
  unfold ko lowA
  split
  · exact fo_one h
  · rfl
theorem lowA_asc (comp : Int) {c : UInt8} (h : c.toNat < 128) : (lowA comp c).toNat < 128 := by
  unfold lowA
  split
  · have := (lowN_128 _).1 h
    rw [UInt8.toNat_ofNat']; omega
  · exact h
theorem one_l (c : UInt8) : (one c).data.toList = [c] := rfl
theorem catL_one : ∀ K : List UInt8, catL (K.map one) = K
  | [] => rfl
  | c :: K => by rw [List.map_cons, catL_cons, catL_one K]; rfl
theorem wf_asc (K : List UInt8) (h : Asc K) : Wf (K.map one) := by
  have := wf_of K
  rwa [units_asc K h] at this
theorem key_asc (comp : Int) (K : List UInt8) (h : Asc K) : keyL comp K = K.map (lowA comp) ∧ Asc (K.map (lowA comp)) := by
  refine ⟨?_, fun c hc => ?_⟩
  · have := key_wf comp (wf_asc K h)
    rw [catL_one] at this
    rw [this, List.map_map]
    have e : K.map (ko comp ∘ one) = (K.map (lowA comp)).map one := by
      rw [List.map_map]
      exact List.map_congr_left fun c hc => ko_one comp (h c hc)
    rw [e, catL_one]
  · obtain ⟨d, hd, rfl⟩ := List.mem_map.1 hc
    exact lowA_asc comp (h d hd)
/-- bytes of plain text behind a row of units -/
theorem wf_app : ∀ (us : List ByteArray) (K : List UInt8), Wf us → Asc K → Wf (us ++ K.map one) ∧ cr (catL (us ++ K.map one)) <+: cr (catL us)
  | [], K, _, h => by
    refine ⟨wf_asc K h, ?_⟩
    rw [List.nil_append, catL_one]
    cases K with
    | nil => exact List.prefix_refl _
    | cons c K => rw [cr_head (asc_isC (h c (by simp)))]; exact List.nil_prefix
  | u :: us, K, ⟨h1, h2, h3⟩, h => by
    obtain ⟨i1, i2⟩ := wf_app us K h3 h
    rw [List.cons_append, catL_cons, catL_cons]
    rcases wf_head h1 h2 with ⟨n, hn, he⟩ | ⟨b, hb, hz, hbad⟩
    · refine ⟨⟨h1, ?_, i1⟩, ?_⟩
      · rw [he, dec_enc n hn, ← he]; exact size_l _
      · rw [he, cr_enc hn]; exact List.nil_prefix
    · have hb2 : ¬ Okay (b :: catL (us ++ K.map one)) := fun ho => hbad (okay_less i2 ho)
      refine ⟨⟨h1, ?_, i1⟩, ?_⟩
      · rw [hb, List.singleton_append, dec_bad _ hb2, hz]
      · rw [hb, List.singleton_append, List.singleton_append]
        cases hc : isC b with
        | true => rw [cr_cons hc, cr_cons hc]; exact (List.prefix_cons_inj b).2 i2
        | false => rw [cr_head hc]; exact List.nil_prefix
theorem key_app (comp : Int) (s K : List UInt8) (h : Asc K) : keyL comp (s ++ K) = keyL comp s ++ keyL comp K := by
  have hw := wf_of s
  have hc := catL_units _ s (Nat.le_refl _)
  have h1 := key_wf comp (wf_app _ K hw h).1
  rw [catL_append, hc, catL_one] at h1
  rw [h1, List.map_append, catL_append, ← key_wf comp hw, hc, ← key_wf comp (wf_asc K h), catL_one]
theorem enc_big {n : Nat} (hn : Sca n) (h : 128 ≤ n) : ∀ c ∈ Lib.encodeRune (n : Int), 128 ≤ c.toNat := by
  intro c hc
  unfold Sca at hn
  by_cases h2 : n < 2048
  · rw [enc_two n h h2] at hc
    simp only [List.mem_cons, List.not_mem_nil, or_false] at hc
    rcases hc with rfl | rfl <;> rw [UInt8.toNat_ofNat'] <;> omega
  · by_cases h3 : n < 65536
    · rw [enc_three n (by omega)] at hc
      simp only [List.mem_cons, List.not_mem_nil, or_false] at hc
      rcases hc with rfl | rfl | rfl <;> rw [UInt8.toNat_ofNat'] <;> omega
    · rw [enc_four n (by omega) (by omega)] at hc
      simp only [List.mem_cons, List.not_mem_nil, or_false] at hc
      rcases hc with rfl | rfl | rfl | rfl <;> rw [UInt8.toNat_ofNat'] <;> omega
/-- a unit that holds a byte of plain text is that byte -/
theorem unit_asc {u : ByteArray} {X : List UInt8} {c : UInt8} (h1 : 0 < u.size) (h2 : (dec (u.data.toList ++ X)).2 = u.size) (hc : c ∈ u.data.toList) (ha : c.toNat < 128) : u = one c := by
  refine ba_ext ?_
  rcases wf_head h1 h2 with ⟨n, hn, he⟩ | ⟨b, hb, -, hbad⟩
  · rw [he] at hc ⊢
    by_cases h : n < 128
    · rw [enc_one n h] at hc ⊢
      rw [List.mem_singleton] at hc
      rw [hc]; rfl
    · have := enc_big hn (by omega) c hc; omega
  · rw [hb] at hc ⊢
    rw [List.mem_singleton] at hc
    rw [hc]; rfl
theorem at_byte : ∀ (F : List ByteArray) (o : Nat) (c : UInt8), Wf F → (catL F)[o]? = some c → c.toNat < 128 → ∃ j r, F.drop j = one c :: r ∧ (catL (F.take j)).length = o ∧ j < F.length
  | [], o, c, _, h, _ => by simp [catL] at h
  | u :: F, o, c, ⟨h1, h2, h3⟩, h, ha => by
    rw [catL_cons] at h
    by_cases hlt : o < u.size
    · rw [List.getElem?_append_left (by rw [size_l]; exact hlt)] at h
      have hu := unit_asc h1 h2 (List.mem_of_getElem? h) ha
      have : o = 0 := by rw [hu] at hlt; have : (one c).size = 1 := rfl; omega
      subst this
      exact ⟨0, F, by rw [hu]; rfl, rfl, by simp⟩
    · rw [List.getElem?_append_right (by rw [size_l]; omega), size_l] at h
      obtain ⟨j, r, e1, e2, e3⟩ := at_byte F _ c h3 h ha
      exact ⟨j + 1, r, e1, by rw [List.take_succ_cons, catL_cons, List.length_append, size_l, e2]; omega, by rw [List.length_cons]; omega⟩
theorem catL_pos : ∀ us : List ByteArray, Wf us → us.length ≤ (catL us).length
  | [], _ => Nat.le_refl _
  | u :: us, ⟨h1, _, h3⟩ => by
    have := catL_pos us h3
    rw [catL_cons, List.length_append, size_l, List.length_cons]; omega
theorem has_of : ∀ (K : List UInt8) (F : List ByteArray), Asc K → Wf F → K <+: catL F → hasP (K.map litE) F = true
  | [], F, _, _, _ => by cases F <;> rfl
  | c :: K, F, ha, hw, ⟨t, ht⟩ => by
    obtain ⟨j, r, e1, e2, e3⟩ := at_byte F 0 c hw (by rw [← ht]; rfl) (ha c (by simp))
    have hj : j = 0 := by
      have := catL_pos _ (wf_take hw j)
      rw [List.length_take] at this; omega
    subst hj
    have e1 : F = one c :: r := e1
    subst e1
    have e : catL r = K ++ t := by
      rw [catL_cons, one_l] at ht
      injection ht with _ ht
      exact ht.symm
    have ih := has_of K r (fun d hd => ha d (by simp [hd])) hw.2.2 ⟨t, e.symm⟩
    rw [List.map_cons]
    unfold hasP
    rw [ih, Bool.and_true, Bool.or_eq_true]
    exact .inr (by show ((one c).toList == (one c).toList) = true; simp)
theorem has_to : ∀ (K : List UInt8) (F : List ByteArray), hasP (K.map litE) F = true → ∃ r, F = K.map one ++ r
  | [], F, _ => ⟨F, rfl⟩
  | c :: K, [], h => by cases h
  | c :: K, u :: F, h => by
    rw [List.map_cons] at h
    unfold hasP at h
    rw [Bool.and_eq_true] at h
    obtain ⟨r, hr⟩ := has_to K F h.2
    have h1 := h.1
    rw [show decide ((litE c).kind ≠ 0) = false from rfl, Bool.false_or, beq_iff_eq, Lib.toList_data, Lib.toList_data] at h1
    exact ⟨r, by rw [hr, ← ba_ext h1]; rfl⟩
/-- a key stands in a text where its units stand -/
theorem found_iff {K : List UInt8} {F : List ByteArray} (ha : Asc K) (hw : Wf F) : Lib.contains (catL F) K = true ↔ ∃ j, j ≤ F.length ∧ hasP (K.map litE) (F.drop j) = true := by
  rw [contains_iff]
  constructor
  · rintro ⟨i, hi, hp⟩
    cases K with
    | nil => exact ⟨0, by omega, by cases F <;> rfl⟩
    | cons c K =>
      obtain ⟨t, ht⟩ := hp
      have hget : (catL F)[i]? = some c := by
        have := congrArg (·[0]?) ht
        simp at this
        exact this.symm
      obtain ⟨j, r, e1, e2, e3⟩ := at_byte F i c hw hget (ha c (by simp))
      refine ⟨j, by omega, has_of _ _ ha (wf_drop F j hw) ⟨t, ?_⟩⟩
      rw [ht, ← e2]
      have : catL F = catL (F.take j) ++ catL (F.drop j) := by rw [← catL_append, List.take_append_drop]
      rw [this, List.drop_left]
  · rintro ⟨j, hj, hp⟩
    obtain ⟨r, hr⟩ := has_to K _ hp
    have : catL F = catL (F.take j) ++ catL (F.drop j) := by rw [← catL_append, List.take_append_drop]
    refine ⟨(catL (F.take j)).length, by rw [this, List.length_append]; omega, ?_⟩
    rw [this, List.drop_left, hr, catL_append, catL_one]
    exact ⟨_, rfl⟩
theorem seek_spec {F : List ByteArray} {m : List El} : ∀ (n p : Nat), F.length - p ≤ n → p ≤ F.length → (hasP m (F.drop (seek F m p)) = true ∨ seek F m p = F.length) ∧ ∀ j, p ≤ j → j < seek F m p → hasP m (F.drop j) = false
  | 0, p, h1, h2 => by
    rw [seek_stop (.inr (by omega))]
    exact ⟨.inr (by omega), fun j a b => by omega⟩
  | n + 1, p, h1, h2 => by
    by_cases hp : p < F.length
    · cases hh : hasP m (F.drop p) with
      | true => rw [seek_stop (.inl hh)]; exact ⟨.inl hh, fun j a b => by omega⟩
      | false =>
        rw [seek_step hp hh]
        obtain ⟨i1, i2⟩ := seek_spec (F := F) (m := m) n (p + 1) (by omega) (by omega)
        exact ⟨i1, fun j a b => if e : j = p then e ▸ hh else i2 j (by omega) b⟩
    · rw [seek_stop (.inr hp)]
      exact ⟨.inr (by omega), fun j a b => by omega⟩
theorem any_lit : ∀ (K : List UInt8) (us : List ByteArray), anyL (K.map litE) us = []
  | [], _ => rfl
  | c :: K, us => by
    rw [List.map_cons]
    unfold anyL
    rw [any_lit K, if_neg (by show ¬ (0 = 1); decide)]; rfl
theorem parse_lit : ∀ (K : List UInt8) (x : UInt8), Asc K → (∀ c ∈ K, c ≠ 42 ∧ c ≠ 63 ∧ c ≠ 92) → parseL (K.map one ++ [one 42]) = K.map litE ++ [star]
  | [], _, _, _ => by
    show parseL [one 42] = [star]
    unfold parseL
    rw [if_pos (show (one 42).toList = [42] by rw [Lib.toList_data]; rfl)]; rfl
  | c :: K, x, ha, h => by
    obtain ⟨n1, n2, n3⟩ := h c (by simp)
    have ih := parse_lit K x (fun d hd => ha d (by simp [hd])) (fun d hd => h d (by simp [hd]))
    have hne : K.map one ++ [one 42] ≠ [] := by simp
    rw [List.map_cons, List.map_cons, List.cons_append, List.cons_append]
    generalize K.map one ++ [one 42] = R at ih hne
    cases R with
    | nil => exact absurd rfl hne
    | cons v r =>
      have hl : (one c).toList = [c] := by rw [Lib.toList_data]; rfl
      unfold parseL
      rw [hl, if_neg (by simp [n1]), if_neg (by simp [n2]), if_neg (by simp [n3]), ih]
      rfl
theorem chunk_lit : ∀ (m cur : List El), Flat m → chunkL cur (m ++ [star]) = [cur ++ m, []]
  | [], cur, _ => by
    rw [List.nil_append, List.append_nil]
    unfold chunkL
    rw [if_pos (show star.kind = 2 from rfl)]; rfl
  | x :: m, cur, h => by
    rw [List.cons_append]
    unfold chunkL
    rw [if_neg (by rcases h x (by simp) with e | e <;> omega), chunk_lit m _ (fun y hy => h y (by simp [hy])), List.append_assoc]; rfl
theorem flat_lit (K : List UInt8) : Flat (K.map litE) := fun x hx => by
  obtain ⟨c, -, rfl⟩ := List.mem_map.1 hx
  exact .inl rfl
/-- what matching between two stars gives -/
theorem glob_star {F U : List ByteArray} (K : List UInt8) (hl : F.length = U.length) :
    globF F U 3 0 [[], K.map litE, []] 0 [] = if hasP (K.map litE) (F.drop (seek F (K.map litE) 0)) = true then some [catB (U.take (seek F (K.map litE) 0)), catB (U.drop (seek F (K.map litE) 0 + K.length))] else none := by
  have hq := (seek_le (F := F) (m := K.map litE) _ 0 (Nat.le_refl _) (by omega)).2
  have p0 : place F 3 0 [] 0 = 0 := by unfold place; rw [if_neg (by omega), if_neg (by omega)]
  have p1 : place F 3 1 (K.map litE) 0 = seek F (K.map litE) 0 := by unfold place; rw [if_neg (by omega), if_pos (by omega)]
  generalize seek F (K.map litE) 0 = q at hq p1 ⊢
  unfold globF
  rw [if_neg (by omega), p0, if_neg (by simp [hasP])]
  have e0 : ((([] : List ByteArray) ++ if 0 < 0 then [catB ((U.drop 0).take (0 - 0))] else []) ++ anyL [] (U.drop 0)) = [] := rfl
  rw [e0]
  have ez : 0 + ([] : List El).length = 0 := rfl
  rw [ez]
  unfold globF
  rw [if_neg (by omega), p1]
  by_cases hh : hasP (K.map litE) (F.drop q) = true
  · rw [if_neg (by rw [hh]; decide), if_pos hh, if_pos (by omega), any_lit, List.append_nil, List.nil_append, List.length_map, Nat.sub_zero, List.drop_zero]
    have hlen := hasP_len _ _ hh
    rw [List.length_map, List.length_drop] at hlen
    have p2 : place F 3 2 [] (q + K.length) = F.length := by
      unfold place
      rw [if_pos ⟨by omega, rfl⟩, List.length_nil, Nat.sub_zero]; omega
    show globF F U 3 2 [[]] (q + K.length) _ = _
    unfold globF
    rw [if_neg (by omega), p2, if_neg (by cases F.drop F.length <;> simp [hasP]), if_pos (by omega)]
    unfold globF
    have e1 : (U.drop (q + K.length)).take (F.length - (q + K.length)) = U.drop (q + K.length) := List.take_of_length_le (by rw [List.length_drop]; omega)
    rw [e1]
    unfold anyL
    simp
  · rw [if_pos (by simpa using hh), if_neg hh]
theorem hasP_ext : ∀ (m : List El) (a b : List ByteArray), hasP m a = true → hasP m (a ++ b) = true
  | [], a, b, _ => by cases a <;> cases b <;> rfl
  | _ :: _, [], _, h => by cases h
  | x :: m, u :: a, b, h => by
    rw [List.cons_append]
    unfold hasP at h ⊢
    rw [Bool.and_eq_true] at h ⊢
    exact ⟨h.1, hasP_ext m a b h.2⟩
/-- what the law of pieces says -/
theorem pieces_law (comp : Int) (hc : comp ≠ 3) (s K : List UInt8) (ha : Asc K) (hK : ∀ c ∈ K, c ≠ 42 ∧ c ≠ 63 ∧ c ≠ 92) :
    (globR comp (42 :: K ++ [42]) s).isSome = Lib.contains (keyL comp s) (keyL comp K) ∧
    Lib.contains (keyL comp (s ++ K)) (keyL comp K) = true ∧
    ∀ out, globR comp (42 :: K ++ [42]) s = some out → ∃ a b, out = [a, b] ∧ a.size + K.length + b.size = s.length ∧ a.size ≤ s.length ∧ (K ≠ [] → Lib.contains (keyL comp a.data.toList) (keyL comp K) = false) := by
  obtain ⟨hk, hka⟩ := key_asc comp K ha
  have hU := wf_of s
  have hcs := catL_units _ s (Nat.le_refl _)
  have hFw : Wf ((unitsB s).map (ko comp)) := by
    have := wf_of (keyL comp s)
    rwa [units_key] at this
  have hFc : catL ((unitsB s).map (ko comp)) = keyL comp s := by rw [← key_wf comp hU, hcs]
  have hpat : chunksK comp (42 :: K ++ [42]) = [[], (K.map (lowA comp)).map litE, []] := by
    unfold chunksK unitsK
    have hA : Asc (42 :: K ++ [42]) := fun c hx => by
      rcases List.mem_append.1 hx with hx | hx
      · rcases List.mem_cons.1 hx with rfl | hx
        · decide
        · exact ha c hx
      · rw [List.mem_singleton] at hx; subst hx; decide
    obtain ⟨h1, h2⟩ := key_asc comp _ hA
    rw [h1, units_asc _ h2]
    have l42 : lowA comp 42 = 42 := by unfold lowA; split; decide +kernel; rfl
    rw [List.map_append, List.map_cons, List.map_cons, List.map_nil, l42, List.map_append, List.map_cons, List.map_cons, List.map_nil, List.cons_append]
    have hn : ∀ c ∈ K.map (lowA comp), c ≠ 42 ∧ c ≠ 63 ∧ c ≠ 92 := fun c hx => by
      obtain ⟨d, hd, rfl⟩ := List.mem_map.1 hx
      obtain ⟨n1, n2, n3⟩ := hK d hd
      have hd8 := ha d hd
      unfold lowA
      split
      · have key : ∀ x : Nat, x ∈ [42, 63, 92] → UInt8.ofNat (lowN d.toNat) = UInt8.ofNat x → d = UInt8.ofNat x := fun x hx he => by
          have h3 := congrArg UInt8.toNat he
          have h4 := (lowN_128 _).1 hd8
          have hx2 : x < 128 := by simp at hx; omega
          rw [UInt8.toNat_ofNat', UInt8.toNat_ofNat'] at h3
          have h5 := (low_sign _ hd8 x hx).1 (by omega)
          rw [← h5]; simp
        exact ⟨fun e => n1 (key 42 (by simp) e), fun e => n2 (key 63 (by simp) e), fun e => n3 (key 92 (by simp) e)⟩
      · exact ⟨n1, n2, n3⟩
    have hp := parse_lit _ 0 hka hn
    have hne : (K.map (lowA comp)).map one ++ [one 42] ≠ [] := by simp
    have hp2 : parseL (one 42 :: ((K.map (lowA comp)).map one ++ [one 42])) = star :: ((K.map (lowA comp)).map litE ++ [star]) := by
      rw [← hp]
      generalize (K.map (lowA comp)).map one ++ [one 42] = R at hne
      cases R with
      | nil => exact absurd rfl hne
      | cons v r =>
        have hl : (one 42).toList = [42] := by rw [Lib.toList_data]; rfl
        conv => lhs; unfold parseL
        rw [hl, if_pos rfl]; rfl
    rw [hp2]
    unfold chunkL
    rw [if_pos (show star.kind = 2 from rfl), chunk_lit _ _ (flat_lit _), List.nil_append]
  have hR : globR comp (42 :: K ++ [42]) s = if hasP ((K.map (lowA comp)).map litE) (((unitsB s).map (ko comp)).drop (seek ((unitsB s).map (ko comp)) ((K.map (lowA comp)).map litE) 0)) = true then some [catB ((unitsB s).take (seek ((unitsB s).map (ko comp)) ((K.map (lowA comp)).map litE) 0)), catB ((unitsB s).drop (seek ((unitsB s).map (ko comp)) ((K.map (lowA comp)).map litE) 0 + K.length))] else none := by
    unfold globR globL
    rw [if_neg hc, hpat]
    unfold unitsK
    rw [units_key]
    have := glob_star (F := (unitsB s).map (ko comp)) (U := unitsB s) (K.map (lowA comp)) (List.length_map ..)
    rw [List.length_map] at this
    exact this
  obtain ⟨s1, s2⟩ := seek_spec (F := (unitsB s).map (ko comp)) (m := (K.map (lowA comp)).map litE) _ 0 (Nat.le_refl _) (by omega)
  have hq := (seek_le (F := (unitsB s).map (ko comp)) (m := (K.map (lowA comp)).map litE) _ 0 (Nat.le_refl _) (by omega)).2
  have hfi : Lib.contains (keyL comp s) (keyL comp K) = true ↔ ∃ j, j ≤ ((unitsB s).map (ko comp)).length ∧ hasP ((K.map (lowA comp)).map litE) (((unitsB s).map (ko comp)).drop j) = true := by
    rw [hk, ← hFc]; exact found_iff hka hFw
  generalize hF : (unitsB s).map (ko comp) = F at *
  generalize seek F ((K.map (lowA comp)).map litE) 0 = q at *
  have hFU : F.length = (unitsB s).length := by rw [← hF, List.length_map]
  have hiff : hasP ((K.map (lowA comp)).map litE) (F.drop q) = true ↔ ∃ j, j ≤ F.length ∧ hasP ((K.map (lowA comp)).map litE) (F.drop j) = true := by
    constructor
    · intro h; exact ⟨q, hq, h⟩
    · rintro ⟨j, hj, h⟩
      rcases s1 with h1 | h1
      · exact h1
      · by_cases hjq : j < q
        · rw [s2 j (by omega) hjq] at h; cases h
        · have : j = q := by omega
          rw [← this]; exact h
  refine ⟨?_, ?_, ?_⟩
  · rw [hR]
    cases hcn : Lib.contains (keyL comp s) (keyL comp K) with
    | true => rw [if_pos (hiff.2 (hfi.1 hcn))]; rfl
    | false =>
      rw [if_neg (fun h => by have := hfi.2 (hiff.1 h); rw [this] at hcn; cases hcn)]; rfl
  · rw [key_app comp s K ha]
    exact (contains_iff _ _).2 ⟨(keyL comp s).length, by rw [List.length_append]; omega, by rw [List.drop_left]; exact List.prefix_refl _⟩
  · intro out ho
    rw [hR] at ho
    split at ho
    · rename_i hh
      injection ho with ho
      obtain ⟨r, hr⟩ := has_to _ _ hh
      have sz : ∀ us : List ByteArray, (∀ u ∈ us, IsUnit u) → (catL (us.map (ko comp))).length = (catL us).length := fun us h => catL_len _ _ (by
        rw [List.map_map]
        exact List.map_congr_left fun u hu => by
          show (ko comp u).size = u.size
          unfold ko; split
          · exact fo_size (h u hu)
          · rfl)
      have hmem := wf_mem _ hU
      have e1 : catL F = catL (F.take q) ++ catL (F.drop q) := by rw [← catL_append, List.take_append_drop]
      have e2 : catL (F.drop q) = K.map (lowA comp) ++ catL (F.drop (q + K.length)) := by
        rw [hr, catL_append, catL_one]
        have : F.drop (q + K.length) = r := by
          rw [← List.drop_drop, hr]
          have : ((K.map (lowA comp)).map one).length = K.length := by rw [List.length_map, List.length_map]
          rw [← this, List.drop_left]
        rw [this]
      have l1 : (catL (F.take q)).length = (catL ((unitsB s).take q)).length := by
        rw [← hF, ← List.map_take]
        exact sz _ fun u hu => hmem u (List.mem_of_mem_take hu)
      have l2 : (catL (F.drop (q + K.length))).length = (catL ((unitsB s).drop (q + K.length))).length := by
        rw [← hF, ← List.map_drop]
        exact sz _ fun u hu => hmem u (List.mem_of_mem_drop hu)
      have l3 : (catL F).length = s.length := by rw [hFc, keyL_len]
      have bs : ∀ us, (catB us).size = (catL us).length := fun us => by rw [← size_l, catB_l]
      have tot : (catB ((unitsB s).take q)).size + K.length + (catB ((unitsB s).drop (q + K.length))).size = s.length := by
        rw [bs, bs, ← l1, ← l2, ← l3, e1, e2, List.length_append, List.length_append, List.length_map]; omega
      refine ⟨_, _, ho.symm, tot, by omega, fun hne => ?_⟩
      have hwt := wf_take hU q
      rw [catB_l, key_wf comp hwt]
      have ht : ((unitsB s).take q).map (ko comp) = F.take q := by rw [← hF, List.map_take]
      rw [ht, ← Bool.not_eq_true]
      intro hx
      have hFt : Wf (F.take q) := wf_take hFw q
      rw [hk] at hx
      obtain ⟨j, hj, hp⟩ := (found_iff hka hFt).1 hx
      have hlen := hasP_len _ _ hp
      rw [List.length_map, List.length_map, List.length_drop, List.length_take] at hlen
      have hKp : 0 < K.length := List.length_pos_iff.2 hne
      have hjq : j < q := by omega
      have hx2 := hasP_ext _ _ (F.drop q) hp
      have : (F.take q).drop j ++ F.drop q = F.drop j := by
        have h1 := List.take_append_drop q F
        have h2 : ((F.take q) ++ F.drop q).drop j = (F.take q).drop j ++ F.drop q := List.drop_append_of_le_length (by rw [List.length_take]; omega)
        rw [← h2, h1]
      rw [this, s2 j (by omega) hjq] at hx2
      cases hx2
    · cases ho
end Go.Proofs.YtlbnhkojfefccaaDoor
