/- Plain: a row of units, changed unit by unit, is again the units of its bytes; folding. -/
import Derived.Test.YtlbnhkojfefccaaDoorFdJ
namespace Go.Proofs.YtlbnhkojfefccaaDoor
open Go.RowKit Lib Pk U8 Su Fo

def isC (c : UInt8) : Bool := c.toNat / 64 == 2
/-- the bytes at the head that go on a rune -/
def cr (l : List UInt8) : List UInt8 := l.takeWhile isC
theorem enc_shape {n : Nat} (h : Sca n) : ∃ a r, Lib.encodeRune (n : Int) = a :: r ∧ isC a = false ∧ ∀ c ∈ r, isC c = true := by
  unfold Sca at h
  by_cases h1 : n < 128
  · refine ⟨_, _, enc_one n h1, ?_, by simp⟩
    unfold isC; rw [UInt8.toNat_ofNat']; simp; omega
  · by_cases h2 : n < 2048
    · refine ⟨_, _, enc_two n (by omega) h2, ?_, ?_⟩
      · unfold isC; rw [UInt8.toNat_ofNat']; simp; omega
      · intro c hc
        simp only [List.mem_cons, List.not_mem_nil, or_false] at hc
        subst hc
        unfold isC; rw [UInt8.toNat_ofNat']; simp; omega
    · by_cases h3 : n < 65536
      · refine ⟨_, _, enc_three n (by omega), ?_, ?_⟩
        · unfold isC; rw [UInt8.toNat_ofNat']; simp; omega
        · intro c hc
          simp only [List.mem_cons, List.not_mem_nil, or_false] at hc
          rcases hc with rfl | rfl <;> unfold isC <;> rw [UInt8.toNat_ofNat'] <;> simp <;> omega
      · refine ⟨_, _, enc_four n (by omega) (by omega), ?_, ?_⟩
        · unfold isC; rw [UInt8.toNat_ofNat']; simp; omega
        · intro c hc
          simp only [List.mem_cons, List.not_mem_nil, or_false] at hc
          rcases hc with rfl | rfl | rfl <;> unfold isC <;> rw [UInt8.toNat_ofNat'] <;> simp <;> omega
theorem cr_all {r t : List UInt8} (h : ∀ c ∈ r, isC c = true) : cr (r ++ t) = r ++ cr t := List.takeWhile_append_of_pos h
theorem cr_head {a : UInt8} {r : List UInt8} (h : isC a = false) : cr (a :: r) = [] := by
  unfold cr; rw [List.takeWhile_cons, if_neg (by rw [h]; decide)]
theorem cr_cons {a : UInt8} {r : List UInt8} (h : isC a = true) : cr (a :: r) = a :: cr r := by
  unfold cr; rw [List.takeWhile_cons, if_pos h]
theorem cr_enc {n : Nat} (h : Sca n) (x : List UInt8) : cr (Lib.encodeRune (n : Int) ++ x) = [] := by
  obtain ⟨a, r, h1, h2, -⟩ := enc_shape h
  rw [h1, List.cons_append]; exact cr_head h2
theorem okay_enc {n : Nat} (h : Sca n) (x : List UInt8) : Okay (Lib.encodeRune (n : Int) ++ x) := by
  unfold Okay
  rw [dec_enc n h x]
  unfold Sca at h
  by_cases h1 : n < 128
  · left; rw [enc_one n h1, List.singleton_append, at_cons0, UInt8.toNat_ofNat']; omega
  · right
    show 1 < (Lib.encodeRune (n : Int)).length
    by_cases h2 : n < 2048
    · rw [enc_two n (by omega) h2]; simp
    · by_cases h3 : n < 65536
      · rw [enc_three n (by omega)]; simp
      · rw [enc_four n (by omega) (by omega)]; simp
/-- what stands at the head only asks for the bytes that go on -/
theorem okay_less {b : UInt8} {X Y : List UInt8} (hp : cr Y <+: cr X) (h : Okay (b :: Y)) : Okay (b :: X) := by
  rcases h with h | h
  · exact .inl h
  · obtain ⟨hs, he⟩ := enc_dec (b :: Y) (by simp) (.inr h)
    obtain ⟨a, r, h1, -, h3⟩ := enc_shape hs
    obtain ⟨k, hk⟩ : ∃ k, (dec (b :: Y)).2 = k + 1 := ⟨(dec (b :: Y)).2 - 1, by omega⟩
    rw [h1, hk, List.take_succ_cons] at he
    injection he with ha hr
    have e1 : Y = r ++ Y.drop k := by rw [hr]; exact (List.take_append_drop k Y).symm
    have e2 : cr Y = r ++ cr (Y.drop k) := by
      have := cr_all (t := Y.drop k) h3
      rwa [← e1] at this
    have e3 : r <+: X := List.IsPrefix.trans (⟨_, e2.symm⟩ : r <+: cr Y) (List.IsPrefix.trans hp (List.takeWhile_prefix _))
    obtain ⟨t, ht⟩ := e3
    have e4 : b :: X = Lib.encodeRune ((dec (b :: Y)).1 : Int) ++ t := by rw [h1, ← ht, ha]; rfl
    rw [e4]
    exact okay_enc hs t
/-- a row of units -/
def Wf : List ByteArray → Prop
  | [] => True
  | u :: r => 0 < u.size ∧ (dec (u.data.toList ++ catL r)).2 = u.size ∧ Wf r
theorem catL_cons (u : ByteArray) (r : List ByteArray) : catL (u :: r) = u.data.toList ++ catL r := List.flatMap_cons ..
theorem ba_ext {u v : ByteArray} (h : u.data.toList = v.data.toList) : u = v := ByteArray.ext (Array.ext' h)
theorem size_l (u : ByteArray) : u.data.toList.length = u.size := rfl
theorem units_cons {l : List UInt8} (h : l ≠ []) : unitsB l = ⟨(l.take (dec l).2).toArray⟩ :: unitsB (l.drop (dec l).2) := by
  unfold unitsB; rw [walk_cons _ l h]; rfl
theorem units_wf : ∀ us : List ByteArray, Wf us → unitsB (catL us) = us
  | [], _ => rfl
  | u :: r, ⟨h1, h2, h3⟩ => by
    rw [catL_cons]
    have hne : u.data.toList ++ catL r ≠ [] := by
      intro e
      have := congrArg List.length e
      rw [List.length_append, size_l, List.length_nil] at this
      omega
    have e1 : (u.data.toList ++ catL r).take u.size = u.data.toList := by rw [← size_l]; exact List.take_left
    have e2 : (u.data.toList ++ catL r).drop u.size = catL r := by rw [← size_l]; exact List.drop_left
    rw [units_cons hne, h2, e1, e2, units_wf r h3]
theorem wf_units : ∀ (n : Nat) (l : List UInt8), l.length ≤ n → Wf (unitsB l) := by
  intro n
  induction n with
  | zero => intro l h; have : l = [] := List.eq_nil_of_length_eq_zero (by omega); subst this; trivial
  | succ n ih =>
    intro l h
    by_cases he : l = []
    · subst he; trivial
    · have hw := dec_width l he
      rw [units_cons he]
      have ht := take_dec he
      refine ⟨?_, ?_, ih _ (by rw [List.length_drop]; omega)⟩
      · show 0 < (l.take (dec l).2).toArray.size
        simp only [List.size_toArray]; omega
      · rw [catL_units _ _ (Nat.le_refl _), List.take_append_drop]
        show _ = (l.take (dec l).2).toArray.size
        simp only [List.size_toArray]; omega
theorem wf_of (l : List UInt8) : Wf (unitsB l) := wf_units _ l (Nat.le_refl _)
theorem unit_wf {u : ByteArray} (h : IsUnit u) : Wf [u] := ⟨h.pos, by rw [show catL [] = [] from rfl, List.append_nil]; exact h.wid, trivial⟩
theorem unit_ne {u : ByteArray} (h : 0 < u.size) : u.data.toList ≠ [] := fun e => by
  have := size_l u
  rw [e] at this; simp at this; omega
theorem okay_unit {u : ByteArray} (h : IsUnit u) (ho : Okay u.data.toList) : ∃ n, Sca n ∧ u.data.toList = Lib.encodeRune (n : Int) := by
  obtain ⟨h1, h2⟩ := enc_dec _ (unit_ne h.pos) ho
  rw [h.wid, ← size_l, List.take_length] at h2
  exact ⟨_, h1, h2.symm⟩
theorem bad_unit {u : ByteArray} (h : IsUnit u) (ho : ¬ Okay u.data.toList) : u.size = 1 := by
  rw [← h.wid, dec_bad _ ho]
theorem wf_head {u : ByteArray} {X : List UInt8} (h1 : 0 < u.size) (h2 : (dec (u.data.toList ++ X)).2 = u.size) :
    (∃ n, Sca n ∧ u.data.toList = Lib.encodeRune (n : Int)) ∨ (∃ b, u.data.toList = [b] ∧ u.size = 1 ∧ ¬ Okay (b :: X)) := by
  have hne : u.data.toList ++ X ≠ [] := by
    intro e
    have := congrArg List.length e
    rw [List.length_append, size_l, List.length_nil] at this
    omega
  by_cases ho : Okay (u.data.toList ++ X)
  · obtain ⟨h3, h4⟩ := enc_dec _ hne ho
    rw [h2, ← size_l, List.take_left] at h4
    exact .inl ⟨_, h3, h4.symm⟩
  · have h5 := dec_bad _ ho
    rw [h5] at h2
    have h6 : u.size = 1 := h2.symm
    refine .inr ⟨_, one_of h6, h6, ?_⟩
    rw [one_of h6] at ho
    exact ho
theorem wf_mem : ∀ us : List ByteArray, Wf us → ∀ u ∈ us, IsUnit u := by
  intro us h
  have := units_mem _ (catL us) (Nat.le_refl _)
  rwa [units_wf us h] at this
/-- a unit that stands for another -/
def Sim (u v : ByteArray) : Prop := v = u ∨ (Okay u.data.toList ∧ IsUnit u ∧ Okay v.data.toList ∧ IsUnit v ∧ u.size = v.size)
def Like : List ByteArray → List ByteArray → Prop
  | _, [] => True
  | [], _ :: _ => False
  | u :: us, v :: vs => Sim u v ∧ Like us vs
theorem wf_like : ∀ (vs us : List ByteArray), Wf us → Like us vs → Wf vs ∧ cr (catL vs) <+: cr (catL us)
  | [], us, _, _ => ⟨trivial, List.nil_prefix⟩
  | v :: vs, [], _, h => h.elim
  | v :: vs, u :: us, ⟨h1, h2, h3⟩, ⟨hs, hl⟩ => by
    obtain ⟨i1, i2⟩ := wf_like vs us h3 hl
    rw [catL_cons, catL_cons]
    rcases hs with rfl | ⟨o1, k1, o2, k2, hz⟩
    · rcases wf_head h1 h2 with ⟨n, hn, he⟩ | ⟨b, hb, hz, hbad⟩
      · refine ⟨⟨h1, ?_, i1⟩, ?_⟩
        · rw [he, dec_enc n hn, ← he]; exact size_l _
        · rw [he, cr_enc hn]; exact List.nil_prefix
      · have hb2 : ¬ Okay (b :: catL vs) := fun ho => hbad (okay_less i2 ho)
        refine ⟨⟨h1, ?_, i1⟩, ?_⟩
        · rw [hb, List.singleton_append, dec_bad _ hb2, hz]
        · rw [hb, List.singleton_append, List.singleton_append]
          cases hc : isC b with
          | true => rw [cr_cons hc, cr_cons hc]; exact (List.prefix_cons_inj b).2 i2
          | false => rw [cr_head hc]; exact List.nil_prefix
    · obtain ⟨n, hn, he⟩ := okay_unit k2 o2
      refine ⟨⟨k2.pos, ?_, i1⟩, ?_⟩
      · rw [he, dec_enc n hn, ← he]; exact size_l _
      · rw [he, cr_enc hn]; exact List.nil_prefix
theorem like_take : ∀ (us : List ByteArray) (k : Nat), Like us (us.take k)
  | [], k => by rw [List.take_nil]; trivial
  | u :: us, 0 => trivial
  | u :: us, k + 1 => ⟨.inl rfl, like_take us k⟩
theorem wf_take {us : List ByteArray} (h : Wf us) (k : Nat) : Wf (us.take k) := (wf_like _ us h (like_take us k)).1
theorem wf_drop : ∀ (us : List ByteArray) (k : Nat), Wf us → Wf (us.drop k)
  | us, 0, h => h
  | [], k + 1, h => h
  | u :: us, k + 1, h => wf_drop us k h.2.2
/-- a unit, folded -/
def fo (u : ByteArray) : ByteArray := ⟨(foldH u.data.toList).toArray⟩
theorem fo_l (u : ByteArray) : (fo u).data.toList = foldH u.data.toList := by simp [fo]
theorem fo_bad {u : ByteArray} (h : IsUnit u) (ho : ¬ Okay u.data.toList) : fo u = u := by
  refine ba_ext ?_
  rw [fo_l, foldH_bad ho, ← bad_unit h ho, ← size_l, List.take_length]
theorem fo_ok {u : ByteArray} {n : Nat} (hn : Sca n) (he : u.data.toList = Lib.encodeRune (n : Int)) : (fo u).data.toList = Lib.encodeRune ((lowN n : Nat) : Int) := by
  rw [fo_l, he]
  have := foldH_enc hn []
  rwa [List.append_nil] at this
theorem fo_size {u : ByteArray} (h : IsUnit u) : (fo u).size = u.size := by
  rw [← size_l, fo_l, foldH_len _ (unit_ne h.pos), h.wid]
theorem unit_enc1 {u : ByteArray} {n : Nat} (hn : Sca n) (he : u.data.toList = Lib.encodeRune (n : Int)) : IsUnit u ∧ Okay u.data.toList := by
  have hd := dec_enc n hn []
  have ho := okay_enc hn []
  rw [List.append_nil] at hd ho
  rw [← he] at hd ho
  have hl := (enc_len n).1
  rw [← he, size_l] at hl
  rw [size_l] at hd
  exact ⟨⟨by omega, by rw [hd]⟩, ho⟩
theorem fo_sim {u : ByteArray} (h : IsUnit u) : Sim u (fo u) := by
  by_cases ho : Okay u.data.toList
  · obtain ⟨n, hn, he⟩ := okay_unit h ho
    obtain ⟨k1, k2⟩ := unit_enc1 (lowN_sca hn) (fo_ok hn he)
    exact .inr ⟨ho, h, k2, k1, (fo_size h).symm⟩
  · exact .inl (fo_bad h ho)
theorem fo_unit {u : ByteArray} (h : IsUnit u) : IsUnit (fo u) := by
  rcases fo_sim h with e | h2
  · rw [e]; exact h
  · exact h2.2.2.2.1
theorem fo_fo {u : ByteArray} (h : IsUnit u) : fo (fo u) = fo u := by
  by_cases ho : Okay u.data.toList
  · obtain ⟨n, hn, he⟩ := okay_unit h ho
    refine ba_ext ?_
    rw [fo_ok (lowN_sca hn) (fo_ok hn he), fo_ok hn he, lowN_idem]
  · rw [fo_bad h ho, fo_bad h ho]
theorem like_map : ∀ us : List ByteArray, (∀ u ∈ us, IsUnit u) → Like us (us.map fo)
  | [], _ => trivial
  | u :: us, h => ⟨fo_sim (h u (by simp)), like_map us fun v hv => h v (by simp [hv])⟩
theorem catL_fo (us : List ByteArray) : catL (us.map fo) = foldU us := by
  unfold catL foldU
  rw [List.flatMap_map]
  simp only [fo_l]
theorem fold_cat (l : List UInt8) : foldL l = catL ((unitsB l).map fo) := by rw [catL_fo, foldU_units _ l (Nat.le_refl _)]
theorem wf_fo {us : List ByteArray} (h : Wf us) : Wf (us.map fo) := (wf_like _ us h (like_map us (wf_mem us h))).1
theorem fold_wf {us : List ByteArray} (h : Wf us) : foldL (catL us) = catL (us.map fo) := by rw [fold_cat, units_wf us h]
theorem units_fold (l : List UInt8) : unitsB (foldL l) = (unitsB l).map fo := by rw [fold_cat]; exact units_wf _ (wf_fo (wf_of l))
theorem fold_unit {u : ByteArray} (h : IsUnit u) : foldL u.data.toList = (fo u).data.toList := by
  have := fold_wf (unit_wf h)
  rw [show catL [u] = u.data.toList from by rw [catL_cons]; exact List.append_nil _, show catL ([u].map fo) = (fo u).data.toList from by rw [List.map_cons, List.map_nil, catL_cons]; exact List.append_nil _] at this
  exact this
theorem map_fo_fo {us : List ByteArray} (h : ∀ u ∈ us, IsUnit u) : (us.map fo).map fo = us.map fo := by
  rw [List.map_map]
  exact List.map_congr_left fun u hu => fo_fo (h u hu)
theorem fold_fold (l : List UInt8) : foldL (foldL l) = foldL l := by
  have h := wf_of l
  rw [fold_cat l, fold_wf (wf_fo h), map_fo_fo (wf_mem _ h)]
theorem catL_len : ∀ us vs : List ByteArray, us.map (·.size) = vs.map (·.size) → (catL us).length = (catL vs).length
  | [], [], _ => rfl
  | [], _ :: _, h => by simp at h
  | _ :: _, [], h => by simp at h
  | u :: us, v :: vs, h => by
    rw [List.map_cons, List.map_cons] at h
    injection h with h1 h2
    rw [catL_cons, catL_cons, List.length_append, List.length_append, size_l, size_l, h1, catL_len us vs h2]
theorem foldL_len (l : List UInt8) : (foldL l).length = l.length := by
  have h : ((unitsB l).map fo).map (·.size) = (unitsB l).map (·.size) := by
    rw [List.map_map]
    exact List.map_congr_left fun u hu => fo_size (wf_mem _ (wf_of l) u hu)
  rw [fold_cat, catL_len _ _ h, catL_units _ l (Nat.le_refl _)]
/-- a unit as the collation sees it -/
def ko (comp : Int) (u : ByteArray) : ByteArray := if comp = 1 then fo u else u
theorem units_key (comp : Int) (l : List UInt8) : unitsB (keyL comp l) = (unitsB l).map (ko comp) := by
  unfold keyL
  by_cases h : comp = 1
  · rw [if_pos h, units_fold]
    exact List.map_congr_left fun u _ => by unfold ko; rw [if_pos h]
  · rw [if_neg h]
    have : ∀ us : List ByteArray, us.map (ko comp) = us := fun us => by
      rw [show us.map (ko comp) = us.map id from List.map_congr_left fun u _ => by unfold ko; rw [if_neg h]; rfl, List.map_id]
    rw [this]
theorem key_wf (comp : Int) {us : List ByteArray} (h : Wf us) : keyL comp (catL us) = catL (us.map (ko comp)) := by
  have := units_key comp (catL us)
  rw [units_wf us h] at this
  rw [← this, catL_units _ _ (Nat.le_refl _)]
theorem keyL_len (comp : Int) (l : List UInt8) : (keyL comp l).length = l.length := by
  unfold keyL
  split
  · exact foldL_len l
  · rfl
theorem units_key_len (comp : Int) (l : List UInt8) : (unitsB (keyL comp l)).length = (unitsB l).length := by rw [units_key, List.length_map]
def unitsK (comp : Int) (l : List UInt8) : List ByteArray := unitsB (keyL comp l)
def chunksK (comp : Int) (pat : List UInt8) : List (List El) := chunkL [] (parseL (unitsK comp pat))
def globL (comp : Int) (pat s : List UInt8) : Option (List ByteArray) := globF (unitsK comp s) (unitsB s) (chunksK comp pat).length 0 (chunksK comp pat) 0 []
end Go.Proofs.YtlbnhkojfefccaaDoor
