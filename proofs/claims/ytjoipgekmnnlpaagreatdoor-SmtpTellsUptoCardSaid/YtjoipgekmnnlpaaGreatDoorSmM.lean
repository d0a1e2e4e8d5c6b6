/- Plain: an option of MAIL as the program reads it. -/
import Derived.Test.YtjoipgekmnnlpaaGreatDoorSmR
namespace Sm
open Go C1
def sizeN : List UInt8 := [83, 73, 90, 69]
def bodyN : List UInt8 := [66, 79, 68, 89]
theorem up_dig (c : UInt8) (h : digC (up c) = true) : up c = c := by
  have h1 := (digC_iff _).1 h
  unfold up at h1 ⊢
  split
  · rename_i hc
    rw [if_pos hc] at h1
    have : (c - 32).toNat = c.toNat - 32 := by
      rw [UInt8.toNat_sub_of_le _ _ (by rw [UInt8.le_iff_toNat_le]; show 32 ≤ c.toNat; omega)]
      rfl
    omega
  · rfl
theorem dig_up (c : UInt8) (h : digC c = true) : up c = c := by
  have h1 := (digC_iff _).1 h
  unfold up
  rw [if_neg (by omega)]
theorem map_up_dig : ∀ l : List UInt8, (l.map up).all digC = true → l.map up = l
  | [], _ => rfl
  | c :: r, h => by
    rw [List.map_cons, List.all_cons, Bool.and_eq_true] at h
    rw [List.map_cons, up_dig c h.1, map_up_dig r h.2]
theorem map_dig_up : ∀ l : List UInt8, l.all digC = true → l.map up = l
  | [], _ => rfl
  | c :: r, h => by
    rw [List.all_cons, Bool.and_eq_true] at h
    rw [List.map_cons, dig_up c h.1, map_dig_up r h.2]
theorem numV_some {l : List UInt8} {v : Nat} (h : numV l = some v) : l.all digC = true ∧ l ≠ [] := by
  unfold numV at h
  split at h
  · rename_i hc; exact ⟨hc.1, hc.2.1⟩
  · cases h
theorem asc_dig {l : List UInt8} (h : l.all digC = true) : ∀ c ∈ l, c.toNat < 128 := fun c hc => by
  have := (digC_iff c).1 (List.all_eq_true.1 h c hc)
  omega
theorem asc_key : ∀ c ∈ sizeK, c.toNat < 128 := by decide
theorem cut_key (V : List UInt8) : Lib.cut (sizeK ++ V) [61] = (sizeN, V, true) := by
  rw [cut_eq]
  rfl
theorem cut_found {g K V : List UInt8} {f : Bool} (h : Lib.cut g [61] = (K, V, f)) (hV : V ≠ []) : g = K ++ 61 :: V := by
  rw [cut_eq] at h
  split at h
  · injection h with h1 h2
    injection h2 with h2 h3
    exact absurd h2.symm hV
  · rename_i hd
    injection h with h1 h2
    injection h2 with h2 h3
    have e := List.takeWhile_append_dropWhile (p := fun c => decide (c ≠ 61)) (l := g)
    cases hx : g.dropWhile (fun c => decide (c ≠ 61)) with
    | nil => exact absurd hx hd
    | cons c r =>
      have hc : c = 61 := by
        have := List.head_dropWhile_not (fun c => decide (c ≠ 61)) (l := g) hd
        simp only [hx, List.head_cons] at this
        simpa using this
      rw [hx] at e h2
      rw [← e, h1, hc, ← h2]
      rfl
theorem trimW_len (l : List UInt8) : (trimW l).length ≤ l.length := by
  unfold trimW
  have h1 := (List.dropWhile_sublist blk (l := (l.reverse.dropWhile blk).reverse)).length_le
  have h2 := (List.dropWhile_sublist blk (l := l.reverse)).length_le
  rw [List.length_reverse] at h1 h2
  omega
theorem trimW_head (l : List UInt8) (c : UInt8) (r : List UInt8) (h : trimW l = c :: r) : blk c = false := by
  unfold trimW at h
  have hn : (l.reverse.dropWhile blk).reverse.dropWhile blk ≠ [] := by rw [h]; simp
  have := List.head_dropWhile_not blk (l := (l.reverse.dropWhile blk).reverse) hn
  simp only [h, List.head_cons] at this
  simpa using this
theorem wordW_len (l : List UInt8) (h : l ≠ []) : (wordW l).1.length ≤ l.length ∧ (wordW l).2.length < l.length := by
  have h0 : 0 < l.length := List.length_pos_iff.2 h
  have ht := trimW_len l
  unfold wordW
  refine ⟨by have := (List.takeWhile_sublist (fun c => !blk c) (l := trimW l)).length_le; show (List.takeWhile _ _).length ≤ _; omega, ?_⟩
  show (trimW (List.dropWhile (fun c => !blk c) (trimW l))).length < l.length
  have h1 := trimW_len (List.dropWhile (fun c => !blk c) (trimW l))
  cases hx : trimW l with
  | nil => rw [List.dropWhile_nil]; exact h0
  | cons c r =>
    have hc := trimW_head l c r hx
    have : (List.dropWhile (fun c => !blk c) (c :: r)).length ≤ r.length := by
      rw [List.dropWhile_cons, if_pos (by rw [hc]; rfl)]
      exact (List.dropWhile_sublist _).length_le
    rw [hx] at h1 ht
    rw [List.length_cons] at ht
    omega
/-- what mail answers: the code, and the sender -/
def mailC (most : Nat) (g hs : Bool) (rest : List UInt8) : Nat × Option (List UInt8) :=
  if (!g || hs) = true then (503, none) else
  match path2 fromK rest with
  | none => (501, none)
  | some (a, y) =>
    if ((!a.isEmpty && !mayW a) || hdB y) = true then (501, none) else
    match optsW y.length y false false 0 with
    | none => (501, none)
    | some n => if most < n then (552, none) else (250, some a)
theorem mailW_eq (most : Nat) (st : Ses) (rest : List UInt8) : mailW most st rest = (match (mailC most st.greeted st.sender.isSome rest).2 with | none => st | some a => { st with sender := some a }, repW (mailC most st.greeted st.sender.isSome rest).1) := by
  unfold mailW mailC
  split
  · rfl
  · cases path2 fromK rest with
    | none => rfl
    | some p =>
      simp only
      split
      · rfl
      · cases optsW p.2.length p.2 false false 0 with
        | none => rfl
        | some n => simp only; split <;> rfl
end Sm
namespace Go.Proofs.YtjoipgekmnnlpaaGreatDoor
open Go C1 Sm
theorem mapD_lenN : ∀ (n : Nat) (p : List UInt8), p.length ≤ n → (Lib.mapD upR p).length ≤ 4 * p.length
  | n, p, hn => by
    by_cases h : p = []
    · subst h; rw [Lib.mapD_nil]; exact Nat.zero_le _
    · have h0 : 0 < p.length := List.length_pos_iff.2 h
      cases n with
      | zero => omega
      | succ n =>
        have hw := Lib.decodeL_width p
        have ih := mapD_lenN n (p.drop (Lib.decodeL p).2) (by rw [List.length_drop]; omega)
        rw [Lib.mapD_step upR p h, List.length_append]
        rw [List.length_drop] at ih
        have he : (if 0 ≤ upR (Lib.decodeL p).1 then Lib.encodeRune (upR (Lib.decodeL p).1) else []).length ≤ 4 := by
          split
          · unfold Lib.encodeRune
            rw [List.length_map]
            exact (Lib.encodeRuneZ_length _).2
          · exact Nat.zero_le _
        omega
theorem mapD_len (p : List UInt8) : (Lib.mapD upR p).length ≤ 4 * p.length := mapD_lenN p.length p (Nat.le_refl _)
theorem optW_eq (p : List UInt8) : optW p = if p.map up = body7 ∨ p.map up = body8 then some none else match beginW sizeK p with | some v => (numV v).map some | none => none := rfl
theorem opt_body (p : List UInt8) (h : Lib.mapD upR p = body7 ∨ Lib.mapD upR p = body8) : optW p = some none ∧ (Lib.cut (Lib.mapD upR p) [61]).1 = bodyN := by
  refine ⟨?_, ?_⟩
  · rw [optW_eq, if_pos]
    rcases h with h | h
    · exact .inl ((map_iff _ _ (by intro c hc; revert c; decide)).1 h)
    · exact .inr ((map_iff _ _ (by intro c hc; revert c; decide)).1 h)
  · rcases h with h | h <;> rw [h, cut_eq] <;> rfl
theorem not_body (p : List UInt8) (h : ¬ (Lib.mapD upR p = body7 ∨ Lib.mapD upR p = body8)) : ¬ (p.map up = body7 ∨ p.map up = body8) := by
  rintro (e | e)
  · exact h (.inl ((map_iff _ _ (by intro c hc; revert c; decide)).2 e))
  · exact h (.inr ((map_iff _ _ (by intro c hc; revert c; decide)).2 e))
theorem opt_size (p K V : List UInt8) (f : Bool) (v : Nat) (hn : ¬ (Lib.mapD upR p = body7 ∨ Lib.mapD upR p = body8)) (hc : Lib.cut (Lib.mapD upR p) [61] = (K, V, f)) (hK : K = sizeN) (hv : numV V = some v) : optW p = some (some v) := by
  obtain ⟨h1, h2⟩ := numV_some hv
  have hg := cut_found hc h2
  rw [hK] at hg
  have hm : p.map up = sizeK ++ V := (map_iff _ _ (by
    intro c hc
    rcases List.mem_append.1 hc with h | h
    · exact asc_key c h
    · exact asc_dig h1 c h)).1 hg
  rw [optW_eq, if_neg (not_body p hn)]
  have ht : (p.take 5).map up = sizeK := by rw [List.map_take, hm]; rfl
  have hd : (p.drop 5).map up = V := by rw [List.map_drop, hm]; rfl
  have hb : beginW sizeK p = some (p.drop 5) := by unfold beginW; rw [if_pos (by exact ht)]; rfl
  rw [hb]
  have : p.drop 5 = V := by rw [← map_up_dig (p.drop 5) (by rw [hd]; exact h1)]; exact hd
  show (numV (p.drop 5)).map some = _
  rw [this, hv]
  rfl
theorem opt_none (p K V : List UInt8) (f : Bool) (hn : ¬ (Lib.mapD upR p = body7 ∨ Lib.mapD upR p = body8)) (hc : Lib.cut (Lib.mapD upR p) [61] = (K, V, f)) (h : ¬ (K = sizeN ∧ numV V ≠ none)) : optW p = none := by
  rw [optW_eq, if_neg (not_body p hn)]
  cases hb : beginW sizeK p with
  | none => rfl
  | some x =>
    simp only
    cases hv : numV x with
    | none => rfl
    | some v =>
      exfalso
      obtain ⟨h1, h2⟩ := numV_some hv
      unfold beginW at hb
      split at hb
      · rename_i ht
        injection hb with hb
        have hm : p.map up = sizeK ++ x := by
          rw [← List.take_append_drop 5 p, List.map_append]
          rw [show (List.take 5 p).map up = sizeK from ht, show List.drop 5 p = x from hb, map_dig_up x h1]
        have hg : Lib.mapD upR p = sizeK ++ x := (map_iff _ _ (by
          intro c hc
          rcases List.mem_append.1 hc with h | h
          · exact asc_key c h
          · exact asc_dig h1 c h)).2 hm
        rw [hg, cut_key] at hc
        injection hc with e1 e2
        injection e2 with e2 _
        exact h ⟨e1.symm, by rw [← e2, hv]; simp⟩
      · cases hb
end Go.Proofs.YtjoipgekmnnlpaaGreatDoor
