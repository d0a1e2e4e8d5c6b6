/- Plain: encoded words in header fields; what stands of a subject after it. -/
import Derived.Test.YtnclbbgdfaeilaaGreatDoorWdE
import Derived.Test.YtnclbbgdfaeilaaGreatDoorP30
import Derived.Test.YtnclbbgdfaeilaaGreatDoorHdPL
namespace Wh
open Go Go.RowKit Pk

theorem ok_spc {c : UInt8} (h : Wd.okB c = true) : Hd.spc c = c := by
  unfold Hd.spc
  rw [if_neg]
  rintro (rfl | rfl) <;> exact absurd h (by decide)
theorem ok_map : ∀ {l : List UInt8}, (∀ c ∈ l, Wd.okB c = true) → l.map Hd.spc = l
  | [], _ => rfl
  | c :: r, h => by rw [List.map_cons, ok_spc (h c (List.mem_cons_self ..)), ok_map (fun d hd => h d (List.mem_cons_of_mem _ hd))]
theorem blk_cases {c : UInt8} (h : Hd.blk c = true) : c = 32 ∨ c = 9 := by
  unfold Hd.blk at h
  simpa using h
theorem ok_blk {c : UInt8} (h : Wd.okB c = true) (hb : Hd.blk c = true) : c = 32 := by
  rcases blk_cases hb with rfl | rfl
  · rfl
  · exact absurd h (by decide)
theorem clean_ok {l : List UInt8} (h : ∀ c ∈ l, Wd.okB c = true) : Hd.cleanL l = Hd.trimB l := by unfold Hd.cleanL; rw [ok_map h]
theorem ok_end {o : Option UInt8} {l : List UInt8} (h : ∀ c ∈ l, Wd.okB c = true) (hm : ∀ c, o = some c → c ∈ l) (h1 : o ≠ some 32) : o.map Hd.blk ≠ some true := fun e => by
  cases ho : o with
  | none => rw [ho] at e; cases e
  | some c =>
    rw [ho, Option.map_some] at e
    exact h1 (by rw [ho, ok_blk (h c (hm c ho)) (Option.some.inj e)])
theorem clean_solid {l : List UInt8} (h : ∀ c ∈ l, Wd.okB c = true) (h1 : l.head? ≠ some 32) (h2 : l.getLast? ≠ some 32) : Hd.cleanL l = l := by
  rw [clean_ok h]
  have hs : Hd.solid l := ⟨ok_end h (fun c hc => List.mem_of_mem_head? hc) h1, ok_end h (fun c hc => List.mem_of_getLast? hc) h2⟩
  have := Hd.trim_mid (a := []) (b := []) (T := l) (fun _ h => by cases h) (fun _ h => by cases h) hs
  simpa using this
/-- fields written one after another, with nothing behind -/
theorem apart_par0 : ∀ ps : List (ByteArray × ByteArray), (∀ p ∈ ps, Hd.Named p.1.data.toList) → Hd.parS (Hd.putsL ps) = ps.map Hd.fldP ∧ Hd.endS (Hd.putsL ps) = (Hd.putsL ps).length
  | [], _ => Hd.par_nil
  | p :: ps, hp => by
    have hn := hp p (List.mem_cons_self ..)
    obtain ⟨i1, i2⟩ := apart_par0 ps (fun q hq => hp q (List.mem_cons_of_mem _ hq))
    obtain ⟨hh, he, -⟩ := Hd.put_head p.2.data.toList hn
    have e : Hd.putsL (p :: ps) = Hd.putB p ++ Hd.putsL ps := by unfold Hd.putsL; rw [List.flatMap_cons]
    have hgo : Hd.goesB (Hd.putsL ps) = false := by
      cases ps with
      | nil => rfl
      | cons q qs =>
        have e : Hd.putsL (q :: qs) = Hd.putB q ++ Hd.putsL qs := by unfold Hd.putsL; rw [List.flatMap_cons]
        rw [e]
        exact Hd.put_goes _ _ (hp q (by simp))
    obtain ⟨p1, p2⟩ := Hd.head_par hh he hgo
    have p1 : Hd.parS (Hd.putB p ++ Hd.putsL ps) = Hd.fldP p :: Hd.parS (Hd.putsL ps) := p1
    have p2 : Hd.endS (Hd.putB p ++ Hd.putsL ps) = (Hd.putB p).length + Hd.endS (Hd.putsL ps) := p2
    rw [e, p1, p2, i1, i2, List.map_cons]
    exact ⟨rfl, by rw [List.length_append]⟩
/-! a subject in a field -/
theorem noEq_tail {c : UInt8} {r : List UInt8} (h : Wd.noEq (c :: r) = true) : Wd.noEq r = true := by
  cases r with
  | nil => rfl
  | cons d r =>
    unfold Wd.noEq at h
    rw [Bool.and_eq_true] at h
    exact h.2
theorem noEq_drop : ∀ (a : List UInt8) {t : List UInt8}, Wd.noEq (a ++ t) = true → Wd.noEq t = true
  | [], _, h => h
  | _ :: a, _, h => noEq_drop a (noEq_tail h)
theorem noEq_take : ∀ (a t : List UInt8), Wd.noEq (a ++ t) = true → Wd.noEq a = true
  | [], _, _ => rfl
  | [_], _, _ => rfl
  | c :: d :: a, t, h => by
    have h1 := noEq_take (d :: a) t (noEq_tail h)
    have h2 : Wd.noEq (c :: d :: (a ++ t)) = true := h
    unfold Wd.noEq at h2 ⊢
    rw [Bool.and_eq_true] at h2 ⊢
    exact ⟨h2.1, h1⟩
theorem ok_low {c : UInt8} (h : Wd.okB c = true) : c.toNat < 128 := by
  unfold Wd.okB at h
  have : 32 ≤ c.toNat ∧ c.toNat ≤ 126 := by simpa using h
  omega
theorem repair_ok : ∀ l : List UInt8, (∀ c ∈ l, Wd.okB c = true) → U8.repairL l = l
  | [], _ => rfl
  | c :: r, h => by rw [Su.repair_asc (ok_low (h c (List.mem_cons_self ..))), repair_ok r (fun d hd => h d (List.mem_cons_of_mem _ hd))]
theorem repair_twice (l : List UInt8) : U8.repairL (U8.repairL l) = U8.repairL l := by
  rw [Wd.repair_eq l, Wd.repair_of (Wd.runes_sca l)]
theorem col_skip : ∀ (a X : List UInt8), (∀ c ∈ a, c = 32) → Su.col true (a ++ X) = Su.col true X
  | [], _, _ => rfl
  | c :: a, X, h => by
    have hc := h c (List.mem_cons_self ..)
    subst hc
    rw [List.cons_append, Su.col_cons, if_pos (by decide), if_pos rfl]
    exact col_skip a X (fun d hd => h d (List.mem_cons_of_mem _ hd))
theorem red_lead (a X : List UInt8) (h : ∀ c ∈ a, c = 32) : Su.red (Su.col false (a ++ X)) = Su.red (Su.col false X) := by
  cases a with
  | nil => rfl
  | cons c a =>
    have hc := h c (List.mem_cons_self ..)
    subst hc
    rw [List.cons_append, Su.col_cons, if_pos (by decide), if_neg (by decide), col_skip a X (fun d hd => h d (List.mem_cons_of_mem _ hd))]
    exact Su.red_plain_sp X
theorem red_tail (X b : List UInt8) (h : ∀ c ∈ b, c = 32) : Su.red (Su.col false (X ++ b)) = Su.red (Su.col false X) := by
  rw [Su.col_app]
  cases b with
  | nil => rw [show Su.col (Su.cs false X) [] = [] from rfl, List.append_nil]
  | cons c b =>
    have hc := h c (List.mem_cons_self ..)
    subst hc
    have e : Su.col (Su.cs false X) (32 :: b) = if Su.cs false X = true then [] else [32] := by
      have e0 := col_skip b [] (fun d hd => h d (List.mem_cons_of_mem _ hd))
      rw [List.append_nil] at e0
      rw [Su.col_cons, if_pos (by decide), e0]; rfl
    rw [e]
    exact Su.red_ends X _
theorem wrap_head (w : List UInt8) (t : List UInt8) : (Wd.wrapW w ++ t).head? = some 61 := rfl
theorem joinW_head : ∀ (w : List UInt8) (r : List (List UInt8)), (Wd.joinW (w :: r)).head? = some 61
  | _, [] => rfl
  | _, _ :: _ => rfl
theorem joinW_last : ∀ (r : List (List UInt8)) (w : List UInt8), (Wd.joinW (w :: r)).getLast? = some 61
  | [], w => by
    show (Wd.wrapW w).getLast? = some 61
    unfold Wd.wrapW
    rw [List.getLast?_append]; rfl
  | v :: r, w => by
    have e : Wd.joinW (w :: v :: r) = Wd.wrapW w ++ 32 :: Wd.joinW (v :: r) := rfl
    have h := joinW_last r v
    rw [e, List.getLast?_append, List.getLast?_cons, h]; rfl
theorem sf_key (X : List UInt8) : Su.red (Su.plain (Wd.decW (Hd.cleanL (Wd.encW X)))) = Su.red (Su.plain X) := by
  by_cases hp : Wd.plainS X = true
  · have he : Wd.encW X = X := by unfold Wd.encW; rw [if_pos hp]
    unfold Wd.plainS at hp
    rw [Bool.and_eq_true, List.all_eq_true] at hp
    obtain ⟨hq, hok⟩ := hp
    obtain ⟨a, b, hX, ha, hb, -⟩ := Hd.trim_split X
    rw [he, clean_ok hok]
    generalize Hd.trimB X = T at hX
    have ha32 : ∀ c ∈ a, c = 32 := fun c hc => ok_blk (hok c (by rw [hX]; simp [hc])) (ha c hc)
    have hb32 : ∀ c ∈ b, c = 32 := fun c hc => ok_blk (hok c (by rw [hX]; simp [hc])) (hb c hc)
    have hT : ∀ c ∈ T, Wd.okB c = true := fun c hc => hok c (by rw [hX]; simp [hc])
    have hqT : Wd.noEq T = true := noEq_drop a (noEq_take (a ++ T) b (by rw [← hX]; exact hq))
    have e1 : Su.plain X = Su.col false X := by unfold Su.plain; rw [repair_ok X hok]
    have e2 : Su.plain (Wd.decW T) = Su.col false T := by unfold Su.plain; rw [Wd.dec_noEq hqT, repair_twice, repair_ok T hT]
    rw [e1, e2, hX, red_tail _ _ hb32, red_lead _ _ ha32]
  · have he : Wd.encW X = Wd.joinW (Wd.wordsL X) := by unfold Wd.encW; rw [if_neg hp]
    obtain ⟨gs, hg, -, hne⟩ := Wd.words_good X
    have hw : ∃ w r, Wd.wordsL X = w :: r := by
      cases hc : Wd.wordsL X with
      | nil => rw [hc] at hg; exact absurd (List.map_eq_nil_iff.1 hg.symm) hne
      | cons w r => exact ⟨w, r, rfl⟩
    obtain ⟨w, r, hw⟩ := hw
    have hc : Hd.cleanL (Wd.encW X) = Wd.encW X := clean_solid (Wd.enc_ok X) (by rw [he, hw, joinW_head]; decide) (by rw [he, hw, joinW_last]; decide)
    rw [hc, Wd.dec_enc]
    unfold Su.plain
    rw [repair_twice]
end Wh
