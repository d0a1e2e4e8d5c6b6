/- Walks: a mail session as a whole: New, Answer, a line, Clone, Mail. -/
import Derived.Test.YtjoipgekmnnlpaaGreatDoorSmU
import Derived.Test.YtjoipgekmnnlpaaGreatDoorSmPz
namespace Go.Proofs.YtjoipgekmnnlpaaGreatDoor
open Go.RowKit Go.Shelf Go.Lib Pk Sm

section
variable {G : Nat} {w w' : World} {sb most : Nat} {fp kv sp tv bp : Value} {s : Whl} {R : Roles}
theorem ses_answer (h : SesAt G w sb most s R) (e0 : Int) :
    Calls Tryz.prog 21 #[.pointer (some ⟨sb, 0, none⟩), .int .i64 e0] w (StpT G w sb most R ⟨(answerW s.st e0).1, s.rest, s.kept⟩ (answerW s.st e0).2) := by
  obtain ⟨fp, kv, sp, tv, bp, h⟩ := h
  cases hw : s.st.waits with
  | false =>
    have hr := h.raw
    rw [hw] at hr
    refine (answer_no e0 hr).mono ?_
    rintro e w' ⟨rfl, rfl⟩
    have e1 : answerW s.st e0 = (s.st, []) := by unfold answerW; rw [if_pos hw]
    rw [e1]
    exact ⟨rfl, Stp.same ⟨fp, kv, sp, tv, bp, h⟩ (Below.refl _ _)⟩
  | true =>
    have hr := h.raw
    rw [hw] at hr
    refine (answer_yes e0 h.ctx h.G_sb hr).mono ?_
    rintro e w' ⟨rfl, h1, f⟩
    have e1 : answerW s.st e0 = ({ reset s.st with waits := false, body := none }, repW (answerC e0)) := by unfold answerW; rw [if_neg (by rw [hw]; decide)]
    rw [e1]
    exact ⟨rfl, h.turn (st := { reset s.st with waits := false, body := none }) f h1 (ListAt.nil _ _ _) rfl rfl⟩
theorem ses_over (h : SesAt G w sb most s R) : Calls Tryz.prog 16 #[.pointer (some ⟨sb, 0, none⟩)] w fun e w' => e = .returned (.bool s.st.over) ∧ w' = w := by
  obtain ⟨fp, kv, sp, tv, bp, h⟩ := h
  exact over_any h.raw
theorem ses_greet (h : SesAt G w sb most s R) : Calls Tryz.prog 12 #[.pointer (some ⟨sb, 0, none⟩)] w (StpT G w sb most R s (repW 220)) := by
  refine (greet_any _ h.ctx).mono ?_
  rintro e w' ⟨rfl, hb⟩
  exact ⟨rfl, Stp.same h hb⟩
theorem Ctx.self (h : Ctx G w) : Ctx w.heap.size w := ⟨w, rfl, h.said, h.tab, h.u8, h.max, h.err, Below.refl _ _⟩
theorem ses_new (n : Int) (hC : Ctx G w) : Calls Tryz.prog 10 #[.int .i64 n] w fun e w' => ∃ sb R, e = .returned (.pointer (some ⟨sb, 0, none⟩)) ∧ SesAt G w' sb (clampM n) begin0 R ∧ (∀ k, R k ≠ 0 → w.heap.size ≤ k) ∧ Below w.heap.size w w' := by
  refine (new_any n w).mono ?_
  rintro e w' ⟨rfl, hb, hr, hf⟩
  have hG := hC.le
  obtain ⟨R, hR⟩ : ∃ R : Roles, R = fun k => if k = w.heap.size + 1 then 1 else if k = w.heap.size then 2 else 0 := ⟨_, rfl⟩
  have e1 : R (w.heap.size + 1) = 1 := by rw [hR]; exact if_pos rfl
  have e2 : R w.heap.size = 2 := by rw [hR]; show (if w.heap.size = w.heap.size + 1 then 1 else if w.heap.size = w.heap.size then 2 else 0) = 2; rw [if_neg (by omega), if_pos rfl]
  have e3 : ∀ k, R k ≠ 0 → k = w.heap.size + 1 ∨ k = w.heap.size := fun k e => by
    rw [hR] at e
    by_cases h1 : k = w.heap.size + 1
    · exact .inl h1
    · by_cases h2 : k = w.heap.size
      · exact .inr h2
      · exact absurd (by show (if k = w.heap.size + 1 then 1 else if k = w.heap.size then 2 else 0) = 0; rw [if_neg h1, if_neg h2]) e
  have hl := lt_of_block hr
  refine ⟨w.heap.size + 1, R, rfl, ⟨_, _, _, _, _, hC.below hb, fun k e => ?_, e1, hr, ⟨w.heap.size, _, rfl, e2, hf, Qs.nil _ _ _ _, fun k e => by cases e⟩, ListAt.nil _ _ _, ListAt.nil _ _ _, rfl, rfl⟩, fun k e => ?_, hb⟩
  · rcases e3 k e with rfl | rfl <;> omega
  · rcases e3 k e with rfl | rfl <;> omega
/-- only blocks of the session that are its own, its recipients' or its body's turn -/
theorem SesR.turnG (h : SesR G w sb most fp kv sp tv bp s R) {Y : Nat → Prop} (hY : ∀ k, Y k → R k = 1 ∨ R k = 5 ∨ R k = 7 ∨ R k = 8) (f : Fr Y w w') {R' : Roles} (hE : Ext w R R') (hB : ∀ k, R' k ≠ 0 → R k ≠ 0 ∨ w.heap.size ≤ k ∧ k < w'.heap.size) {st : Ses} {sp' tv' bp' : Value} (hr : Raw w' sb most fp kv st.greeted sp' tv' bp' st.long st.waits st.over)
    (ht : ListAt w' R' 5 tv' st.to) (hs : SndAt w' R' sp' st.sender) (hb : BodyAt w' R' bp' st.body) : Stp G w sb most R w' ⟨st, s.rest, s.kept⟩ := by
  have hf : ∀ k, k < w.heap.size → R k = 2 ∨ R k = 3 ∨ R k = 4 → w'.heap[k]? = w.heap[k]? := fun k hk hR => f.block k hk fun e => by have := hY k e; omega
  have hI : ∀ k, Y k → R k ≠ 0 := fun k e => by have := hY k e; omega
  refine ⟨R', ⟨fp, kv, sp', tv', bp', h.ctx' hI f, fun k e => ?_, (hE sb h.sb_lt).trans h.me, hr, ?_, ?_, ht, hs, hb⟩, hE, f.mono hI⟩
  · rcases hB k e with e | ⟨e1, e2⟩
    · have := h.bnd k e
      have := f.size
      exact ⟨‹_ ∧ _›.1, by omega⟩
    · exact ⟨Nat.le_trans h.ctx.le e1, e2⟩
  · exact h.feed.kept (fun k hk e => hf k hk (by omega)) hE
  · exact h.kept.kept (fun k hk e => hf k hk (by omega)) hE
/-- a line of a message -/
theorem ses_line (h : SesAt G w sb most s R) (b : List UInt8) (hb : s.st.body = some b) (l : ByteArray) (hl : l.size ≤ 100000) (hlb : b.length ≤ 100000000) :
    Calls Tryz.prog 37 #[.pointer (some ⟨sb, 0, none⟩), .string l] w (StpT G w sb most R ⟨(lineW most s.st b l.data.toList).1, s.rest, s.kept⟩ (lineW most s.st b l.data.toList).2) := by
  obtain ⟨fp, kv, sp, tv, bp, h⟩ := h
  have hbd := h.body
  rw [hb] at hbd
  obtain ⟨bb, bv, rfl, hR7, hq, hR8⟩ := hbd
  have key : Calls Tryz.prog 37 #[.pointer (some ⟨sb, 0, none⟩), .string l] w fun e w' => LineP w w' sb most fp kv s.st.greeted sp tv bb bv b s.st.long s.st.waits s.st.over l.data.toList e := by
    cases hA : (decide (l.data.toList.getLast? = some 10) && decide (bareS l.data.toList = [46])) with
    | false => exact line_add bb bv b l hl hlb h.raw hq hA
    | true => exact line_end bb bv b l hl h.ctx h.G_sb h.raw hq hA
  refine key.mono ?_
  rintro e w' ⟨f, hp⟩
  have hY : ∀ k, LX sb bb bv k → R k = 1 ∨ R k = 5 ∨ R k = 7 ∨ R k = 8 := fun k e => by
    rcases e with e | e | e
    · rw [e]; exact .inl h.me
    · rw [e]; exact .inr (.inr (.inl hR7))
    · exact .inr (.inr (.inr (hR8 k e)))
  have hY5 : ∀ k, k < w.heap.size → R k = 5 ∨ R k = 6 → w'.heap[k]? = w.heap[k]? := fun k hk e => f.block k hk fun e' => by
    rcases e' with e' | e' | e'
    · rw [e', h.me] at e; omega
    · rw [e', hR7] at e; omega
    · rw [hR8 k e'] at e; omega
  unfold lineW
  cases hA : (decide (l.data.toList.getLast? = some 10) && decide (bareS l.data.toList = [46])) with
  | false =>
    rw [hA, if_pos rfl] at hp
    rw [if_pos rfl]
    obtain ⟨he, hr, v', hq', hn⟩ := hp
    refine ⟨he, ?_⟩
    have hto : ∀ R', Ext w R R' → ListAt w' R' 5 tv s.st.to := fun R' hE => h.rcp.kept (fun k hk e => hY5 k hk (.inl e)) hE
    have hsn : ∀ R', Ext w R R' → SndAt w' R' sp s.st.sender := fun R' hE => h.snd.kept (fun k hk e => hY5 k hk (.inr e)) hE
    rcases hn with hn | hn
    · exact h.turnG hY f (Ext.refl _ _) (fun _ e => .inl e) (st := { s.st with long := s.st.long || !decide (l.data.toList.getLast? = some 10), body := some (b ++ undot l.data.toList) }) hr (hto R (Ext.refl _ _)) (hsn R (Ext.refl _ _)) ⟨bb, v', rfl, hR7, hq', fun k e => hR8 k (by rw [← hn]; exact e)⟩
    · cases hv : v'.ownBlock with
      | none => exact h.turnG hY f (Ext.refl _ _) (fun _ e => .inl e) (st := { s.st with long := s.st.long || !decide (l.data.toList.getLast? = some 10), body := some (b ++ undot l.data.toList) }) hr (hto R (Ext.refl _ _)) (hsn R (Ext.refl _ _)) ⟨bb, v', rfl, hR7, hq', fun k e => by rw [hv] at e; cases e⟩
      | some nb =>
        have hE : Ext w R (R.put nb 8) := Ext.put R (hn nb hv)
        refine h.turnG hY f hE (put_bnd (hn nb hv) (hq'.2.2.1.lt hv)) (st := { s.st with long := s.st.long || !decide (l.data.toList.getLast? = some 10), body := some (b ++ undot l.data.toList) }) hr (hto _ hE) (hsn _ hE) ⟨bb, v', rfl, ?_, hq', fun k e => ?_⟩
        · have := hn nb hv
          rw [Roles.put_ne _ (by have := hq.lt; omega)]; exact hR7
        · rw [hv] at e
          injection e with e
          rw [← e]; exact Roles.put_at _ _ _
  | true =>
    rw [hA, if_neg (by decide)] at hp
    rw [if_neg (by decide)]
    by_cases hlg : s.st.long = true
    · rw [if_pos hlg] at hp
      rw [if_pos hlg]
      obtain ⟨he, hr⟩ := hp
      exact ⟨he, h.turnG hY f (Ext.refl _ _) (fun _ e => .inl e) (st := { reset s.st with body := none }) hr (ListAt.nil _ _ _) rfl rfl⟩
    · rw [if_neg hlg] at hp
      rw [if_neg hlg]
      by_cases hm : most < b.length
      · rw [if_pos (by exact_mod_cast hm)] at hp
        rw [if_pos hm]
        obtain ⟨he, hr⟩ := hp
        exact ⟨he, h.turnG hY f (Ext.refl _ _) (fun _ e => .inl e) (st := { reset s.st with body := none }) hr (ListAt.nil _ _ _) rfl rfl⟩
      · rw [if_neg (by exact_mod_cast hm)] at hp
        rw [if_neg hm]
        obtain ⟨he, hr, hq'⟩ := hp
        refine ⟨he, h.turnG hY f (Ext.refl _ _) (fun _ e => .inl e) (st := { s.st with waits := true }) hr (h.rcp.kept (fun k hk e => hY5 k hk (.inl e)) (Ext.refl _ _)) (h.snd.kept (fun k hk e => hY5 k hk (.inr e)) (Ext.refl _ _)) ?_⟩
        show BodyAt w' R _ s.st.body
        rw [hb]
        exact ⟨bb, bv, rfl, hR7, hq', hR8⟩
/-- a step of the session -/
theorem ses_command (h : SesAt G w sb most s R) (hm : most ≤ 65536) (ht : s.st.to.length ≤ 1000) (l : ByteArray) (hl : l.size ≤ 100000) :
    Calls Tryz.prog 38 #[.pointer (some ⟨sb, 0, none⟩), .string l] w (StpT G w sb most R ⟨(commandW most s.st l.data.toList).1, s.rest, s.kept⟩ (commandW most s.st l.data.toList).2) := by
  by_cases hn : l.data.toList.getLast? = some 10
  · exact command_yes h hm ht l hl hn
  · refine (command_no _ l hl hn h.ctx).mono ?_
    rintro e w' ⟨rfl, hb⟩
    have e1 : commandW most s.st l.data.toList = (s.st, repW 500) := by unfold commandW; rw [if_pos hn]
    rw [e1]
    exact ⟨rfl, Stp.same h hb⟩
end
end Go.Proofs.YtjoipgekmnnlpaaGreatDoor
