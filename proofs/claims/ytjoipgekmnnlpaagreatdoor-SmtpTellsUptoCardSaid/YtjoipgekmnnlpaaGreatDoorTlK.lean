/- Walks: the reference of layer 22: its session as the plain one: a command, a line, Answer, New. -/
import Derived.Test.YtjoipgekmnnlpaaGreatDoorTlN
import Derived.Test.YtjoipgekmnnlpaaGreatDoorSmX
namespace Go.Proofs.YtjoipgekmnnlpaaGreatDoor
open Go.RowKit Go.Shelf Go.Lib Pk Hx C1 Sm

/-- the reference's session in memory is the plain session s; its blocks lie in Z -/
structure RfR (Z : Nat → Prop) (w : World) (rb most fb : Nat) (kv tv : Value) (B L : ByteArray) (s : Whl) : Prop where
  raw : RawR w rb most fb kv s.st.greeted s.st.sender.isSome (bt (s.st.sender.getD [])) tv (s.st.body.isSome && !s.st.waits) s.st.long B s.st.waits s.st.over
  bod : ∀ b, s.st.body = some b → B = bt b
  feed : w.heap[fb]? = some (.cells #[.int .i64 1000, .string L] 84 (0, 0))
  rst : s.rest = L.data.toList.take 1000
  no : L.data.toList.contains 10 = false
  kept : Qs txL True w 9 kv (s.kept.map bt)
  rcp : Qs txL True w 9 tv (s.st.to.map bt)
  zr : Z rb
  zf : Z fb
  zk : ∀ k, kv.ownBlock = some k → Z k
  zt : ∀ k, tv.ownBlock = some k → Z k
/-- the same, what is left of the last line no longer than N -/
def RefAt (Z : Nat → Prop) (w : World) (rb most N : Nat) (s : Whl) : Prop := ∃ fb kv tv B L, RfR Z w rb most fb kv tv B L s ∧ L.size ≤ N
/-- what an operation of the reference's session leaves -/
def StR (Z : Nat → Prop) (w : World) (rb most N : Nat) (s : Whl) (t : List UInt8) (e : Ending) (w' : World) : Prop := e = .returned (.string (bt t)) ∧ RefAt Z w' rb most N s ∧ Fr Z w w'
section
variable {Z : Nat → Prop} {w w' : World} {rb most fb N : Nat} {kv tv : Value} {B L : ByteArray} {s : Whl}
theorem RfR.ne_rb {α : Type} {K : Lay α} {v : Value} {l : List α} {e : TypeId} (h : RfR Z w rb most fb kv tv B L s) (hq : Qs K True w e v l) (he : e ≠ 66) : v.ownBlock ≠ some rb := by
  intro e1
  obtain ⟨cs, fz, hc⟩ := hq.ty e1
  have h2 := h.raw
  unfold RawR at h2
  rw [hc] at h2
  injection h2 with h2
  injection h2 with _ h2
  exact he h2
theorem RfR.ne_fb (h : RfR Z w rb most fb kv tv B L s) : fb ≠ rb := by
  rintro rfl
  have h1 := h.feed
  have h2 := h.raw
  unfold RawR at h2
  rw [h1] at h2
  injection h2 with h2
  injection h2 with _ h2
  exact absurd h2 (by decide)
/-- only the session's own block turns -/
theorem RfR.turn (h : RfR Z w rb most fb kv tv B L s) (f : Fr (Bk rb) w w') {st : Ses} {tv' : Value} {B' : ByteArray}
    (hr : RawR w' rb most fb kv st.greeted st.sender.isSome (bt (st.sender.getD [])) tv' (st.body.isSome && !st.waits) st.long B' st.waits st.over) (hb : ∀ b, st.body = some b → B' = bt b)
    (hq : Qs txL True w' 9 tv' (st.to.map bt)) (hz : ∀ k, tv'.ownBlock = some k → Z k) : RfR Z w' rb most fb kv tv' B' L ⟨st, s.rest, s.kept⟩ ∧ Fr Z w w' := by
  have far : ∀ k, k < w.heap.size → k ≠ rb → w'.heap[k]? = w.heap[k]? := fun k hk hne => f.block k hk hne
  refine ⟨⟨hr, hb, (far fb (lt_of_block h.feed) h.ne_fb).trans h.feed, h.rst, h.no, h.kept.kept fun g e => far g (h.kept.lt e) fun e' => h.ne_rb h.kept (by decide) (by rw [e, e']), hq, h.zr, h.zf, h.zk, hz⟩, f.mono fun k e => by rw [show k = rb from e]; exact h.zr⟩
theorem RfR.to' (h : RfR Z w rb most fb kv tv B L s) (f : Fr (Bk rb) w w') : Qs txL True w' 9 tv (s.st.to.map bt) :=
  h.rcp.kept fun g e => f.block g (h.rcp.lt e) fun e' => h.ne_rb h.rcp (by decide) (by rw [e, show g = rb from e'])
theorem RfR.keep (h : RfR Z w rb most fb kv tv B L s) (hk : ∀ k, k < w.heap.size → Z k → w'.heap[k]? = w.heap[k]?) : RfR Z w' rb most fb kv tv B L s :=
  ⟨(hk rb h.raw.lt h.zr).trans h.raw, h.bod, (hk fb (lt_of_block h.feed) h.zf).trans h.feed, h.rst, h.no, h.kept.kept fun g e => hk g (h.kept.lt e) (h.zk g e), h.rcp.kept fun g e => hk g (h.rcp.lt e) (h.zt g e), h.zr, h.zf, h.zk, h.zt⟩
theorem RefAt.keep (h : RefAt Z w rb most N s) (hk : ∀ k, k < w.heap.size → Z k → w'.heap[k]? = w.heap[k]?) : RefAt Z w' rb most N s := by
  obtain ⟨fb, kv, tv, B, L, h, hl⟩ := h
  exact ⟨fb, kv, tv, B, L, h.keep hk, hl⟩
theorem RefAt.below (h : RefAt Z w rb most N s) (hb : Below w.heap.size w w') : RefAt Z w' rb most N s := h.keep fun k hk _ => hb.block k hk
/-- another view of the same blocks -/
theorem RefAt.zone {Y : Nat → Prop} (h : RefAt Z w rb most N s) (hY : ∀ k, k < w.heap.size → Z k → Y k) : RefAt Y w rb most N s := by
  obtain ⟨fb, kv, tv, B, L, h, hl⟩ := h
  exact ⟨fb, kv, tv, B, L, ⟨h.raw, h.bod, h.feed, h.rst, h.no, h.kept, h.rcp, hY _ h.raw.lt h.zr, hY _ (lt_of_block h.feed) h.zf, fun k e => hY k (h.kept.lt e) (h.zk k e), fun k e => hY k (h.rcp.lt e) (h.zt k e)⟩, hl⟩
theorem RfR.stR (h : RfR Z w' rb most fb kv tv B L s ∧ Fr Z w w') (hl : L.size ≤ N) (t : List UInt8) : StR Z w rb most N s t (.returned (.string (bt t))) w' := ⟨rfl, ⟨fb, kv, tv, B, L, h.1, hl⟩, h.2⟩
theorem RfR.same (h : RfR Z w rb most fb kv tv B L s) (hl : L.size ≤ N) (hb : Below w.heap.size w w') (t : List UInt8) : StR Z w rb most N s t (.returned (.string (bt t))) w' :=
  ⟨rfl, ⟨fb, kv, tv, B, L, h.keep fun k hk _ => hb.block k hk, hl⟩, Fr.of_below hb⟩
theorem nilQ (w : World) : Qs txL True w 9 (.slice none 0 0) (([] : List (List UInt8)).map bt) := Qs.nil _ _ _ _
/-- MAIL -/
theorem refMail (h : RfR Z w rb most fb kv tv B L s) (hN : L.size ≤ N) (rest : ByteArray) (hl : rest.size ≤ 100000) (hn : NT rest.data.toList) :
    Calls Tryz.prog 76 #[.pointer (some ⟨rb, 0, none⟩), .string rest] w (StR Z w rb most N ⟨(mailW most s.st rest.data.toList).1, s.rest, s.kept⟩ (mailW most s.st rest.data.toList).2) := by
  refine (mailR_any rest hl hn h.raw).mono ?_
  rintro e w' ⟨rfl, f, hp⟩
  rw [mailW_eq]
  cases hc : (mailC most s.st.greeted s.st.sender.isSome rest.data.toList).2 with
  | none =>
    rw [hc] at hp
    exact RfR.stR (h.turn f (st := s.st) hp h.bod (h.to' f) h.zt) hN _
  | some a =>
    rw [hc] at hp
    exact RfR.stR (h.turn f (st := { s.st with sender := some a }) hp h.bod (h.to' f) h.zt) hN _
/-- RCPT -/
theorem refRcpt (h : RfR Z w rb most fb kv tv B L s) (hN : L.size ≤ N) (hZ : ∀ k, w.heap.size ≤ k → Z k) (rest : ByteArray) (hl : rest.size ≤ 100000) (hn : NT rest.data.toList) (ht : s.st.to.length ≤ 1000) :
    Calls Tryz.prog 77 #[.pointer (some ⟨rb, 0, none⟩), .string rest] w (StR Z w rb most N ⟨(rcptW s.st rest.data.toList).1, s.rest, s.kept⟩ (rcptW s.st rest.data.toList).2) := by
  refine (rcptR_any rest s.st.to hl hn ht h.rcp (h.ne_rb h.rcp (by decide)) h.raw).mono ?_
  rintro e w' ⟨rfl, f, hp⟩
  rw [rcptW_eq]
  cases hc : (rcptC s.st.sender.isSome s.st.to rest.data.toList).2 with
  | none =>
    rw [hc] at hp
    exact RfR.stR (h.turn f (st := s.st) hp.1 h.bod (h.to' f) h.zt) hN _
  | some a =>
    rw [hc] at hp
    obtain ⟨tv', hr, hq, ho⟩ := hp
    exact RfR.stR (h.turn f (st := { s.st with «to» := s.st.to ++ [a] }) hr h.bod hq (fun k e => hZ k (ho k e))) hN _
/-- a line of a message -/
theorem refLine (h : RfR Z w rb most fb kv tv B L s) (hN : L.size ≤ N) (b : List UInt8) (hb : s.st.body = some b) (hw : s.st.waits = false) (l : ByteArray) (hl : l.size ≤ 100000) (hlb : b.length ≤ 100000000) :
    Calls Tryz.prog 41 #[.pointer (some ⟨rb, 0, none⟩), .string l] w (StR Z w rb most N ⟨(lineW most s.st b l.data.toList).1, s.rest, s.kept⟩ (lineW most s.st b l.data.toList).2) := by
  have hB := h.bod b hb
  subst hB
  have hr := h.raw
  rw [hw, hb] at hr
  refine (lineR_any l b hl hlb hr).mono ?_
  rintro e w' ⟨f, hp⟩
  unfold lineW
  cases hA : (decide (l.data.toList.getLast? = some 10) && decide (bareS l.data.toList = [46])) with
  | false =>
    rw [hA, if_pos rfl] at hp
    rw [if_pos rfl]
    obtain ⟨rfl, hp⟩ := hp
    have hx := h.turn f (st := { s.st with long := s.st.long || !decide (l.data.toList.getLast? = some 10), body := some (b ++ undot l.data.toList) }) (tv' := tv) (B' := bt (b ++ undot l.data.toList)) (by show RawR w' rb most fb kv s.st.greeted s.st.sender.isSome (bt (s.st.sender.getD [])) tv (true && !s.st.waits) _ _ s.st.waits s.st.over; rw [hw]; exact hp) (fun b' e => by injection e with e; rw [e]) (h.to' f) h.zt
    exact RfR.stR hx hN []
  | true =>
    rw [hA, if_neg (by decide)] at hp
    rw [if_neg (by decide)]
    by_cases hlg : s.st.long = true
    · rw [if_pos hlg] at hp
      rw [if_pos hlg]
      obtain ⟨rfl, hp⟩ := hp
      exact RfR.stR (h.turn f (st := { reset s.st with body := none }) (tv' := .slice none 0 0) (B' := bt b) (by show RawR w' rb most fb kv s.st.greeted false (bt []) (.slice none 0 0) (false && !s.st.waits) s.st.long (bt b) s.st.waits s.st.over; rw [hw]; exact hp) (fun b' e => by cases e) (nilQ _) (fun k e => by cases e)) hN _
    · rw [if_neg hlg] at hp
      rw [if_neg hlg]
      by_cases hm : most < b.length
      · rw [if_pos hm] at hp
        rw [if_pos hm]
        obtain ⟨rfl, hp⟩ := hp
        exact RfR.stR (h.turn f (st := { reset s.st with body := none }) (tv' := .slice none 0 0) (B' := bt b) (by show RawR w' rb most fb kv s.st.greeted false (bt []) (.slice none 0 0) (false && !s.st.waits) s.st.long (bt b) s.st.waits s.st.over; rw [hw]; exact hp) (fun b' e => by cases e) (nilQ _) (fun k e => by cases e)) hN _
      · rw [if_neg hm] at hp
        rw [if_neg hm]
        obtain ⟨rfl, hp⟩ := hp
        exact RfR.stR (h.turn f (st := { s.st with waits := true }) (tv' := tv) (B' := bt b) (by show RawR w' rb most fb kv s.st.greeted s.st.sender.isSome (bt (s.st.sender.getD [])) tv (s.st.body.isSome && !true) s.st.long (bt b) true s.st.over; rw [hb]; exact hp) (fun b' e => by have e : s.st.body = some b' := e; rw [hb] at e; injection e with e; rw [e]) (h.to' f) h.zt) hN []
/-- Answer -/
theorem refAnswer (h : RefAt Z w rb most N s) (hi : s.st.waits = true → s.st.body.isSome = true) (e0 : Int) :
    Calls Tryz.prog 22 #[.pointer (some ⟨rb, 0, none⟩), .int .i64 e0] w (StR Z w rb most N ⟨(answerW s.st e0).1, s.rest, s.kept⟩ (answerW s.st e0).2) := by
  obtain ⟨fb, kv, tv, B, L, h, hN⟩ := h
  cases hw : s.st.waits with
  | false =>
    have hr := h.raw
    rw [hw] at hr
    refine (answerR_no e0 hr).mono ?_
    rintro e w' ⟨rfl, rfl⟩
    have e1 : answerW s.st e0 = (s.st, []) := by unfold answerW; rw [if_pos hw]
    rw [e1]
    exact RfR.same h hN (Below.refl _ _) []
  | true =>
    have hr := h.raw
    rw [hw] at hr
    refine (answerR_yes e0 hr).mono ?_
    rintro e w' ⟨rfl, h1, f⟩
    have e1 : answerW s.st e0 = ({ reset s.st with waits := false, body := none }, repW (answerC e0)) := by unfold answerW; rw [if_neg (by rw [hw]; decide)]
    rw [e1]
    refine RfR.stR (h.turn f (st := { reset s.st with waits := false, body := none }) (tv' := .slice none 0 0) (B' := B) ?_ (fun b' e => by cases e) (nilQ _) (fun k e => by cases e)) hN _
    show RawR w' rb most fb kv s.st.greeted false (bt []) (.slice none 0 0) (false && !false) s.st.long B false s.st.over
    rw [Bool.not_true, Bool.and_false] at h1
    exact h1
theorem refNew (n : Int) (w : World) : Calls Tryz.prog 11 #[.int .i64 n] w fun e w' => ∃ rb, e = .returned (.pointer (some ⟨rb, 0, none⟩)) ∧ RefAt (fun k => w.heap.size ≤ k) w' rb (clampM n) 0 begin0 ∧ Below w.heap.size w w' := by
  refine (newR_any n w).mono ?_
  rintro e w' ⟨rfl, hb, hr, hf⟩
  refine ⟨w.heap.size + 1, rfl, ⟨w.heap.size, _, _, ⟨#[]⟩, ⟨#[]⟩, ⟨hr, (fun b e => by cases e), hf, rfl, rfl, Qs.nil _ _ _ _, Qs.nil _ _ _ _, Nat.le_succ _, Nat.le_refl _, (fun k e => by cases e), (fun k e => by cases e)⟩, Nat.le_refl _⟩, hb⟩
theorem refOver (h : RefAt Z w rb most N s) : Calls Tryz.prog 17 #[.pointer (some ⟨rb, 0, none⟩)] w fun e w' => e = .returned (.bool s.st.over) ∧ w' = w := by
  obtain ⟨fb, kv, tv, B, L, h, hN⟩ := h
  exact overR_any h.raw
end
end Go.Proofs.YtjoipgekmnnlpaaGreatDoor
