/- Walks: a mail session as a whole: its blocks, each with its part; the commands in these words. -/
import Derived.Test.YtjoipgekmnnlpaaGreatDoorSmGq
import Derived.Test.YtjoipgekmnnlpaaGreatDoorSmN
namespace Go.Proofs.YtjoipgekmnnlpaaGreatDoor
open Go.RowKit Go.Shelf Go.Lib Pk Sm

/-- the parts of the blocks: 0 is no part of the session's -/
abbrev Roles := Nat → Nat
def FeedAt (w : World) (R : Roles) (fp : Value) (rest : List UInt8) : Prop :=
  ∃ fb fv, fp = .pointer (some ⟨fb, 0, none⟩) ∧ R fb = 2 ∧ w.heap[fb]? = some (.cells #[.int .i64 1000, fv] 82 (0, 0)) ∧ Qs byL True w 5 fv rest ∧ ∀ k, fv.ownBlock = some k → R k = 3
def ListAt (w : World) (R : Roles) (r : Nat) (v : Value) (l : List (List UInt8)) : Prop :=
  Qs txL True w 9 v (l.map bt) ∧ ∀ k, v.ownBlock = some k → R k = r
def SndAt (w : World) (R : Roles) (sp : Value) : Option (List UInt8) → Prop
  | none => sp = .pointer none
  | some a => ∃ xb, sp = .pointer (some ⟨xb, 0, none⟩) ∧ R xb = 6 ∧ w.heap[xb]? = some (.cells #[.string (bt a)] 9 (0, 0))
def BodyAt (w : World) (R : Roles) (bp : Value) : Option (List UInt8) → Prop
  | none => bp = .pointer none
  | some b => ∃ bb bv, bp = .pointer (some ⟨bb, 0, none⟩) ∧ R bb = 7 ∧ BQ w bb bv b ∧ ∀ k, bv.ownBlock = some k → R k = 8
/-- a session in memory -/
structure SesR (G : Nat) (w : World) (sb most : Nat) (fp kv sp tv bp : Value) (s : Whl) (R : Roles) : Prop where
  ctx : Ctx G w
  bnd : ∀ k, R k ≠ 0 → G ≤ k ∧ k < w.heap.size
  me : R sb = 1
  raw : Raw w sb most fp kv s.st.greeted sp tv bp s.st.long s.st.waits s.st.over
  feed : FeedAt w R fp s.rest
  kept : ListAt w R 4 kv s.kept
  rcp : ListAt w R 5 tv s.st.to
  snd : SndAt w R sp s.st.sender
  body : BodyAt w R bp s.st.body
def SesAt (G : Nat) (w : World) (sb most : Nat) (s : Whl) (R : Roles) : Prop := ∃ fp kv sp tv bp, SesR G w sb most fp kv sp tv bp s R
/-- old blocks keep their parts -/
def Ext (w : World) (R R' : Roles) : Prop := ∀ k, k < w.heap.size → R' k = R k
theorem Ext.refl (w : World) (R : Roles) : Ext w R R := fun _ _ => rfl
theorem Ext.trans {w w' : World} {R R' R'' : Roles} (h : Ext w R R') (k : Ext w' R' R'') (hs : w.heap.size ≤ w'.heap.size) : Ext w R R'' := fun g hg => (k g (by omega)).trans (h g hg)
def Roles.put (R : Roles) (b r : Nat) : Roles := fun k => if k = b then r else R k
theorem Roles.put_at (R : Roles) (b r : Nat) : R.put b r b = r := if_pos rfl
theorem Roles.put_ne (R : Roles) {b r k : Nat} (h : k ≠ b) : R.put b r k = R k := if_neg h
theorem Ext.put {w : World} (R : Roles) {b r : Nat} (h : w.heap.size ≤ b) : Ext w R (R.put b r) := fun k hk => Roles.put_ne R (by omega)
/-- the blocks of a session -/
def In (R : Roles) (k : Nat) : Prop := R k ≠ 0
theorem FeedAt.kept {w w' : World} {R R' : Roles} {fp : Value} {rest : List UInt8} (h : FeedAt w R fp rest) (hk : ∀ k, k < w.heap.size → R k = 2 ∨ R k = 3 → w'.heap[k]? = w.heap[k]?) (hE : Ext w R R') : FeedAt w' R' fp rest := by
  obtain ⟨fb, fv, h1, h2, h3, h4, h5⟩ := h
  have hb := lt_of_block h3
  exact ⟨fb, fv, h1, (hE fb hb).trans h2, (hk fb hb (.inl h2)).trans h3, h4.kept fun g e => hk g (h4.lt e) (.inr (h5 g e)), fun k e => (hE k (h4.lt e)).trans (h5 k e)⟩
theorem ListAt.kept {w w' : World} {R R' : Roles} {r : Nat} {v : Value} {l : List (List UInt8)} (h : ListAt w R r v l) (hk : ∀ k, k < w.heap.size → R k = r → w'.heap[k]? = w.heap[k]?) (hE : Ext w R R') : ListAt w' R' r v l :=
  ⟨h.1.kept fun g e => hk g (h.1.lt e) (h.2 g e), fun k e => (hE k (h.1.lt e)).trans (h.2 k e)⟩
theorem SndAt.kept {w w' : World} {R R' : Roles} {sp : Value} {o : Option (List UInt8)} (h : SndAt w R sp o) (hk : ∀ k, k < w.heap.size → R k = 6 → w'.heap[k]? = w.heap[k]?) (hE : Ext w R R') : SndAt w' R' sp o := by
  cases o with
  | none => exact h
  | some a =>
    obtain ⟨xb, h1, h2, h3⟩ := h
    have hb := lt_of_block h3
    exact ⟨xb, h1, (hE xb hb).trans h2, (hk xb hb h2).trans h3⟩
theorem BodyAt.kept {w w' : World} {R R' : Roles} {bp : Value} {o : Option (List UInt8)} (h : BodyAt w R bp o) (hk : ∀ k, k < w.heap.size → R k = 7 ∨ R k = 8 → w'.heap[k]? = w.heap[k]?) (hE : Ext w R R') : BodyAt w' R' bp o := by
  cases o with
  | none => exact h
  | some b =>
    obtain ⟨bb, bv, h1, h2, h3, h4⟩ := h
    exact ⟨bb, bv, h1, (hE bb h3.lt).trans h2, h3.kept (hk bb h3.lt (.inl h2)) fun g e => hk g (h3.2.2.1.lt e) (.inr (h4 g e)), fun k e => (hE k (h3.2.2.1.lt e)).trans (h4 k e)⟩
theorem ListAt.nil (w : World) (R : Roles) (r : Nat) : ListAt w R r (.slice none 0 0) [] := ⟨Qs.nil _ _ _ _, fun _ e => by cases e⟩
theorem SesR.sb_lt {G : Nat} {w : World} {sb most : Nat} {fp kv sp tv bp : Value} {s : Whl} {R : Roles} (h : SesR G w sb most fp kv sp tv bp s R) : sb < w.heap.size := h.raw.lt
theorem SesR.G_sb {G : Nat} {w : World} {sb most : Nat} {fp kv sp tv bp : Value} {s : Whl} {R : Roles} (h : SesR G w sb most fp kv sp tv bp s R) : G ≤ sb := (h.bnd sb (by rw [h.me]; decide)).1
/-- where none of its blocks turns, the session stands -/
theorem SesAt.kept {G : Nat} {w w' : World} {sb most : Nat} {s : Whl} {R : Roles} (h : SesAt G w sb most s R) (hc : Ctx G w') (hk : ∀ k, k < w.heap.size → R k ≠ 0 → w'.heap[k]? = w.heap[k]?) (hs : w.heap.size ≤ w'.heap.size) : SesAt G w' sb most s R := by
  obtain ⟨fp, kv, sp, tv, bp, h⟩ := h
  refine ⟨fp, kv, sp, tv, bp, hc, fun k e => by have := h.bnd k e; exact ⟨this.1, by omega⟩, h.me, (hk sb h.sb_lt (by rw [h.me]; decide)).trans h.raw, ?_, ?_, ?_, ?_, ?_⟩
  · exact h.feed.kept (fun k hl e => hk k hl (by omega)) (Ext.refl _ _)
  · exact h.kept.kept (fun k hl e => hk k hl (by omega)) (Ext.refl _ _)
  · exact h.rcp.kept (fun k hl e => hk k hl (by omega)) (Ext.refl _ _)
  · exact h.snd.kept (fun k hl e => hk k hl (by omega)) (Ext.refl _ _)
  · exact h.body.kept (fun k hl e => hk k hl (by omega)) (Ext.refl _ _)
theorem SesAt.ctx {G : Nat} {w : World} {sb most : Nat} {s : Whl} {R : Roles} (h : SesAt G w sb most s R) : Ctx G w := by
  obtain ⟨fp, kv, sp, tv, bp, h⟩ := h
  exact h.ctx
theorem SesAt.bnd {G : Nat} {w : World} {sb most : Nat} {s : Whl} {R : Roles} (h : SesAt G w sb most s R) : ∀ k, R k ≠ 0 → G ≤ k ∧ k < w.heap.size := by
  obtain ⟨fp, kv, sp, tv, bp, h⟩ := h
  exact h.bnd
theorem SesAt.below {G : Nat} {w w' : World} {sb most : Nat} {s : Whl} {R : Roles} (h : SesAt G w sb most s R) (hb : Below w.heap.size w w') : SesAt G w' sb most s R :=
  h.kept (h.ctx.below hb) (fun k hk _ => hb.block k hk) hb.size
/-- what an operation of the session leaves -/
def Stp (G : Nat) (w : World) (sb most : Nat) (R : Roles) (w' : World) (s : Whl) : Prop :=
  ∃ R', SesAt G w' sb most s R' ∧ Ext w R R' ∧ Fr (In R) w w'
theorem Stp.same {G : Nat} {w w' : World} {sb most : Nat} {R : Roles} {s : Whl} (h : SesAt G w sb most s R) (hb : Below w.heap.size w w') : Stp G w sb most R w' s :=
  ⟨R, h.below hb, Ext.refl _ _, Fr.of_below hb⟩
theorem Stp.trans {G : Nat} {w w1 w2 : World} {sb most : Nat} {R : Roles} {s1 s2 : Whl} (h : Stp G w sb most R w1 s1) (k : ∀ R1, SesAt G w1 sb most s1 R1 → Stp G w1 sb most R1 w2 s2) : Stp G w sb most R w2 s2 := by
  obtain ⟨R1, a1, a2, a3⟩ := h
  obtain ⟨R2, b1, b2, b3⟩ := k R1 a1
  refine ⟨R2, b1, a2.trans b2 a3.size, a3.trans b3 fun g hg => ?_⟩
  rcases Nat.lt_or_ge g w.heap.size with hl | hl
  · exact .inl (by unfold In at *; rw [← a2 g hl]; exact hg)
  · exact .inr hl
theorem Stp.then {G : Nat} {w w1 w2 : World} {sb most : Nat} {R : Roles} {s : Whl} (h : Stp G w sb most R w1 s) (hb : Below w1.heap.size w1 w2) : Stp G w sb most R w2 s :=
  h.trans fun _ h1 => Stp.same h1 hb
theorem Stp.first {G : Nat} {w w1 w2 : World} {sb most : Nat} {R : Roles} {s : Whl} (hw : SesAt G w sb most s R) {s' : Whl} (hb : Below w.heap.size w w1) (k : SesAt G w1 sb most s R → Stp G w1 sb most R w2 s') : Stp G w sb most R w2 s' := by
  obtain ⟨R2, b1, b2, b3⟩ := k (hw.below hb)
  exact ⟨R2, b1, fun g hg => b2 g (Nat.lt_of_lt_of_le hg hb.size), (Fr.of_below hb).trans b3 fun g hg => .inl hg⟩
/-- an operation that answers by a text -/
def StpT (G : Nat) (w : World) (sb most : Nat) (R : Roles) (s : Whl) (t : List UInt8) (e : Ending) (w' : World) : Prop := e = .returned (.string (bt t)) ∧ Stp G w sb most R w' s
section
variable {G : Nat} {w w' : World} {sb most : Nat} {fp kv sp tv bp : Value} {s : Whl} {R : Roles}
theorem SesR.ctx' (h : SesR G w sb most fp kv sp tv bp s R) {X : Nat → Prop} (hX : ∀ k, X k → R k ≠ 0 ) (f : Fr X w w') : Ctx G w' := h.ctx.fr (fun k e => (h.bnd k (hX k e)).1) f
/-- only the session's own block turns -/
theorem SesR.turnE (h : SesR G w sb most fp kv sp tv bp s R) (f : Fr (Bk sb) w w') {R' : Roles} (hE : Ext w R R') (hB : ∀ k, R' k ≠ 0 → R k ≠ 0 ∨ w.heap.size ≤ k ∧ k < w'.heap.size) {st : Ses} {sp' tv' bp' : Value} (hr : Raw w' sb most fp kv st.greeted sp' tv' bp' st.long st.waits st.over)
    (ht : ListAt w' R' 5 tv' st.to) (hs : SndAt w' R' sp' st.sender) (hb : BodyAt w' R' bp' st.body) : Stp G w sb most R w' ⟨st, s.rest, s.kept⟩ := by
  have hf : ∀ k, k < w.heap.size → R k ≠ 1 → w'.heap[k]? = w.heap[k]? := fun k hk hR => f.block k hk fun e => hR (by rw [show k = sb from e]; exact h.me)
  have hI : ∀ k, Bk sb k → R k ≠ 0 := fun k e => by rw [show k = sb from e, h.me]; decide
  refine ⟨R', ⟨fp, kv, sp', tv', bp', h.ctx' hI f, fun k e => ?_, (hE sb h.sb_lt).trans h.me, hr, ?_, ?_, ht, hs, hb⟩, hE, f.mono hI⟩
  · rcases hB k e with e | ⟨e1, e2⟩
    · have := h.bnd k e
      have := f.size
      exact ⟨‹_ ∧ _›.1, by omega⟩
    · exact ⟨Nat.le_trans h.ctx.le e1, e2⟩
  · exact h.feed.kept (fun k hk e => hf k hk (by omega)) hE
  · exact h.kept.kept (fun k hk e => hf k hk (by omega)) hE
theorem SesR.turn (h : SesR G w sb most fp kv sp tv bp s R) (f : Fr (Bk sb) w w') {st : Ses} {sp' tv' bp' : Value} (hr : Raw w' sb most fp kv st.greeted sp' tv' bp' st.long st.waits st.over)
    (ht : ListAt w' R 5 tv' st.to) (hs : SndAt w' R sp' st.sender) (hb : BodyAt w' R bp' st.body) : Stp G w sb most R w' ⟨st, s.rest, s.kept⟩ := h.turnE f (Ext.refl _ _) (fun _ e => .inl e) hr ht hs hb
theorem put_bnd {R : Roles} {b r n m : Nat} (hb : n ≤ b) (hm : b < m) : ∀ k, R.put b r k ≠ 0 → R k ≠ 0 ∨ n ≤ k ∧ k < m := fun k e => by
  by_cases hk : k = b
  · subst hk; exact .inr ⟨hb, hm⟩
  · rw [Roles.put_ne _ hk] at e; exact .inl e
theorem SesR.far (h : SesR G w sb most fp kv sp tv bp s R) (f : Fr (Bk sb) w w') : ∀ k, k < w.heap.size → R k ≠ 1 → w'.heap[k]? = w.heap[k]? :=
  fun k hk hR => f.block k hk fun e => hR (by rw [show k = sb from e]; exact h.me)
theorem SesR.to' (h : SesR G w sb most fp kv sp tv bp s R) (f : Fr (Bk sb) w w') : ListAt w' R 5 tv s.st.to := h.rcp.kept (fun k hk e => h.far f k hk (by omega)) (Ext.refl _ _)
theorem SesR.snd' (h : SesR G w sb most fp kv sp tv bp s R) (f : Fr (Bk sb) w w') : SndAt w' R sp s.st.sender := h.snd.kept (fun k hk e => h.far f k hk (by omega)) (Ext.refl _ _)
theorem SesR.body' (h : SesR G w sb most fp kv sp tv bp s R) (f : Fr (Bk sb) w w') : BodyAt w' R bp s.st.body := h.body.kept (fun k hk e => h.far f k hk (by omega)) (Ext.refl _ _)
theorem helR_no {rest : ByteArray} (more : ByteArray) (h0 : rest.size = 0) : helR rest more = bt (repW 501) := if_pos h0
theorem isEmpty_size (rest : ByteArray) : rest.data.toList.isEmpty = decide (rest.size = 0) := by
  rw [← size_len rest]
  cases rest.data.toList with
  | nil => rfl
  | cons c r => simp
/-- EHLO, HELO -/
theorem SesR.hel (h : SesR G w sb most fp kv sp tv bp s R) (rest : ByteArray) (x : Bool) (hp : HelP w w' sb most fp kv s.st.greeted sp tv bp s.st.long s.st.waits s.st.over rest) :
    Stp G w sb most R w' ⟨(helloW most x s.st rest.data.toList).1, s.rest, s.kept⟩ := by
  obtain ⟨h1, f⟩ := hp
  unfold helloW
  rw [isEmpty_size]
  by_cases h0 : rest.size = 0
  · rw [if_pos h0] at h1
    rw [if_pos (decide_eq_true h0)]
    exact h.turn f h1 (h.to' f) (h.snd' f) (h.body' f)
  · rw [if_neg h0] at h1
    rw [if_neg (by simp [h0])]
    exact h.turn f h1 (ListAt.nil _ _ _) rfl (h.body' f)
theorem ses_helo (h : SesAt G w sb most s R) (rest : ByteArray) :
    Calls Tryz.prog 60 #[.pointer (some ⟨sb, 0, none⟩), .string rest] w (StpT G w sb most R ⟨(helloW most false s.st rest.data.toList).1, s.rest, s.kept⟩ (helloW most false s.st rest.data.toList).2) := by
  obtain ⟨fp, kv, sp, tv, bp, h⟩ := h
  refine (helo_any rest h.ctx h.G_sb h.raw).mono ?_
  rintro e w' ⟨rfl, hp⟩
  refine ⟨?_, h.hel rest false hp⟩
  unfold helR helloW
  rw [isEmpty_size]
  by_cases h0 : rest.size = 0
  · rw [if_pos h0, if_pos (decide_eq_true h0)]
  · rw [if_neg h0, if_neg (by simp [h0])]
    rw [show (⟨#[]⟩ : ByteArray) = bt [] from rfl, bt_app]
    rfl
theorem ses_ehlo (h : SesAt G w sb most s R) (hm : most ≤ 65536) (rest : ByteArray) :
    Calls Tryz.prog 59 #[.pointer (some ⟨sb, 0, none⟩), .string rest] w (StpT G w sb most R ⟨(helloW most true s.st rest.data.toList).1, s.rest, s.kept⟩ (helloW most true s.st rest.data.toList).2) := by
  obtain ⟨fp, kv, sp, tv, bp, h⟩ := h
  refine (ehlo_any most hm rest h.ctx h.G_sb h.raw).mono ?_
  rintro e w' ⟨rfl, hp⟩
  refine ⟨?_, h.hel rest true hp⟩
  unfold helR helloW
  rw [isEmpty_size]
  by_cases h0 : rest.size = 0
  · rw [if_pos h0, if_pos (decide_eq_true h0)]
  · rw [if_neg h0, if_neg (by simp [h0]), bt_app]
    rfl
theorem sp_of (h : SesR G w sb most fp kv sp tv bp s R) : if s.st.sender.isSome = true then ∃ p, sp = .pointer (some p) else sp = .pointer none := by
  have := h.snd
  cases hs : s.st.sender with
  | none => rw [hs] at this; exact this
  | some a =>
    rw [hs] at this
    obtain ⟨xb, h1, -⟩ := this
    exact ⟨_, h1⟩
theorem ses_mail (h : SesAt G w sb most s R) (rest : ByteArray) (hl : rest.size ≤ 100000) :
    Calls Tryz.prog 61 #[.pointer (some ⟨sb, 0, none⟩), .string rest] w (StpT G w sb most R ⟨(mailW most s.st rest.data.toList).1, s.rest, s.kept⟩ (mailW most s.st rest.data.toList).2) := by
  obtain ⟨fp, kv, sp, tv, bp, h⟩ := h
  refine (mail_any most rest hl s.st.sender.isSome (sp_of h) h.ctx h.G_sb h.raw).mono ?_
  rintro e w' ⟨rfl, f, hp⟩
  rw [mailW_eq]
  refine ⟨rfl, ?_⟩
  show Stp G w sb most R w' ⟨(match (mailC most s.st.greeted s.st.sender.isSome rest.data.toList).2 with | none => s.st | some a => { s.st with sender := some a }), s.rest, s.kept⟩
  cases hc : (mailC most s.st.greeted s.st.sender.isSome rest.data.toList).2 with
  | none =>
    rw [hc] at hp
    exact h.turn f hp (h.to' f) (h.snd' f) (h.body' f)
  | some a =>
    rw [hc] at hp
    obtain ⟨b, hb, hr, hx⟩ := hp
    have hbl := lt_of_block hx
    have hE : Ext w R (R.put b 6) := Ext.put R hb
    exact h.turnE f hE (put_bnd hb hbl) hr (h.rcp.kept (fun k hk e => h.far f k hk (by omega)) hE) ⟨b, rfl, Roles.put_at _ _ _, hx⟩ (h.body.kept (fun k hk e => h.far f k hk (by omega)) hE)
theorem ses_rcpt (h : SesAt G w sb most s R) (rest : ByteArray) (hl : rest.size ≤ 100000) (ht : s.st.to.length ≤ 1000) :
    Calls Tryz.prog 62 #[.pointer (some ⟨sb, 0, none⟩), .string rest] w (StpT G w sb most R ⟨(rcptW s.st rest.data.toList).1, s.rest, s.kept⟩ (rcptW s.st rest.data.toList).2) := by
  obtain ⟨fp, kv, sp, tv, bp, h⟩ := h
  refine (rcpt_any s.st.to rest (by omega) s.st.sender.isSome (sp_of h) h.ctx h.G_sb h.raw h.rcp.1 (fun k e => (h.bnd k (by rw [h.rcp.2 k e]; decide)).1) ht).mono ?_
  rintro e w' ⟨rfl, f, hp⟩
  rw [rcptW_eq]
  refine ⟨rfl, ?_⟩
  have hI : ∀ k, RX sb tv k → R k ≠ 0 := fun k e => by
    rcases e with e | e
    · rw [e, h.me]; decide
    · rw [h.rcp.2 k e]; decide
  have hf : ∀ k, k < w.heap.size → R k ≠ 1 → R k ≠ 5 → w'.heap[k]? = w.heap[k]? := fun k hk h1 h5 => f.block k hk fun e => by
    rcases e with e | e
    · exact h1 (by rw [e]; exact h.me)
    · exact h5 (h.rcp.2 k e)
  have hbd : ∀ k, R k ≠ 0 → G ≤ k ∧ k < w'.heap.size := fun k e => by
    have := h.bnd k e
    have := f.size
    exact ⟨‹_ ∧ _›.1, by omega⟩
  show Stp G w sb most R w' ⟨(match (rcptC s.st.sender.isSome s.st.to rest.data.toList).2 with | none => s.st | some a => { s.st with «to» := s.st.to ++ [a] }), s.rest, s.kept⟩
  cases hc : (rcptC s.st.sender.isSome s.st.to rest.data.toList).2 with
  | none =>
    rw [hc] at hp
    exact Stp.same ⟨fp, kv, sp, tv, bp, h⟩ hp.2
  | some a =>
    rw [hc] at hp
    obtain ⟨v', hr, hq, hn⟩ := hp
    have key : ∀ R' : Roles, Ext w R R' → (∀ k, v'.ownBlock = some k → R' k = 5) → (∀ k, R' k ≠ 0 → G ≤ k ∧ k < w'.heap.size) → Stp G w sb most R w' ⟨{ s.st with «to» := s.st.to ++ [a] }, s.rest, s.kept⟩ := fun R' hE ho hb =>
      ⟨R', ⟨fp, kv, sp, v', bp, h.ctx' hI f, hb, (hE sb h.sb_lt).trans h.me, hr, h.feed.kept (fun k hk e => hf k hk (by omega) (by omega)) hE, h.kept.kept (fun k hk e => hf k hk (by omega) (by omega)) hE, ⟨hq, ho⟩,
        h.snd.kept (fun k hk e => hf k hk (by omega) (by omega)) hE, h.body.kept (fun k hk e => hf k hk (by omega) (by omega)) hE⟩, hE, f.mono hI⟩
    rcases hn with hn | hn
    · exact key R (Ext.refl _ _) (fun k e => h.rcp.2 k (by rw [← hn]; exact e)) hbd
    · cases hv : v'.ownBlock with
      | none => exact key R (Ext.refl _ _) (fun k e => by rw [hv] at e; cases e) hbd
      | some nb =>
        refine key (R.put nb 5) (Ext.put R (hn nb hv)) (fun k e => ?_) (fun k e => ?_)
        · rw [hv] at e
          injection e with e
          rw [← e]; exact Roles.put_at _ _ _
        · by_cases hk : k = nb
          · subst hk; exact ⟨Nat.le_trans h.ctx.le (hn k hv), hq.lt hv⟩
          · rw [Roles.put_ne _ hk] at e
            exact hbd k e
/-- DATA -/
theorem ses_data (h : SesAt G w sb most s R) : Calls Tryz.prog 64 #[.pointer (some ⟨sb, 0, none⟩)] w (StpT G w sb most R ⟨(dataW s.st []).1, s.rest, s.kept⟩ (dataW s.st []).2) := by
  obtain ⟨fp, kv, sp, tv, bp, h⟩ := h
  refine (data_any (s.st.to.map bt) h.rcp.1 h.ctx h.G_sb h.raw).mono ?_
  have e0 : dataW s.st [] = if s.st.to.isEmpty = true then (s.st, repW 503) else ({ s.st with body := some [], long := false }, repW 354) := rfl
  rw [e0]
  rintro e w' ⟨f, hp⟩
  rcases hp with ⟨h0, rfl, hr⟩ | ⟨h0, rfl, b, hb, hr, hq⟩
  · have h0 : s.st.to = [] := by simpa using h0
    rw [if_pos (by rw [h0]; rfl)]
    exact ⟨rfl, h.turn f hr (h.to' f) (h.snd' f) (h.body' f)⟩
  · have h0 : s.st.to ≠ [] := by simpa using h0
    rw [if_neg (by simpa using h0)]
    have hE : Ext w R (R.put b 7) := Ext.put R hb
    exact ⟨rfl, h.turnE f hE (put_bnd hb hq.lt) hr (h.rcp.kept (fun k hk e => h.far f k hk (by omega)) hE) (h.snd.kept (fun k hk e => h.far f k hk (by omega)) hE) ⟨b, _, rfl, Roles.put_at _ _ _, hq, fun k e => by cases e⟩⟩
theorem ses_rset (h : SesAt G w sb most s R) : Calls Tryz.prog 65 #[.pointer (some ⟨sb, 0, none⟩)] w (StpT G w sb most R ⟨(rsetW s.st []).1, s.rest, s.kept⟩ (rsetW s.st []).2) := by
  obtain ⟨fp, kv, sp, tv, bp, h⟩ := h
  refine (rset_any h.ctx h.G_sb h.raw).mono ?_
  rintro e w' ⟨rfl, hr, f⟩
  exact ⟨rfl, h.turn (st := reset s.st) f hr (ListAt.nil _ _ _) rfl (h.body' f)⟩
theorem ses_quit (h : SesAt G w sb most s R) : Calls Tryz.prog 66 #[.pointer (some ⟨sb, 0, none⟩)] w (StpT G w sb most R ⟨(quitW s.st []).1, s.rest, s.kept⟩ (quitW s.st []).2) := by
  obtain ⟨fp, kv, sp, tv, bp, h⟩ := h
  refine (quit_any h.ctx h.G_sb h.raw).mono ?_
  rintro e w' ⟨rfl, hr, f⟩
  exact ⟨rfl, h.turn (st := { s.st with over := true }) f hr (h.to' f) (h.snd' f) (h.body' f)⟩
/-- an operation that answers by a text, for the adapter -/
theorem to_ex {P : Program} {f : Nat} {args : Array Value} {t : List UInt8} {s' : Whl} (h : Calls P f args w (StpT G w sb most R s' t)) : Calls P f args w fun e w' => ∃ v, e = .returned v ∧ (v = .string (bt t) ∧ Stp G w sb most R w' s') := by
  refine h.mono ?_
  rintro e w' ⟨rfl, h⟩
  exact ⟨_, rfl, rfl, h⟩
theorem of_ex {P : Program} {f : Nat} {args : Array Value} {t : List UInt8} {s' : Whl} (h : Calls P f args w fun e w' => ∃ v, e = .returned v ∧ (v = .string (bt t) ∧ Stp G w sb most R w' s')) : Calls P f args w (StpT G w sb most R s' t) := by
  refine h.mono ?_
  rintro e w' ⟨v, rfl, rfl, h⟩
  exact ⟨rfl, h⟩
theorem rest_nil {rest : ByteArray} (h0 : rest.size = 0) : rest.data.toList = [] := List.eq_nil_of_length_eq_zero ((size_len rest).trans h0)
theorem rest_ne {rest : ByteArray} (h0 : rest.size ≠ 0) : rest.data.toList.isEmpty = false := by rw [isEmpty_size]; exact decide_eq_false h0
theorem ses_bdata (h : SesAt G w sb most s R) (b : Nat) (hb : w.cell? ⟨b, 0, none⟩ = some (.func (.func 64) #[] #[])) (rest : ByteArray) :
    Calls Tryz.prog 96 #[.pointer (some ⟨sb, 0, none⟩), .string rest, .pointer (some ⟨b, 0, none⟩)] w (StpT G w sb most R ⟨(dataW s.st rest.data.toList).1, s.rest, s.kept⟩ (dataW s.st rest.data.toList).2) := by
  by_cases h0 : rest.size = 0
  · rw [rest_nil h0]
    exact of_ex (bare1_data _ b rest h0 hb _ (to_ex (ses_data h)))
  · have e0 : dataW s.st rest.data.toList = (s.st, repW 501) := by unfold dataW; rw [if_pos (rest_ne h0)]
    rw [e0]
    refine (bare1_no _ _ rest h0 h.ctx).mono ?_
    rintro e w' ⟨rfl, hbl⟩
    exact ⟨rfl, Stp.same h hbl⟩
theorem ses_brset (h : SesAt G w sb most s R) (b : Nat) (hb : w.cell? ⟨b, 0, none⟩ = some (.func (.func 65) #[] #[])) (rest : ByteArray) :
    Calls Tryz.prog 96 #[.pointer (some ⟨sb, 0, none⟩), .string rest, .pointer (some ⟨b, 0, none⟩)] w (StpT G w sb most R ⟨(rsetW s.st rest.data.toList).1, s.rest, s.kept⟩ (rsetW s.st rest.data.toList).2) := by
  by_cases h0 : rest.size = 0
  · rw [rest_nil h0]
    exact of_ex (bare1_rset _ b rest h0 hb _ (to_ex (ses_rset h)))
  · have e0 : rsetW s.st rest.data.toList = (s.st, repW 501) := by unfold rsetW; rw [if_pos (rest_ne h0)]
    rw [e0]
    refine (bare1_no _ _ rest h0 h.ctx).mono ?_
    rintro e w' ⟨rfl, hbl⟩
    exact ⟨rfl, Stp.same h hbl⟩
theorem ses_bquit (h : SesAt G w sb most s R) (b : Nat) (hb : w.cell? ⟨b, 0, none⟩ = some (.func (.func 66) #[] #[])) (rest : ByteArray) :
    Calls Tryz.prog 96 #[.pointer (some ⟨sb, 0, none⟩), .string rest, .pointer (some ⟨b, 0, none⟩)] w (StpT G w sb most R ⟨(quitW s.st rest.data.toList).1, s.rest, s.kept⟩ (quitW s.st rest.data.toList).2) := by
  by_cases h0 : rest.size = 0
  · rw [rest_nil h0]
    exact of_ex (bare1_quit _ b rest h0 hb _ (to_ex (ses_quit h)))
  · have e0 : quitW s.st rest.data.toList = (s.st, repW 501) := by unfold quitW; rw [if_pos (rest_ne h0)]
    rw [e0]
    refine (bare1_no _ _ rest h0 h.ctx).mono ?_
    rintro e w' ⟨rfl, hbl⟩
    exact ⟨rfl, Stp.same h hbl⟩
theorem ses_noop (h : SesAt G w sb most s R) (rest : ByteArray) : Calls Tryz.prog 67 #[.pointer (some ⟨sb, 0, none⟩), .string rest] w (StpT G w sb most R s (repW 250)) := by
  refine (noop_any _ rest h.ctx).mono ?_
  rintro e w' ⟨rfl, hbl⟩
  exact ⟨rfl, Stp.same h hbl⟩
theorem ses_vrfy (h : SesAt G w sb most s R) (rest : ByteArray) : Calls Tryz.prog 68 #[.pointer (some ⟨sb, 0, none⟩), .string rest] w (StpT G w sb most R s (repW 252)) := by
  refine (vrfy_any _ rest h.ctx).mono ?_
  rintro e w' ⟨rfl, hbl⟩
  exact ⟨rfl, Stp.same h hbl⟩
end
end Go.Proofs.YtjoipgekmnnlpaaGreatDoor
