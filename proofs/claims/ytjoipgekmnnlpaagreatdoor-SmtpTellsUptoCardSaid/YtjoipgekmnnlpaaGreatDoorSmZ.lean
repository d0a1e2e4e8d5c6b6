/- Walks: a mail session as a whole: Feed. -/
import Derived.Test.YtjoipgekmnnlpaaGreatDoorSmX
import Derived.Test.YtjoipgekmnnlpaaGreatDoorSmY
namespace Pk
open Go Go.RowKit
/-- a queue without its first element -/
theorem Qs.rest {α : Type} {L : Lay α} {W : World} {e : TypeId} {p : Option Addr} {c n : Nat} {x : α} {r : List α} (h : Qs L True W e (.slice p n c) (x :: r)) :
    ∃ g o, p = some ⟨g, o, none⟩ ∧ n = r.length + 1 ∧ r.length + 1 ≤ c ∧ (∀ i u, (L.enc x)[i]? = some u → W.cell? ⟨g, o + i, none⟩ = some u) ∧ Qs L True W e (.slice (some ⟨g, o + L.k, none⟩) r.length (c - 1)) r ∧ (c = 1 → Qs L True W e (.slice (some ⟨g, o, none⟩) 0 0) []) := by
  rcases h with ⟨-, h⟩ | ⟨g, o, cap, cur, fz, h0, h1, h2, h3, h4, h5, h6, h7⟩
  · cases h
  · injection h0 with e1 e2 e3
    subst e1; subst e3
    have hz := h6 trivial
    rw [List.length_cons] at h1 e2
    have hk := L.h0
    have hck : c * L.k = (c - 1) * L.k + L.k := by
      have hc : c = (c - 1) + 1 := by omega
      conv => lhs; rw [hc]
      rw [Nat.succ_mul]
    refine ⟨g, o, rfl, e2, h1, fun i u hu => ?_, .inr ⟨g, o + L.k, c - 1, cur, fz, rfl, by omega, by omega, h3, by omega, by omega, h6, fun j u hu => ?_⟩, fun hc => .inr ⟨g, o, 0, cur, fz, rfl, Nat.le_refl _, Nat.zero_le _, h3, by omega, by omega, h6, fun j u hu => by simp at hu⟩⟩
    · rw [cell_cur h3]
      have hi := (List.getElem?_eq_some_iff.1 hu).1
      refine h7 i u ?_
      rw [List.flatMap_cons, List.getElem?_append_left hi]
      exact hu
    · have := h7 (L.k + j) u (by
        rw [List.flatMap_cons, List.getElem?_append_right (by rw [L.hk]; omega), L.hk]
        rw [show L.k + j - L.k = j by omega]
        exact hu)
      rw [Nat.add_assoc]
      exact this
end Pk
namespace Go.Proofs.YtjoipgekmnnlpaaGreatDoor
open Go.RowKit Go.Shelf Go.Lib Pk Sm

section
variable {G : Nat} {w w' : World} {sb most : Nat} {fp kv sp tv bp : Value} {s : Whl} {R : Roles}
/-- an append in a drawn region -/
theorem step_q {α : Type} {L : Lay α} {z0 : Prop} {bytes : Nat} {P : Program} {w : World} {ops : Array Oper} {o : Oper} {a : Act} {K : Act → World → Prop} {Q : Exit → Act → World → Prop} {X : Prop} (hgd : o.guard = none) (s x : Operand) {t e tx : TypeId} (hT : GSl L bytes P t e)
    (ho : o.op = .call { callee := .builtin .append, args := #[s, x], argTypes := #[t, tx] }) {v : Value} {l : List α} (hs : a.eval s = v) (hq : Qs L z0 w e v l)
    (xv : Value) (ys : List α) (hx : a.eval x = xv) (hsrc : Src P L.k tx xv ys.length (ys.flatMap L.enc) w)
    (hl : (l.length + ys.length) * bytes ≤ 140737488355328) (h63 : l.length + ys.length ≤ 140737488355328)
    (h : ∀ v' w', Qs L z0 w' e v' (l ++ ys) → w.grownBy w' v.ownBlock → NewOwn w v v' → K (a.put o.dst v') w') : if Region.wanted o (yielded ops a.tmps) = true then Oper.wp P o a w K Q else X := by
  rw [if_pos (by simp [Region.wanted, hgd])]
  obtain ⟨v', w', hr, h2, h3, h4, -⟩ := run_append_q hT hq tx o.type xv ys hsrc hl h63
  unfold Oper.wp execOp
  simp only [ho, resolve, invoke, builtin, Sem.run_bind, Sem.run_pure, Result.andThen_ok, List.map_toArray, List.map_cons, List.map_nil, hs, hx, hr]
  exact h v' w' h2 h3 h4
theorem Qs.src {α : Type} {L : Lay α} {P : Program} {z : Prop} {w : World} {t e : TypeId} {v : Value} {l : List α} (ht : P.underlying t = some (.slice e)) (h : Qs L z w e v l) : Src P L.k t v l.length (l.flatMap L.enc) w := by
  rcases h with ⟨rfl, rfl⟩ | ⟨g, o, cap, cur, fz, rfl, h1, h2, h3, h4, h5, h6, h7⟩
  · exact Src.ofNil _ ht 0
  · exact Src.ofSlice _ ht _ _ _ _ (encG_length L l) (fun j u hu => by rw [Addr.add_lit]; exact (cell_cur h3 _).trans (h7 j u hu)) (by intro u hu; obtain ⟨y, _, hy⟩ := List.mem_flatMap.1 hu; exact L.one y u hy)
def Roles.putO (R : Roles) (o : Option Nat) (r : Nat) : Roles := match o with | none => R | some b => R.put b r
theorem Roles.putO_ext {w : World} {R : Roles} {o : Option Nat} {r : Nat} (h : ∀ b, o = some b → R b = r ∨ w.heap.size ≤ b) : Ext w R (R.putO o r) := by
  intro k hk
  cases o with
  | none => rfl
  | some b =>
    by_cases e : k = b
    · subst e
      rcases h k rfl with h | h
      · exact (Roles.put_at _ _ _).trans h.symm
      · omega
    · exact Roles.put_ne _ e
theorem Roles.putO_at {R : Roles} {o : Option Nat} {r b : Nat} (h : o = some b) : R.putO o r b = r := by subst h; exact Roles.put_at _ _ _
theorem Roles.putO_ne {R : Roles} {o : Option Nat} {r b : Nat} (h : o ≠ some b) : R.putO o r b = R b := by
  cases o with
  | none => rfl
  | some c => exact Roles.put_ne _ fun e => h (by rw [e])
theorem SesR.fed {fb : Nat} (h : SesR G w sb most (.pointer (some ⟨fb, 0, none⟩)) kv sp tv bp s R) (hfb : R fb = 2) (hfl : fb < w.heap.size) {w1 w3 : World} {fv1 v3 : Value} {rest' : List UInt8} {lines : List (List UInt8)}
    (hF1 : Fr (fun k => R k = 2 ∨ R k = 3) w w1) (hf1 : w1.heap[fb]? = some (.cells #[.int .i64 1000, fv1] 82 (0, 0))) (hfq : Qs byL True w1 5 fv1 rest') (hfr : ∀ k, fv1.ownBlock = some k → R k = 3 ∨ w.heap.size ≤ k)
    (hq3 : Qs txL True w3 9 v3 ((s.kept ++ lines).map bt)) (hg3 : w1.grownBy w3 kv.ownBlock) (hn3 : NewOwn w1 kv v3) :
    ∃ R', SesR G (w3.setCell ⟨sb, 2, none⟩ v3) sb most (.pointer (some ⟨fb, 0, none⟩)) v3 sp tv bp ⟨s.st, rest', s.kept ++ lines⟩ R' ∧ Ext w R R' ∧ Fr (In R) w (w3.setCell ⟨sb, 2, none⟩ v3) := by
  have hsb := h.sb_lt
  have hme := h.me
  have hs1 := hF1.size
  have hs3 := hg3.size
  have hk4 := h.kept.2
  have hkl : ∀ k, kv.ownBlock = some k → k < w.heap.size := fun k e => h.kept.1.lt e
  -- what stands at w3
  have st3 : ∀ k, k < w.heap.size → R k ≠ 2 → R k ≠ 3 → R k ≠ 4 → w3.heap[k]? = w.heap[k]? := fun k hk r2 r3 r4 =>
    (hg3.block k (by omega) (fun e => r4 (hk4 k e.symm))).trans (hF1.block k hk (fun e => by omega))
  have far : ∀ k, k ≠ sb → (w3.setCell ⟨sb, 2, none⟩ v3).heap[k]? = w3.heap[k]? := fun k hk => Below.heap_setCell w3 ⟨sb, 2, none⟩ v3 k hk
  have hkq1 : Qs txL True w1 9 kv (s.kept.map bt) := h.kept.1.kept fun g e => hF1.block g (hkl g e) (fun e' => by have := hk4 g e; omega)
  have hfk : ∀ g, fv1.ownBlock = some g → kv.ownBlock ≠ some g := fun g e e' => by
    obtain ⟨cs, fz, hc⟩ := hfq.ty e
    obtain ⟨cs2, fz2, hc2⟩ := hkq1.ty e'
    rw [hc] at hc2
    injection hc2 with hc2
    injection hc2 with _ hc2
    exact absurd hc2 (by decide)
  have hfq3 : Qs byL True w3 5 fv1 rest' := hfq.kept fun g e => hg3.block g (hfq.lt e) (fun e' => hfk g e e'.symm)
  have hf3 : w3.heap[fb]? = some (.cells #[.int .i64 1000, fv1] 82 (0, 0)) := (hg3.block fb (by omega) (fun e => by have := hk4 fb e.symm; omega)).trans hf1
  have hr3 : Raw w3 sb most (.pointer (some ⟨fb, 0, none⟩)) kv s.st.greeted sp tv bp s.st.long s.st.waits s.st.over := (st3 sb hsb (by omega) (by omega) (by omega)).trans h.raw
  have hv3 : ∀ k, v3.ownBlock = some k → R k = 4 ∨ w.heap.size ≤ k := fun k e => by
    rcases hn3 with e' | e'
    · exact .inl (hk4 k (by rw [← e']; exact e))
    · exact .inr (by have := e' k e; omega)
  have hv3s : v3.ownBlock ≠ some sb := fun e => by rcases hv3 sb e with e | e <;> omega
  have hv3f : ∀ g, fv1.ownBlock = some g → v3.ownBlock ≠ some g := fun g e e' => by
    obtain ⟨cs, fz, hc⟩ := hfq3.ty e
    obtain ⟨cs2, fz2, hc2⟩ := hq3.ty e'
    rw [hc] at hc2
    injection hc2 with hc2
    injection hc2 with _ hc2
    exact absurd hc2 (by decide)
  have hE1 : Ext w R (R.putO fv1.ownBlock 3) := Roles.putO_ext hfr
  have hE2 : Ext w (R.putO fv1.ownBlock 3) ((R.putO fv1.ownBlock 3).putO v3.ownBlock 4) := Roles.putO_ext fun b e => by
    rcases hv3 b e with e' | e'
    · left
      rw [Roles.putO_ne (fun e2 => hv3f b e2 e)]; exact e'
    · exact .inr e'
  have hE := hE1.trans hE2 (Nat.le_refl _)
  have hne : ∀ g, fv1.ownBlock = some g → g ≠ sb := fun g e e' => by rcases hfr g e with e2 | e2 <;> (rw [e'] at e2; omega)
  have hkeep : ∀ k, k < w.heap.size → R k ≠ 1 → R k ≠ 2 → R k ≠ 3 → R k ≠ 4 → (w3.setCell ⟨sb, 2, none⟩ v3).heap[k]? = w.heap[k]? := fun k hk r1 r2 r3 r4 =>
    (far k (fun e => r1 (by rw [e]; exact hme))).trans (st3 k hk r2 r3 r4)
  have hfr3 : Fr (In R) w (w3.setCell ⟨sb, 2, none⟩ v3) := by
    have f1 : Fr (In R) w w1 := hF1.mono fun k e => by unfold In; omega
    exact (f1.grown hg3 fun r e => .inl (by unfold In; rw [hk4 r e]; decide)).setCell (by unfold In; rw [hme]; decide) _
  refine ⟨_, ⟨h.ctx' (fun k e => e) hfr3, fun k e => ?_, (hE sb hsb).trans hme, hr3.set2 v3, ?_, ?_, ?_, ?_, ?_⟩, hE, hfr3⟩
  · by_cases e3 : v3.ownBlock = some k
    · have := hq3.lt e3
      refine ⟨?_, by simpa [World.setCell] using this⟩
      rcases hv3 k e3 with e4 | e4
      · exact (h.bnd k (by omega)).1
      · have := h.ctx.le; omega
    · rw [Roles.putO_ne e3] at e
      by_cases e1 : fv1.ownBlock = some k
      · have := hfq3.lt e1
        refine ⟨?_, by simpa [World.setCell] using this⟩
        rcases hfr k e1 with e4 | e4
        · exact (h.bnd k (by omega)).1
        · have := h.ctx.le; omega
      · rw [Roles.putO_ne e1] at e
        have := h.bnd k e
        exact ⟨this.1, by simp [World.setCell]; omega⟩
  · refine ⟨fb, fv1, rfl, (hE fb hfl).trans hfb, (far fb (fun e => by rw [e] at hfb; omega)).trans hf3, hfq3.kept fun g e => far g (hne g e), fun k e => ?_⟩
    rw [Roles.putO_ne (hv3f k e)]
    exact Roles.putO_at e
  · exact ⟨hq3.kept fun g e => far g (fun e' => hv3s (by rw [e, e'])), fun k e => Roles.putO_at e⟩
  · exact h.rcp.kept (fun k hk e => hkeep k hk (by omega) (by omega) (by omega) (by omega)) hE
  · exact h.snd.kept (fun k hk e => hkeep k hk (by omega) (by omega) (by omega) (by omega)) hE
  · exact h.body.kept (fun k hk e => hkeep k hk (by omega) (by omega) (by omega) (by omega)) hE
theorem SesR.pop {st : Ses} {rest l : List UInt8} {r : List (List UInt8)} (h : SesR G w sb most fp kv sp tv bp ⟨st, rest, l :: r⟩ R) {v : Value} (hv : Qs txL True w 9 v (r.map bt)) (ho : ∀ k, v.ownBlock = some k → kv.ownBlock = some k) :
    SesR G (w.setCell ⟨sb, 2, none⟩ v) sb most fp v sp tv bp ⟨st, rest, r⟩ R := by
  have hsb := h.sb_lt
  have hme := h.me
  have far : ∀ k, R k ≠ 1 → (w.setCell ⟨sb, 2, none⟩ v).heap[k]? = w.heap[k]? := fun k hk => Below.heap_setCell w ⟨sb, 2, none⟩ v k fun e => hk (by rw [show k = sb from e]; exact hme)
  have f : Fr (Bk sb) w (w.setCell ⟨sb, 2, none⟩ v) := (Fr.refl (Bk sb) w).setCell (by rfl) _
  have hv4 : ∀ k, v.ownBlock = some k → R k = 4 := fun k e => h.kept.2 k (ho k e)
  refine ⟨h.ctx' (fun k e => by rw [show k = sb from e, hme]; decide) f, fun k e => by have := h.bnd k e; exact ⟨this.1, by simpa [World.setCell] using this.2⟩, hme, h.raw.set2 v, ?_, ⟨hv.kept fun g e => far g (by rw [hv4 g e]; decide), hv4⟩, ?_, ?_, ?_⟩
  · exact h.feed.kept (fun k hk e => far k (by omega)) (Ext.refl _ _)
  · exact h.rcp.kept (fun k hk e => far k (by omega)) (Ext.refl _ _)
  · exact h.snd.kept (fun k hk e => far k (by omega)) (Ext.refl _ _)
  · exact h.body.kept (fun k hk e => far k (by omega)) (Ext.refl _ _)
/-- within Feed -/
structure FdI (G : Nat) (w wr : World) (sb most ob : Nat) (R : Roles) (rest : List UInt8) (F : Ses × List UInt8 × List (List UInt8)) (st : Ses) (kept : List (List UInt8)) (R' : Roles) (ov : Value) (out : List UInt8) : Prop where
  ses : SesAt G wr sb most ⟨st, rest, kept⟩ R'
  G0 : G ≤ w.heap.size
  ext : Ext w R R'
  frm : Fr (In R) w wr
  bq : BQ wr ob ov out
  hob : R' ob = 0 ∧ w.heap.size ≤ ob
  hov : ∀ k, ov.ownBlock = some k → R' k = 0 ∧ w.heap.size ≤ k
  run : ((runW most st kept).1, out ++ (runW most st kept).2.1, (runW most st kept).2.2) = F
  inv : Inv most st
  kl : ∀ l ∈ kept, l.length ≤ 1000
  wt : out.length + (2000 * kept.length + wtS st) ≤ 100000000
theorem FdI.next {wr W1 w2 w3 : World} {ob : Nat} {rest : List UInt8} {F : Ses × List UInt8 × List (List UInt8)} {st : Ses} {l : List UInt8} {r : List (List UInt8)} {R' : Roles} {ov v3 : Value} {out : List UInt8} (h : FdI G w wr sb most ob R rest F st (l :: r) R' ov out) (hm : most ≤ 65536) (hw : st.waits = false) (ho : st.over = false)
    (f1 : Fr (In R') wr W1) (hz1 : W1.heap.size = wr.heap.size) (hs : Stp G W1 sb most R' w2 ⟨(stepW most st l).1, rest, r⟩) (hb : BQ w3 ob v3 (out ++ (stepW most st l).2)) (hn : NewOwn w2 ov v3) (f3 : Fr (BX ob ov) w2 w3) :
    ∃ R'', FdI G w w3 sb most ob R rest F (stepW most st l).1 r R'' v3 (out ++ (stepW most st l).2) := by
  obtain ⟨R'', s1, s2, s3⟩ := hs
  have hz := h.frm.size
  have hob := h.bq.lt
  have hsz1 := f1.size
  have hsz2 := s3.size
  have hsz3 := f3.size
  have e0 : R'' ob = 0 := by rw [s2 ob (by omega)]; exact h.hob.1
  have eo : ∀ k, ov.ownBlock = some k → R'' k = 0 := fun k e => by
    have := h.bq.2.2.1.lt e
    rw [s2 k (by omega)]; exact (h.hov k e).1
  have hB3 : ∀ k, BX ob ov k → R'' k = 0 ∧ w.heap.size ≤ k := fun k e => by
    rcases e with e | e
    · rw [e]; exact ⟨e0, h.hob.2⟩
    · exact ⟨eo k e, (h.hov k e).2⟩
  have hE : Ext w R R'' := h.ext.trans (fun k hk => s2 k (by omega)) h.frm.size
  have hf2 : Fr (In R) w w2 := (h.frm.trans f1 (fun g hg => by
    rcases Nat.lt_or_ge g w.heap.size with hl | hl
    · exact .inl (by unfold In at *; rw [← h.ext g hl]; exact hg)
    · exact .inr hl)).trans s3 (fun g hg => by
    rcases Nat.lt_or_ge g w.heap.size with hl | hl
    · exact .inl (by unfold In at *; rw [← h.ext g hl]; exact hg)
    · exact .inr hl)
  have hc3 : Ctx G w3 := s1.ctx.fr (X := BX ob ov) (fun k e => Nat.le_trans h.G0 (hB3 k e).2) f3
  refine ⟨R'', s1.kept hc3 (fun k hk e => f3.block k hk fun e' => e (hB3 k e').1) f3.size, h.G0, hE, hf2.trans f3 (fun g hg => .inr (hB3 g hg).2), hb, ⟨e0, h.hob.2⟩, fun k e => ?_, ?_, (step_ok l h.inv hw ho).1, fun x hx => h.kl x (by simp [hx]), ?_⟩
  · rcases hn with e' | e'
    · exact ⟨eo k (by rw [← e']; exact e), (h.hov k (by rw [← e']; exact e)).2⟩
    · have := e' k e
      refine ⟨?_, by omega⟩
      by_cases hx : R'' k = 0
      · exact hx
      · have := (s1.bnd k hx).2; omega
  · rw [← h.run, runW_cons, if_neg (by rw [hw, ho]; decide)]
    simp
  · have h1 := h.wt
    have h2 := step_wt (st := st) hm l (h.kl l (by simp)) hw
    rw [List.length_append]
    rw [List.length_cons] at h1
    omega
/-- what Feed leaves -/
def FedIs (G : Nat) (w : World) (sb most : Nat) (R : Roles) (p : Whl × List UInt8) (e : Ending) (w' : World) : Prop := e = .returned (.tuple #[.string (bt p.2), .bool p.1.st.waits]) ∧ Stp G w sb most R w' p.1
theorem fed_end {wr : World} {ob : Nat} {rest : List UInt8} {F : Ses × List UInt8 × List (List UInt8)} {st : Ses} {kept : List (List UInt8)} {R' : Roles} {ov : Value} {out : List UInt8} (h : FdI G w wr sb most ob R rest F st kept R' ov out) (he : kept = [] ∨ st.waits = true ∨ st.over = true) : F = (st, out, kept) := by
  rw [← h.run]
  cases kept with
  | nil => show (st, out ++ [], []) = _; rw [List.append_nil]
  | cons l r =>
    rw [runW_cons, if_pos (by
      rcases he with he | he | he
      · cases he
      · rw [he]; rfl
      · rw [he]; simp)]
    show (st, out ++ [], l :: r) = _
    rw [List.append_nil]
theorem fed_start {W3 : World} {rest : List UInt8} {K : List (List UInt8)} {fp v3 : Value} {R1 : Roles} (hg : Gd most s) (h : SesR G W3 sb most fp v3 sp tv bp ⟨s.st, rest, K⟩ R1 ∧ Ext w R R1 ∧ Fr (In R) w W3) (hG : G ≤ w.heap.size) (hK : ∀ l ∈ K, l.length ≤ 1000) (hz : 2000 * K.length + wtS s.st ≤ 100000000) :
    Hid (FdI G w (W3.alloc (.cells #[.pointer none, .slice none 0 0] 69)) sb most W3.heap.size R rest (runW most s.st K) s.st K R1 (.slice none 0 0) []) := by
  obtain ⟨h1, h2, h3⟩ := h
  have hb : Below W3.heap.size W3 (W3.alloc (.cells #[.pointer none, .slice none 0 0] 69)) := (Below.refl _ _).alloc (Nat.le_refl _) _
  refine ⟨SesAt.below ⟨_, _, _, _, _, h1⟩ hb, hG, h2, h3.then hb, BQ.new (heap_alloc_new W3 _), ⟨?_, h3.size⟩, (fun k e => by cases e), ?_, hg.inv, hK, ?_⟩
  · by_cases hx : R1 W3.heap.size = 0
    · exact hx
    · have := (h1.bnd _ hx).2; omega
  · rw [List.nil_append]
  · rw [List.length_nil]; omega
theorem fed_kl (hg : Gd most s) (c : List UInt8) : ∀ l ∈ s.kept ++ (pushW s.rest c).1, l.length ≤ 1000 := fun l hl => by
  rcases List.mem_append.1 hl with hl | hl
  · exact hg.kpt l hl
  · exact (push_wt c s.rest hg.rst).2 l hl
theorem fed_wt (c : ByteArray) (hw : wt s + 2000 * c.size ≤ 100000000) : 2000 * (s.kept ++ (pushW s.rest c.data.toList).1).length + wtS s.st ≤ 100000000 := by
  have := pushW_count c.data.toList s.rest
  have hl : c.data.toList.length = c.size := rfl
  unfold wt at hw
  rw [List.length_append]
  omega
theorem fed_cells {fb : Nat} {w1 w3 : World} (h : SesR G w sb most (.pointer (some ⟨fb, 0, none⟩)) kv sp tv bp s R) (hF1 : Fr (fun k => R k = 2 ∨ R k = 3) w w1) (hg3 : w1.grownBy w3 kv.ownBlock) :
    w3.cell? ⟨sb, 1, none⟩ = some (.pointer (some ⟨fb, 0, none⟩)) ∧ w3.cell? ⟨sb, 2, none⟩ = some kv ∧ w3.frozen? ⟨sb, 2, none⟩ = false := by
  have hsb := h.sb_lt
  have hme := h.me
  have hr : Raw w3 sb most (.pointer (some ⟨fb, 0, none⟩)) kv s.st.greeted sp tv bp s.st.long s.st.waits s.st.over :=
    (hg3.block sb (Nat.lt_of_lt_of_le hsb hF1.size) (fun e => by have := h.kept.2 sb e.symm; omega)).trans ((hF1.block sb hsb (fun e => by omega)).trans h.raw)
  exact ⟨hr.cells.1.2.1, hr.cells.1.2.2.1, hr.cells.2 2⟩
theorem fed_fin {wr w9 : World} {ob : Nat} {c : List UInt8} {st : Ses} {kept : List (List UInt8)} {R' : Roles} {ov : Value} {out : List UInt8} (h : FdI G w wr sb most ob R (pushW s.rest c).2 (runW most s.st (s.kept ++ (pushW s.rest c).1)) st kept R' ov out) (hF : runW most s.st (s.kept ++ (pushW s.rest c).1) = (st, out, kept)) (f : Fr (fun k => ov.ownBlock = some k) wr.drew w9) :
    FedIs G w sb most R (feedW most s c) (.returned (.tuple #[.string (bt out), .bool st.waits])) w9 ∧ w9.cell? ⟨sb, 8, none⟩ = some (.bool st.waits) := by
  have e : feedW most s c = (⟨st, (pushW s.rest c).2, kept⟩, out) := by unfold feedW; simp only; rw [hF]
  rw [e]
  have hc9 : Ctx G w9 := (h.ses.ctx.below (Below.refl _ _).drew).fr (fun k e => Nat.le_trans h.G0 (h.hov k e).2) f
  have hs9 : SesAt G w9 sb most ⟨st, (pushW s.rest c).2, kept⟩ R' := h.ses.kept hc9 (fun k hk e => f.block k hk fun e' => e (h.hov k e').1) f.size
  refine ⟨⟨rfl, R', hs9, h.ext, ?_⟩, ?_⟩
  · have f1 : Fr (In R) w wr.drew := h.frm.drew
    exact f1.trans f fun g hg => .inr (h.hov g hg).2
  · obtain ⟨fp, kv, sp, tv, bp, hx⟩ := hs9
    exact hx.raw.cells.1.2.2.2.2.2.2.2.2.1
theorem fed_bq {wr W1 w2 : World} {ob : Nat} {rest : List UInt8} {F : Ses × List UInt8 × List (List UInt8)} {st : Ses} {kept : List (List UInt8)} {R' : Roles} {ov : Value} {out : List UInt8} {s' : Whl} (h : FdI G w wr sb most ob R rest F st kept R' ov out) (f1 : Fr (In R') wr W1) (hs : Stp G W1 sb most R' w2 s') : BQ w2 ob ov out := by
  obtain ⟨R'', s1, s2, s3⟩ := hs
  have hob := h.bq.lt
  have f : ∀ k, k < wr.heap.size → R' k = 0 → w2.heap[k]? = wr.heap[k]? := fun k hk hR => (s3.block k (Nat.lt_of_lt_of_le hk f1.size) (fun e => e hR)).trans (f1.block k hk (fun e => e hR))
  exact h.bq.kept (f ob hob h.hob.1) fun g e => f g (h.bq.2.2.1.lt e) (h.hov g e).1
theorem fed_kept {fb : Nat} {w1 : World} (h : SesR G w sb most (.pointer (some ⟨fb, 0, none⟩)) kv sp tv bp s R) (hF1 : Fr (fun k => R k = 2 ∨ R k = 3) w w1) : Qs txL True w1 9 kv (s.kept.map bt) :=
  h.kept.1.kept fun g e => hF1.block g (h.kept.1.lt e) (fun e' => by have := h.kept.2 g e; omega)
theorem fed_raw {fb : Nat} {w1 : World} (h : SesR G w sb most (.pointer (some ⟨fb, 0, none⟩)) kv sp tv bp s R) (hF1 : Fr (fun k => R k = 2 ∨ R k = 3) w w1) : Raw w1 sb most (.pointer (some ⟨fb, 0, none⟩)) kv s.st.greeted sp tv bp s.st.long s.st.waits s.st.over :=
  (hF1.block sb h.sb_lt (fun e => by have := h.me; omega)).trans h.raw
theorem fed_c1 {fb : Nat} {w1 : World} (h : SesR G w sb most (.pointer (some ⟨fb, 0, none⟩)) kv sp tv bp s R) (hF1 : Fr (fun k => R k = 2 ∨ R k = 3) w w1) : w1.cell? ⟨sb, 1, none⟩ = some (.pointer (some ⟨fb, 0, none⟩)) := (fed_raw h hF1).cells.1.2.1
theorem fed_c2 {fb : Nat} {w1 : World} (h : SesR G w sb most (.pointer (some ⟨fb, 0, none⟩)) kv sp tv bp s R) (hF1 : Fr (fun k => R k = 2 ∨ R k = 3) w w1) : w1.cell? ⟨sb, 2, none⟩ = some kv := (fed_raw h hF1).cells.1.2.2.1
set_option maxHeartbeats 4000000 in
set_option maxRecDepth 100000 in
theorem feed_any (h : SesAt G w sb most s R) (hm : most ≤ 65536) (hg : Gd most s) (chunk : ByteArray) (hs : chunk.size ≤ 1000000) (hw : wt s + 2000 * chunk.size ≤ 100000000) :
    Calls Tryz.prog 14 #[.pointer (some ⟨sb, 0, none⟩), .string chunk] w (FedIs G w sb most R (feedW most s chunk.data.toList)) := by
  obtain ⟨fp, kv, sp, tv, bp, h⟩ := h
  obtain ⟨fb, fv, rfl, hfb, hff, hfq, hfo⟩ := h.feed
  have hd : SesR G w.drew sb most (.pointer (some ⟨fb, 0, none⟩)) kv sp tv bp s R := by
    have hc : Ctx G w.drew := h.ctx.below (Below.refl _ _).drew
    exact ⟨hc, h.bnd, h.me, h.raw, ⟨fb, fv, rfl, hfb, hff, hfq, hfo⟩, h.kept, h.rcp, h.snd, h.body⟩
  have hPu := push_any G w.drew R fb fv s.rest chunk hd.ctx h.bnd hfb hff hfq hfo hg.rst hs
  have c1 : w.drew.cell? ⟨sb, 1, none⟩ = some (.pointer (some ⟨fb, 0, none⟩)) := hd.raw.cells.1.2.1
  have c2 : w.drew.cell? ⟨sb, 2, none⟩ = some kv := hd.raw.cells.1.2.2.1
  have hcnt := pushW_count chunk.data.toList s.rest
  have hkl : s.kept.length ≤ 100000 := by unfold wt at hw; omega
  have hcl : chunk.data.toList.length = chunk.size := rfl
  have HZ := Lib.hid (show ((s.kept.map bt).length + ((pushW s.rest chunk.data.toList).1.map bt).length) * 16 ≤ 140737488355328 ∧ (s.kept.map bt).length + ((pushW s.rest chunk.data.toList).1.map bt).length ≤ 140737488355328 by rw [List.length_map, List.length_map]; omega)
  have HPu := Lib.hid hPu
  have HSR := Lib.hid hd
  have HG := Lib.hid (And.intro hm (And.intro hg (And.intro hw (And.intro hfb (lt_of_block hff)))))
  clear hPu hd h hff hfq hfo hm hg hw hcnt hkl hcl hfb
  go_enter Tryz.func14, Tryz.ntmps14
  go_wp2
  refine wp_region_heldO (fun W => W.cell? ⟨sb, 1, none⟩ = some (.pointer (some ⟨fb, 0, none⟩))) 15 (by kernel_rfl) rfl c1 (fun hHeld => ?_)
  refine takeO (v := ?_) 0 rfl (by kernel_rfl) (by kernel_rfl) (by kernel_rfl) (by rfl) ?_ hHeld ?_
  rotate_left
  · intro w hSw
    (try dsimp only at hSw)
    go_simp
    first | done | with_reducible rfl
  simp only [Act.put, List.setIfInBounds_toArray, List.set_cons_zero, List.set_cons_succ]
  refine takeO (v := ?_) 1 rfl (by kernel_rfl) (by kernel_rfl) (by kernel_rfl) (by rfl) ?_ hHeld ?_
  rotate_left
  · intro w hSw
    (try dsimp only at hSw)
    go_simp
    first | done | with_reducible rfl
  simp only [Act.put, List.setIfInBounds_toArray, List.set_cons_zero, List.set_cons_succ]
  refine takeO (v := ?_) 2 rfl (by kernel_rfl) (by kernel_rfl) (by kernel_rfl) (by rfl) ?_ hHeld ?_
  rotate_left
  · intro w hSw
    (try dsimp only at hSw)
    go_simp
    first | done | with_reducible rfl
  simp only [Act.put, List.setIfInBounds_toArray, List.set_cons_zero, List.set_cons_succ]
  refine takeO (v := ?_) 3 rfl (by kernel_rfl) (by kernel_rfl) (by kernel_rfl) (by rfl) ?_ hHeld ?_
  rotate_left
  · intro w hSw
    (try dsimp only at hSw)
    go_simp
    first | done | with_reducible rfl
  simp only [Act.put, List.setIfInBounds_toArray, List.set_cons_zero, List.set_cons_succ]
  refine takeO (v := ?_) 5 rfl (by kernel_rfl) (by kernel_rfl) (by kernel_rfl) (by rfl) ?_ hHeld ?_
  rotate_left
  · intro w hSw
    (try dsimp only at hSw)
    go_simp
    first | done | with_reducible rfl
  simp only [Act.put, List.setIfInBounds_toArray, List.set_cons_zero, List.set_cons_succ]
  refine takeO (v := ?_) 6 rfl (by kernel_rfl) (by kernel_rfl) (by kernel_rfl) (by rfl) ?_ hHeld ?_
  rotate_left
  · intro w hSw
    (try dsimp only at hSw)
    go_simp
    first | done | with_reducible rfl
  simp only [Act.put, List.setIfInBounds_toArray, List.set_cons_zero, List.set_cons_succ]
  refine takeO (v := ?_) 7 rfl (by kernel_rfl) (by kernel_rfl) (by kernel_rfl) (by rfl) ?_ hHeld ?_
  rotate_left
  · intro w hSw
    (try dsimp only at hSw)
    go_simp
    first | done | with_reducible rfl
  simp only [Act.put, List.setIfInBounds_toArray, List.set_cons_zero, List.set_cons_succ]
  refine takeO (v := ?_) 8 rfl (by kernel_rfl) (by kernel_rfl) (by kernel_rfl) (by rfl) ?_ hHeld ?_
  rotate_left
  · intro w hSw
    (try dsimp only at hSw)
    go_simp
    first | done | with_reducible rfl
  simp only [Act.put, List.setIfInBounds_toArray, List.set_cons_zero, List.set_cons_succ]
  refine takeO (v := ?_) 9 rfl (by kernel_rfl) (by kernel_rfl) (by kernel_rfl) (by rfl) ?_ hHeld ?_
  rotate_left
  · intro w hSw
    (try dsimp only at hSw)
    go_simp
    first | done | with_reducible rfl
  simp only [Act.put, List.setIfInBounds_toArray, List.set_cons_zero, List.set_cons_succ]
  refine bothO 4 10 (by kernel_rfl) ?_ ?_
  · refine wpOp_value (v := kv) rfl (by rfl) (by go_simp) ⟨hHeld, ?_⟩
    simp only [Act.put, List.setIfInBounds_toArray, List.set_cons_zero, List.set_cons_succ]
    refine callO (f := 35) (args := #[.pointer (some ⟨fb, 0, none⟩), .string chunk]) 10 rfl (by kernel_rfl) (by rfl) (by go_simp) (HPu.out.mono ?_)
    rintro e w1 ⟨v1, fv1, rfl, hq1, ho1, hf1, hfq1, hfr1, hF1⟩
    have p1 := fed_c1 HSR.out hF1
    have p2 := fed_c2 HSR.out hF1
    obtain ⟨v3, w3, hap, hq3, hg3, hn3, -⟩ := run_append_q (P := Tryz.prog) (w := w1) txG (fed_kept HSR.out hF1) 22 22 v1 ((pushW s.rest chunk.data.toList).1.map bt) (Qs.src Tryz.underlying22 hq1) HZ.out.1 HZ.out.2
    obtain ⟨q1, q2, q3⟩ := fed_cells HSR.out hF1 hg3
    obtain ⟨R1, y1, y2, y3⟩ := HSR.out.fed HG.out.2.2.2.1 HG.out.2.2.2.2 hF1 hf1 hfq1 hfr1 (by rw [List.map_append]; exact hq3) hg3 hn3
    have HY := Lib.hid (And.intro y1 (And.intro (show Ext w R R1 from y2) (show Fr (In R) w _ from ⟨y3.os, y3.tape, y3.output, y3.size, y3.block⟩)))
    obtain ⟨pv3, cv3, hv3, -⟩ := hq3.form
    obtain ⟨nv3, hnv3⟩ : ∃ n, n = (s.kept.map bt ++ (pushW s.rest chunk.data.toList).1.map bt).length := ⟨_, rfl⟩
    rw [← hnv3] at hv3
    subst hv3
    clear y1 y2 y3 hq1 ho1 hf1 hfq1 hfr1 hF1 hq3 hg3 hn3 hnv3
    refine ⟨_, rfl, p1, ?_⟩
    simp only [Act.put, List.setIfInBounds_toArray, List.set_cons_zero, List.set_cons_succ]
    refine stepO (v := .slice pv3 nv3 cv3) 11 rfl (by kernel_rfl) (by rfl) (run_appO rfl rfl rfl hap) q1 ?_
    simp only [Act.put, List.setIfInBounds_toArray, List.set_cons_zero, List.set_cons_succ]
    have hHeld := q1
    refine takeO (v := ?_) 12 rfl (by kernel_rfl) (by kernel_rfl) (by kernel_rfl) (by rfl) ?_ hHeld ?_
    rotate_left
    · intro w hSw
      (try dsimp only at hSw)
      go_simp
      first | done | with_reducible rfl
    simp only [Act.put, List.setIfInBounds_toArray, List.set_cons_zero, List.set_cons_succ]
    refine takeO (v := ?_) 13 rfl (by kernel_rfl) (by kernel_rfl) (by kernel_rfl) (by rfl) ?_ hHeld ?_
    rotate_left
    · intro w hSw
      (try dsimp only at hSw)
      go_simp
      first | done | with_reducible rfl
    simp only [Act.put, List.setIfInBounds_toArray, List.set_cons_zero, List.set_cons_succ]
    have hr14 := (HY.out.1).raw.cells.1.2.1
    refine skipO 14 rfl (by kernel_rfl) (by rfl) (by go_simp) hr14 ?_
    simp only [Act.put, List.setIfInBounds_toArray, List.set_cons_zero, List.set_cons_succ]
    refine doneO (by kernel_rfl) ?_
    obtain ⟨W3, hW3⟩ : ∃ W3, W3 = w3.setCell ⟨sb, 2, none⟩ (.slice pv3 nv3 cv3) := ⟨_, rfl⟩
    have HY := HY
    rw [← hW3] at HY ⊢
    clear hHeld p1 p2 q1 q2 q3 hap hW3 hr14 c1 c2
    go_wp2_with fail
    have hst := fed_start HG.out.2.1 HY.out HSR.out.ctx.le (fed_kl HG.out.2.1 _) (fed_wt chunk HG.out.2.2.1)
    go_loopg [7] ((s.kept ++ (pushW s.rest chunk.data.toList).1).length) (fun g _ wr => ∃ (st : Ses) (kept : List (List UInt8)) (R2 : Roles) (ov : Value) (out : List UInt8), kept.length = g ∧ Hid (FdI G w wr sb most W3.heap.size R (pushW s.rest chunk.data.toList).2 (runW most s.st (s.kept ++ (pushW s.rest chunk.data.toList).1)) st kept R2 ov out))
    case atStart => exact ⟨_, _, _, _, _, rfl, hst⟩
    case round =>
      clear hst
      obtain ⟨st, kept, R2, ov, out, hgk, hI⟩ := hrel
      obtain ⟨fp2, kv2, sp2, tv2, bp2, hS⟩ := hI.out.ses
      have x2 := hS.raw.cells.1.2.2.1
      have x6 := hS.raw.cells.1.2.2.2.2.2.2.1
      have x8 := hS.raw.cells.1.2.2.2.2.2.2.2.2.1
      have x9 := hS.raw.cells.1.2.2.2.2.2.2.2.2.2
      have z2 := hS.raw.cells.2 2
      have HX8 := Lib.hid (show wr.drew.cell? ⟨sb, 8, none⟩ = some (.bool st.waits) from x8)
      have hkf := hS.kept.1
      have HS := Lib.hid hS
      have HZ9 := Lib.hid (show (runW most st kept).2.2 = kept → True from fun _ => trivial)
      clear hS
      cases kept with
      | nil =>
        obtain ⟨p4, c4, rfl, -⟩ := hkf.form
        clear hkf
        have HF := Lib.hid (fed_end hI.out (.inl rfl))
        go_wp2_with fail
        refine wp_region_heldO (fun V => V.cell? ⟨sb, 8, none⟩ = some (.bool st.waits)) 7 (by kernel_rfl) rfl HX8.out (fun hHeld => ?_)
        refine takeO (v := ?_) 1 rfl (by kernel_rfl) (by kernel_rfl) (by kernel_rfl) (by rfl) ?_ hHeld ?_
        rotate_left
        · intro w hSw
          (try dsimp only at hSw)
          go_simp
          first | done | with_reducible rfl
        simp only [Act.put, List.setIfInBounds_toArray, List.set_cons_zero, List.set_cons_succ]
        refine takeO (v := ?_) 2 rfl (by kernel_rfl) (by kernel_rfl) (by kernel_rfl) (by rfl) ?_ hHeld ?_
        rotate_left
        · intro w hSw
          (try dsimp only at hSw)
          go_simp
          first | done | with_reducible rfl
        simp only [Act.put, List.setIfInBounds_toArray, List.set_cons_zero, List.set_cons_succ]
        refine takeO (v := ?_) 3 rfl (by kernel_rfl) (by kernel_rfl) (by kernel_rfl) (by rfl) ?_ hHeld ?_
        rotate_left
        · intro w hSw
          (try dsimp only at hSw)
          go_simp
          first | done | with_reducible rfl
        simp only [Act.put, List.setIfInBounds_toArray, List.set_cons_zero, List.set_cons_succ]
        refine takeO (v := ?_) 4 rfl (by kernel_rfl) (by kernel_rfl) (by kernel_rfl) (by rfl) ?_ hHeld ?_
        rotate_left
        · intro w hSw
          (try dsimp only at hSw)
          go_simp
          first | done | with_reducible rfl
        simp only [Act.put, List.setIfInBounds_toArray, List.set_cons_zero, List.set_cons_succ]
        refine callO (f := 39) (args := #[.pointer (some ⟨W3.heap.size, 0, none⟩)]) 0 rfl (by kernel_rfl) (by rfl) (by go_simp) ((stQ W3.heap.size ov out wr.drew hI.out.bq (by have := hI.out.wt; omega)).mono ?_)
        rintro e w9 ⟨rfl, -, f9⟩
        obtain ⟨k1, k2⟩ := fed_fin (c := chunk.data.toList) hI.out HF.out f9
        refine ⟨_, rfl, k2, ?_⟩
        have K1 := Lib.hid k1
        have hHeld := k2
        clear k1 f9
        simp only [Act.put, List.setIfInBounds_toArray, List.set_cons_zero, List.set_cons_succ]
        refine takeO (v := ?_) 5 rfl (by kernel_rfl) (by kernel_rfl) (by kernel_rfl) (by rfl) ?_ hHeld ?_
        rotate_left
        · intro w hSw
          (try dsimp only at hSw)
          go_simp
          first | done | with_reducible rfl
        simp only [Act.put, List.setIfInBounds_toArray, List.set_cons_zero, List.set_cons_succ]
        refine takeO (v := ?_) 6 rfl (by kernel_rfl) (by kernel_rfl) (by kernel_rfl) (by rfl) ?_ hHeld ?_
        rotate_left
        · intro w hSw
          (try dsimp only at hSw)
          go_simp
          first | done | with_reducible rfl
        simp only [Act.put, List.setIfInBounds_toArray, List.set_cons_zero, List.set_cons_succ]
        refine doneO (by kernel_rfl) ?_
        go_wp2
        go_ret2
        exact K1.out
      | cons l r =>
        cases hwt : st.waits with
        | true =>
          rw [hwt] at x8
          obtain ⟨p4, c4, rfl, -⟩ := hkf.form
          clear hkf
          have HF := Lib.hid (fed_end hI.out (.inr (.inl hwt)))
          have q1 : (0 : Int) < (r.length : Int) + 1 := by omega
          clear hwt
          go_wp2_with fail
          refine wp_region_heldO (fun V => V.cell? ⟨sb, 8, none⟩ = some (.bool st.waits)) 7 (by kernel_rfl) rfl HX8.out (fun hHeld => ?_)
          refine takeO (v := ?_) 1 rfl (by kernel_rfl) (by kernel_rfl) (by kernel_rfl) (by rfl) ?_ hHeld ?_
          rotate_left
          · intro w hSw
            (try dsimp only at hSw)
            go_simp
            first | done | with_reducible rfl
          simp only [Act.put, List.setIfInBounds_toArray, List.set_cons_zero, List.set_cons_succ]
          refine takeO (v := ?_) 2 rfl (by kernel_rfl) (by kernel_rfl) (by kernel_rfl) (by rfl) ?_ hHeld ?_
          rotate_left
          · intro w hSw
            (try dsimp only at hSw)
            go_simp
            first | done | with_reducible rfl
          simp only [Act.put, List.setIfInBounds_toArray, List.set_cons_zero, List.set_cons_succ]
          refine takeO (v := ?_) 3 rfl (by kernel_rfl) (by kernel_rfl) (by kernel_rfl) (by rfl) ?_ hHeld ?_
          rotate_left
          · intro w hSw
            (try dsimp only at hSw)
            go_simp
            first | done | with_reducible rfl
          simp only [Act.put, List.setIfInBounds_toArray, List.set_cons_zero, List.set_cons_succ]
          refine takeO (v := ?_) 4 rfl (by kernel_rfl) (by kernel_rfl) (by kernel_rfl) (by rfl) ?_ hHeld ?_
          rotate_left
          · intro w hSw
            (try dsimp only at hSw)
            go_simp
            first | done | with_reducible rfl
          simp only [Act.put, List.setIfInBounds_toArray, List.set_cons_zero, List.set_cons_succ]
          refine callO (f := 39) (args := #[.pointer (some ⟨W3.heap.size, 0, none⟩)]) 0 rfl (by kernel_rfl) (by rfl) (by go_simp) ((stQ W3.heap.size ov out wr.drew hI.out.bq (by have := hI.out.wt; omega)).mono ?_)
          rintro e w9 ⟨rfl, -, f9⟩
          obtain ⟨k1, k2⟩ := fed_fin (c := chunk.data.toList) hI.out HF.out f9
          refine ⟨_, rfl, k2, ?_⟩
          have K1 := Lib.hid k1
          have hHeld := k2
          clear k1 f9
          simp only [Act.put, List.setIfInBounds_toArray, List.set_cons_zero, List.set_cons_succ]
          refine takeO (v := ?_) 5 rfl (by kernel_rfl) (by kernel_rfl) (by kernel_rfl) (by rfl) ?_ hHeld ?_
          rotate_left
          · intro w hSw
            (try dsimp only at hSw)
            go_simp
            first | done | with_reducible rfl
          simp only [Act.put, List.setIfInBounds_toArray, List.set_cons_zero, List.set_cons_succ]
          refine takeO (v := ?_) 6 rfl (by kernel_rfl) (by kernel_rfl) (by kernel_rfl) (by rfl) ?_ hHeld ?_
          rotate_left
          · intro w hSw
            (try dsimp only at hSw)
            go_simp
            first | done | with_reducible rfl
          simp only [Act.put, List.setIfInBounds_toArray, List.set_cons_zero, List.set_cons_succ]
          refine doneO (by kernel_rfl) ?_
          go_wp2
          go_ret2
          exact K1.out
        | false =>
          rw [hwt] at x8
          cases hov : st.over with
          | true =>
            rw [hov] at x9
            obtain ⟨p4, c4, rfl, -⟩ := hkf.form
            clear hkf
            have HF := Lib.hid (fed_end hI.out (.inr (.inr hov)))
            have q1 : (0 : Int) < (r.length : Int) + 1 := by omega
            clear hwt hov
            go_wp2_with fail
            refine wp_region_heldO (fun V => V.cell? ⟨sb, 8, none⟩ = some (.bool st.waits)) 7 (by kernel_rfl) rfl HX8.out (fun hHeld => ?_)
            refine takeO (v := ?_) 1 rfl (by kernel_rfl) (by kernel_rfl) (by kernel_rfl) (by rfl) ?_ hHeld ?_
            rotate_left
            · intro w hSw
              (try dsimp only at hSw)
              go_simp
              first | done | with_reducible rfl
            simp only [Act.put, List.setIfInBounds_toArray, List.set_cons_zero, List.set_cons_succ]
            refine takeO (v := ?_) 2 rfl (by kernel_rfl) (by kernel_rfl) (by kernel_rfl) (by rfl) ?_ hHeld ?_
            rotate_left
            · intro w hSw
              (try dsimp only at hSw)
              go_simp
              first | done | with_reducible rfl
            simp only [Act.put, List.setIfInBounds_toArray, List.set_cons_zero, List.set_cons_succ]
            refine takeO (v := ?_) 3 rfl (by kernel_rfl) (by kernel_rfl) (by kernel_rfl) (by rfl) ?_ hHeld ?_
            rotate_left
            · intro w hSw
              (try dsimp only at hSw)
              go_simp
              first | done | with_reducible rfl
            simp only [Act.put, List.setIfInBounds_toArray, List.set_cons_zero, List.set_cons_succ]
            refine takeO (v := ?_) 4 rfl (by kernel_rfl) (by kernel_rfl) (by kernel_rfl) (by rfl) ?_ hHeld ?_
            rotate_left
            · intro w hSw
              (try dsimp only at hSw)
              go_simp
              first | done | with_reducible rfl
            simp only [Act.put, List.setIfInBounds_toArray, List.set_cons_zero, List.set_cons_succ]
            refine callO (f := 39) (args := #[.pointer (some ⟨W3.heap.size, 0, none⟩)]) 0 rfl (by kernel_rfl) (by rfl) (by go_simp) ((stQ W3.heap.size ov out wr.drew hI.out.bq (by have := hI.out.wt; omega)).mono ?_)
            rintro e w9 ⟨rfl, -, f9⟩
            obtain ⟨k1, k2⟩ := fed_fin (c := chunk.data.toList) hI.out HF.out f9
            refine ⟨_, rfl, k2, ?_⟩
            have K1 := Lib.hid k1
            have hHeld := k2
            clear k1 f9
            simp only [Act.put, List.setIfInBounds_toArray, List.set_cons_zero, List.set_cons_succ]
            refine takeO (v := ?_) 5 rfl (by kernel_rfl) (by kernel_rfl) (by kernel_rfl) (by rfl) ?_ hHeld ?_
            rotate_left
            · intro w hSw
              (try dsimp only at hSw)
              go_simp
              first | done | with_reducible rfl
            simp only [Act.put, List.setIfInBounds_toArray, List.set_cons_zero, List.set_cons_succ]
            refine takeO (v := ?_) 6 rfl (by kernel_rfl) (by kernel_rfl) (by kernel_rfl) (by rfl) ?_ hHeld ?_
            rotate_left
            · intro w hSw
              (try dsimp only at hSw)
              go_simp
              first | done | with_reducible rfl
            simp only [Act.put, List.setIfInBounds_toArray, List.set_cons_zero, List.set_cons_succ]
            refine doneO (by kernel_rfl) ?_
            go_wp2
            go_ret2
            exact K1.out
          | false =>
            rw [hov] at x9
            obtain ⟨p4, c4, rfl, -⟩ := hkf.form
            obtain ⟨gq, oq, rfl, hnq, hcq, hcell, hrest, hone⟩ := Qs.rest (show Qs txL True wr 9 (.slice p4 ((l :: r).map bt).length c4) (bt l :: r.map bt) from hkf)
            rw [List.length_map] at hnq hcq hrest
            replace x2 : wr.cell? ⟨sb, 2, none⟩ = some (.slice (some ⟨gq, oq, none⟩) (r.length + 1) c4) := by rw [x2]; simp
            obtain ⟨LB, hLB, hLBd, hLBs⟩ := bt_ex l
            have hlz := hI.out.kl l (by simp)
            have x3 : wr.cell? ⟨gq, oq, none⟩ = some (.string LB) := by rw [hLB]; exact hcell 0 _ rfl
            have q1 : (0 : Int) < (r.length : Int) + 1 := by omega
            have hbody := HS.out.body
            have HHS := Lib.hid (And.intro hwt hov)
            have hmb : st.body = none ∧ bp2 = .pointer none ∨ ∃ b bq, st.body = some b ∧ bp2 = .pointer (some bq) := by
              have hbody : BodyAt wr R2 bp2 st.body := hbody
              cases hb : st.body with
              | none => rw [hb] at hbody; exact .inl ⟨rfl, hbody⟩
              | some b => rw [hb] at hbody; obtain ⟨bb, bv, h1, -⟩ := hbody; exact .inr ⟨b, _, rfl, h1⟩
            by_cases hc1 : c4 = 1
            · subst hc1
              obtain rfl : r = [] := List.eq_nil_of_length_eq_zero (by omega)
              have hpop := HS.out.pop (v := .slice (some ⟨gq, oq, none⟩) 0 0) (hone rfl) (fun k e => e)
              have HP := Lib.hid hpop
              have HLB := Lib.hid (And.intro hLBd (And.intro hLBs hlz))
              clear hpop hkf hrest hone hcell hnq hcq hwt hov hbody hLB hLBd hLBs hlz
              rcases hmb with ⟨hb1, rfl⟩ | ⟨b, bq, hb1, rfl⟩
              · have hc := ses_command ⟨_, _, _, _, _, HP.out⟩ HG.out.1 (by have := hI.out.inv.few; show st.to.length ≤ 1000; omega) LB (by have := HLB.out; omega)
                obtain ⟨T2, hT2, hT2d, hT2s⟩ := bt_ex (stepW most st l).2
                have es : stepW most st l = commandW most st l := by unfold stepW; rw [hb1]
                rw [HLB.out.1] at hc
                unfold StpT at hc
                have hc := hc
                rw [show commandW most st l = stepW most st l from es.symm, ← hT2] at hc
                have hHC := Lib.hid hc
                have hsz := step_wt HG.out.1 l HLB.out.2.2 HHS.out.1
                have HT2 := Lib.hid (And.intro hT2d (And.intro hT2s hsz))
                clear hc hT2 hT2d hT2s hb1 es hsz
                go_wp2_with fail
                refine hHC.out.mono ?_
                rintro e w2 ⟨rfl, hst2⟩
                have f1 : Fr (In R2) wr (wr.setCell ⟨sb, 2, none⟩ (.slice (some ⟨gq, oq, none⟩) 0 0)) := (Fr.refl (In R2) wr).setCell (by unfold In; rw [HS.out.me]; decide) _
                have hW := wsQ W3.heap.size ov out T2 w2 (fed_bq hI.out f1 hst2) (by have h1 := hI.out.wt; have h2 := HT2.out; omega)
                rw [HT2.out.1] at hW
                have HW := Lib.hid hW
                have HX := Lib.hid (And.intro f1 hst2)
                clear hW f1 hst2
                go_wp2_with fail
                refine HW.out.mono ?_
                rintro e w5 ⟨rfl, v5, hb5, hn5, f5⟩
                obtain ⟨R5, hF5⟩ := hI.out.next HG.out.1 HHS.out.1 HHS.out.2 HX.out.1 (by simp [World.setCell]) HX.out.2 hb5 hn5 f5
                have HF5 := Lib.hid hF5
                clear hb5 hn5 f5 hF5
                go_wp2
                go_roundg (([] : List (List UInt8)).length)
                case rel => exact ⟨_, _, R5, v5, _, rfl, HF5⟩
                case measure => rw [← hgk]; simp
              · have hc := ses_line ⟨_, _, _, _, _, HP.out⟩ b hb1 LB (by have := HLB.out; omega) (by have h1 := hI.out.wt; unfold wtS at h1; rw [hb1] at h1; simp at h1; omega)
                obtain ⟨T2, hT2, hT2d, hT2s⟩ := bt_ex (stepW most st l).2
                have es : stepW most st l = lineW most st b l := by unfold stepW; rw [hb1]
                rw [HLB.out.1] at hc
                unfold StpT at hc
                have hc := hc
                rw [show lineW most st b l = stepW most st l from es.symm, ← hT2] at hc
                have hHC := Lib.hid hc
                have hsz := step_wt HG.out.1 l HLB.out.2.2 HHS.out.1
                have HT2 := Lib.hid (And.intro hT2d (And.intro hT2s hsz))
                clear hc hT2 hT2d hT2s hb1 es hsz
                go_wp2_with fail
                refine hHC.out.mono ?_
                rintro e w2 ⟨rfl, hst2⟩
                have f1 : Fr (In R2) wr (wr.setCell ⟨sb, 2, none⟩ (.slice (some ⟨gq, oq, none⟩) 0 0)) := (Fr.refl (In R2) wr).setCell (by unfold In; rw [HS.out.me]; decide) _
                have hW := wsQ W3.heap.size ov out T2 w2 (fed_bq hI.out f1 hst2) (by have h1 := hI.out.wt; have h2 := HT2.out; omega)
                rw [HT2.out.1] at hW
                have HW := Lib.hid hW
                have HX := Lib.hid (And.intro f1 hst2)
                clear hW f1 hst2
                go_wp2_with fail
                refine HW.out.mono ?_
                rintro e w5 ⟨rfl, v5, hb5, hn5, f5⟩
                obtain ⟨R5, hF5⟩ := hI.out.next HG.out.1 HHS.out.1 HHS.out.2 HX.out.1 (by simp [World.setCell]) HX.out.2 hb5 hn5 f5
                have HF5 := Lib.hid hF5
                clear hb5 hn5 f5 hF5
                go_wp2
                go_roundg (([] : List (List UInt8)).length)
                case rel => exact ⟨_, _, R5, v5, _, rfl, HF5⟩
                case measure => rw [← hgk]; simp
            · have hpop := HS.out.pop (v := .slice (some ⟨gq, oq + 1, none⟩) r.length (c4 - 1)) hrest (fun k e => e)
              have q2 : (1 : Int) ≤ (c4 : Int) := by omega
              have q3 : (1 : Int) ≤ (r.length : Int) + 1 := by omega
              have q4 : (r.length : Int) + 1 ≤ (c4 : Int) := by omega
              have HP := Lib.hid hpop
              have HLB := Lib.hid (And.intro hLBd (And.intro hLBs hlz))
              clear hpop hkf hrest hone hcell hnq hcq hwt hov hbody hLB hLBd hLBs hlz
              rcases hmb with ⟨hb1, rfl⟩ | ⟨b, bq, hb1, rfl⟩
              · have hc := ses_command ⟨_, _, _, _, _, HP.out⟩ HG.out.1 (by have := hI.out.inv.few; show st.to.length ≤ 1000; omega) LB (by have := HLB.out; omega)
                obtain ⟨T2, hT2, hT2d, hT2s⟩ := bt_ex (stepW most st l).2
                have es : stepW most st l = commandW most st l := by unfold stepW; rw [hb1]
                rw [HLB.out.1] at hc
                unfold StpT at hc
                have hc := hc
                rw [show commandW most st l = stepW most st l from es.symm, ← hT2] at hc
                have hHC := Lib.hid hc
                have hsz := step_wt HG.out.1 l HLB.out.2.2 HHS.out.1
                have HT2 := Lib.hid (And.intro hT2d (And.intro hT2s hsz))
                clear hc hT2 hT2d hT2s hb1 es hsz
                go_wp2_with fail
                refine hHC.out.mono ?_
                rintro e w2 ⟨rfl, hst2⟩
                have f1 : Fr (In R2) wr (wr.setCell ⟨sb, 2, none⟩ (.slice (some ⟨gq, oq + 1, none⟩) r.length (c4 - 1))) := (Fr.refl (In R2) wr).setCell (by unfold In; rw [HS.out.me]; decide) _
                have hW := wsQ W3.heap.size ov out T2 w2 (fed_bq hI.out f1 hst2) (by have h1 := hI.out.wt; have h2 := HT2.out; omega)
                rw [HT2.out.1] at hW
                have HW := Lib.hid hW
                have HX := Lib.hid (And.intro f1 hst2)
                clear hW f1 hst2
                go_wp2_with fail
                refine HW.out.mono ?_
                rintro e w5 ⟨rfl, v5, hb5, hn5, f5⟩
                obtain ⟨R5, hF5⟩ := hI.out.next HG.out.1 HHS.out.1 HHS.out.2 HX.out.1 (by simp [World.setCell]) HX.out.2 hb5 hn5 f5
                have HF5 := Lib.hid hF5
                clear hb5 hn5 f5 hF5
                go_wp2
                go_roundg (r.length)
                case rel => exact ⟨_, _, R5, v5, _, rfl, HF5⟩
                case measure => rw [← hgk]; simp
              · have hc := ses_line ⟨_, _, _, _, _, HP.out⟩ b hb1 LB (by have := HLB.out; omega) (by have h1 := hI.out.wt; unfold wtS at h1; rw [hb1] at h1; simp at h1; omega)
                obtain ⟨T2, hT2, hT2d, hT2s⟩ := bt_ex (stepW most st l).2
                have es : stepW most st l = lineW most st b l := by unfold stepW; rw [hb1]
                rw [HLB.out.1] at hc
                unfold StpT at hc
                have hc := hc
                rw [show lineW most st b l = stepW most st l from es.symm, ← hT2] at hc
                have hHC := Lib.hid hc
                have hsz := step_wt HG.out.1 l HLB.out.2.2 HHS.out.1
                have HT2 := Lib.hid (And.intro hT2d (And.intro hT2s hsz))
                clear hc hT2 hT2d hT2s hb1 es hsz
                go_wp2_with fail
                refine hHC.out.mono ?_
                rintro e w2 ⟨rfl, hst2⟩
                have f1 : Fr (In R2) wr (wr.setCell ⟨sb, 2, none⟩ (.slice (some ⟨gq, oq + 1, none⟩) r.length (c4 - 1))) := (Fr.refl (In R2) wr).setCell (by unfold In; rw [HS.out.me]; decide) _
                have hW := wsQ W3.heap.size ov out T2 w2 (fed_bq hI.out f1 hst2) (by have h1 := hI.out.wt; have h2 := HT2.out; omega)
                rw [HT2.out.1] at hW
                have HW := Lib.hid hW
                have HX := Lib.hid (And.intro f1 hst2)
                clear hW f1 hst2
                go_wp2_with fail
                refine HW.out.mono ?_
                rintro e w5 ⟨rfl, v5, hb5, hn5, f5⟩
                obtain ⟨R5, hF5⟩ := hI.out.next HG.out.1 HHS.out.1 HHS.out.2 HX.out.1 (by simp [World.setCell]) HX.out.2 hb5 hn5 f5
                have HF5 := Lib.hid hF5
                clear hb5 hn5 f5 hF5
                go_wp2
                go_roundg (r.length)
                case rel => exact ⟨_, _, R5, v5, _, rfl, HF5⟩
                case measure => rw [← hgk]; simp
  · refine wpOp_call (f := 35) (args := #[.pointer (some ⟨fb, 0, none⟩), .string chunk]) rfl (by rfl) (by go_simp) (HPu.out.mono ?_)
    rintro e w1 ⟨v1, fv1, rfl, hq1, ho1, hf1, hfq1, hfr1, hF1⟩
    have p1 := fed_c1 HSR.out hF1
    have p2 := fed_c2 HSR.out hF1
    obtain ⟨v3, w3, hap, hq3, hg3, hn3, -⟩ := run_append_q (P := Tryz.prog) (w := w1) txG (fed_kept HSR.out hF1) 22 22 v1 ((pushW s.rest chunk.data.toList).1.map bt) (Qs.src Tryz.underlying22 hq1) HZ.out.1 HZ.out.2
    obtain ⟨q1, q2, q3⟩ := fed_cells HSR.out hF1 hg3
    obtain ⟨R1, y1, y2, y3⟩ := HSR.out.fed HG.out.2.2.2.1 HG.out.2.2.2.2 hF1 hf1 hfq1 hfr1 (by rw [List.map_append]; exact hq3) hg3 hn3
    have HY := Lib.hid (And.intro y1 (And.intro (show Ext w R R1 from y2) (show Fr (In R) w _ from ⟨y3.os, y3.tape, y3.output, y3.size, y3.block⟩)))
    obtain ⟨pv3, cv3, hv3, -⟩ := hq3.form
    obtain ⟨nv3, hnv3⟩ : ∃ n, n = (s.kept.map bt ++ (pushW s.rest chunk.data.toList).1.map bt).length := ⟨_, rfl⟩
    rw [← hnv3] at hv3
    subst hv3
    clear y1 y2 y3 hq1 ho1 hf1 hfq1 hfr1 hF1 hq3 hg3 hn3 hnv3
    refine ⟨_, rfl, p1, ?_⟩
    simp only [Act.put, List.setIfInBounds_toArray, List.set_cons_zero, List.set_cons_succ]
    refine stepO (v := kv) 4 rfl (by kernel_rfl) (by rfl) (by go_simp) p1 ?_
    simp only [Act.put, List.setIfInBounds_toArray, List.set_cons_zero, List.set_cons_succ]
    refine stepO (v := .slice pv3 nv3 cv3) 11 rfl (by kernel_rfl) (by rfl) (run_appO rfl rfl rfl hap) q1 ?_
    simp only [Act.put, List.setIfInBounds_toArray, List.set_cons_zero, List.set_cons_succ]
    have hHeld := q1
    refine takeO (v := ?_) 12 rfl (by kernel_rfl) (by kernel_rfl) (by kernel_rfl) (by rfl) ?_ hHeld ?_
    rotate_left
    · intro w hSw
      (try dsimp only at hSw)
      go_simp
      first | done | with_reducible rfl
    simp only [Act.put, List.setIfInBounds_toArray, List.set_cons_zero, List.set_cons_succ]
    refine takeO (v := ?_) 13 rfl (by kernel_rfl) (by kernel_rfl) (by kernel_rfl) (by rfl) ?_ hHeld ?_
    rotate_left
    · intro w hSw
      (try dsimp only at hSw)
      go_simp
      first | done | with_reducible rfl
    simp only [Act.put, List.setIfInBounds_toArray, List.set_cons_zero, List.set_cons_succ]
    have hr14 := (HY.out.1).raw.cells.1.2.1
    refine skipO 14 rfl (by kernel_rfl) (by rfl) (by go_simp) hr14 ?_
    simp only [Act.put, List.setIfInBounds_toArray, List.set_cons_zero, List.set_cons_succ]
    refine doneO (by kernel_rfl) ?_
    obtain ⟨W3, hW3⟩ : ∃ W3, W3 = w3.setCell ⟨sb, 2, none⟩ (.slice pv3 nv3 cv3) := ⟨_, rfl⟩
    have HY := HY
    rw [← hW3] at HY ⊢
    clear hHeld p1 p2 q1 q2 q3 hap hW3 hr14 c1 c2
    go_wp2_with fail
    have hst := fed_start HG.out.2.1 HY.out HSR.out.ctx.le (fed_kl HG.out.2.1 _) (fed_wt chunk HG.out.2.2.1)
    go_loopg [7] ((s.kept ++ (pushW s.rest chunk.data.toList).1).length) (fun g _ wr => ∃ (st : Ses) (kept : List (List UInt8)) (R2 : Roles) (ov : Value) (out : List UInt8), kept.length = g ∧ Hid (FdI G w wr sb most W3.heap.size R (pushW s.rest chunk.data.toList).2 (runW most s.st (s.kept ++ (pushW s.rest chunk.data.toList).1)) st kept R2 ov out))
    case atStart => exact ⟨_, _, _, _, _, rfl, hst⟩
    case round =>
      clear hst
      obtain ⟨st, kept, R2, ov, out, hgk, hI⟩ := hrel
      obtain ⟨fp2, kv2, sp2, tv2, bp2, hS⟩ := hI.out.ses
      have x2 := hS.raw.cells.1.2.2.1
      have x6 := hS.raw.cells.1.2.2.2.2.2.2.1
      have x8 := hS.raw.cells.1.2.2.2.2.2.2.2.2.1
      have x9 := hS.raw.cells.1.2.2.2.2.2.2.2.2.2
      have z2 := hS.raw.cells.2 2
      have HX8 := Lib.hid (show wr.drew.cell? ⟨sb, 8, none⟩ = some (.bool st.waits) from x8)
      have hkf := hS.kept.1
      have HS := Lib.hid hS
      have HZ9 := Lib.hid (show (runW most st kept).2.2 = kept → True from fun _ => trivial)
      clear hS
      cases kept with
      | nil =>
        obtain ⟨p4, c4, rfl, -⟩ := hkf.form
        clear hkf
        have HF := Lib.hid (fed_end hI.out (.inl rfl))
        go_wp2_with fail
        refine wp_region_heldO (fun V => V.cell? ⟨sb, 8, none⟩ = some (.bool st.waits)) 7 (by kernel_rfl) rfl HX8.out (fun hHeld => ?_)
        refine takeO (v := ?_) 1 rfl (by kernel_rfl) (by kernel_rfl) (by kernel_rfl) (by rfl) ?_ hHeld ?_
        rotate_left
        · intro w hSw
          (try dsimp only at hSw)
          go_simp
          first | done | with_reducible rfl
        simp only [Act.put, List.setIfInBounds_toArray, List.set_cons_zero, List.set_cons_succ]
        refine takeO (v := ?_) 2 rfl (by kernel_rfl) (by kernel_rfl) (by kernel_rfl) (by rfl) ?_ hHeld ?_
        rotate_left
        · intro w hSw
          (try dsimp only at hSw)
          go_simp
          first | done | with_reducible rfl
        simp only [Act.put, List.setIfInBounds_toArray, List.set_cons_zero, List.set_cons_succ]
        refine takeO (v := ?_) 3 rfl (by kernel_rfl) (by kernel_rfl) (by kernel_rfl) (by rfl) ?_ hHeld ?_
        rotate_left
        · intro w hSw
          (try dsimp only at hSw)
          go_simp
          first | done | with_reducible rfl
        simp only [Act.put, List.setIfInBounds_toArray, List.set_cons_zero, List.set_cons_succ]
        refine takeO (v := ?_) 4 rfl (by kernel_rfl) (by kernel_rfl) (by kernel_rfl) (by rfl) ?_ hHeld ?_
        rotate_left
        · intro w hSw
          (try dsimp only at hSw)
          go_simp
          first | done | with_reducible rfl
        simp only [Act.put, List.setIfInBounds_toArray, List.set_cons_zero, List.set_cons_succ]
        refine callO (f := 39) (args := #[.pointer (some ⟨W3.heap.size, 0, none⟩)]) 0 rfl (by kernel_rfl) (by rfl) (by go_simp) ((stQ W3.heap.size ov out wr.drew hI.out.bq (by have := hI.out.wt; omega)).mono ?_)
        rintro e w9 ⟨rfl, -, f9⟩
        obtain ⟨k1, k2⟩ := fed_fin (c := chunk.data.toList) hI.out HF.out f9
        refine ⟨_, rfl, k2, ?_⟩
        have K1 := Lib.hid k1
        have hHeld := k2
        clear k1 f9
        simp only [Act.put, List.setIfInBounds_toArray, List.set_cons_zero, List.set_cons_succ]
        refine takeO (v := ?_) 5 rfl (by kernel_rfl) (by kernel_rfl) (by kernel_rfl) (by rfl) ?_ hHeld ?_
        rotate_left
        · intro w hSw
          (try dsimp only at hSw)
          go_simp
          first | done | with_reducible rfl
        simp only [Act.put, List.setIfInBounds_toArray, List.set_cons_zero, List.set_cons_succ]
        refine takeO (v := ?_) 6 rfl (by kernel_rfl) (by kernel_rfl) (by kernel_rfl) (by rfl) ?_ hHeld ?_
        rotate_left
        · intro w hSw
          (try dsimp only at hSw)
          go_simp
          first | done | with_reducible rfl
        simp only [Act.put, List.setIfInBounds_toArray, List.set_cons_zero, List.set_cons_succ]
        refine doneO (by kernel_rfl) ?_
        go_wp2
        go_ret2
        exact K1.out
      | cons l r =>
        cases hwt : st.waits with
        | true =>
          rw [hwt] at x8
          obtain ⟨p4, c4, rfl, -⟩ := hkf.form
          clear hkf
          have HF := Lib.hid (fed_end hI.out (.inr (.inl hwt)))
          have q1 : (0 : Int) < (r.length : Int) + 1 := by omega
          clear hwt
          go_wp2_with fail
          refine wp_region_heldO (fun V => V.cell? ⟨sb, 8, none⟩ = some (.bool st.waits)) 7 (by kernel_rfl) rfl HX8.out (fun hHeld => ?_)
          refine takeO (v := ?_) 1 rfl (by kernel_rfl) (by kernel_rfl) (by kernel_rfl) (by rfl) ?_ hHeld ?_
          rotate_left
          · intro w hSw
            (try dsimp only at hSw)
            go_simp
            first | done | with_reducible rfl
          simp only [Act.put, List.setIfInBounds_toArray, List.set_cons_zero, List.set_cons_succ]
          refine takeO (v := ?_) 2 rfl (by kernel_rfl) (by kernel_rfl) (by kernel_rfl) (by rfl) ?_ hHeld ?_
          rotate_left
          · intro w hSw
            (try dsimp only at hSw)
            go_simp
            first | done | with_reducible rfl
          simp only [Act.put, List.setIfInBounds_toArray, List.set_cons_zero, List.set_cons_succ]
          refine takeO (v := ?_) 3 rfl (by kernel_rfl) (by kernel_rfl) (by kernel_rfl) (by rfl) ?_ hHeld ?_
          rotate_left
          · intro w hSw
            (try dsimp only at hSw)
            go_simp
            first | done | with_reducible rfl
          simp only [Act.put, List.setIfInBounds_toArray, List.set_cons_zero, List.set_cons_succ]
          refine takeO (v := ?_) 4 rfl (by kernel_rfl) (by kernel_rfl) (by kernel_rfl) (by rfl) ?_ hHeld ?_
          rotate_left
          · intro w hSw
            (try dsimp only at hSw)
            go_simp
            first | done | with_reducible rfl
          simp only [Act.put, List.setIfInBounds_toArray, List.set_cons_zero, List.set_cons_succ]
          refine callO (f := 39) (args := #[.pointer (some ⟨W3.heap.size, 0, none⟩)]) 0 rfl (by kernel_rfl) (by rfl) (by go_simp) ((stQ W3.heap.size ov out wr.drew hI.out.bq (by have := hI.out.wt; omega)).mono ?_)
          rintro e w9 ⟨rfl, -, f9⟩
          obtain ⟨k1, k2⟩ := fed_fin (c := chunk.data.toList) hI.out HF.out f9
          refine ⟨_, rfl, k2, ?_⟩
          have K1 := Lib.hid k1
          have hHeld := k2
          clear k1 f9
          simp only [Act.put, List.setIfInBounds_toArray, List.set_cons_zero, List.set_cons_succ]
          refine takeO (v := ?_) 5 rfl (by kernel_rfl) (by kernel_rfl) (by kernel_rfl) (by rfl) ?_ hHeld ?_
          rotate_left
          · intro w hSw
            (try dsimp only at hSw)
            go_simp
            first | done | with_reducible rfl
          simp only [Act.put, List.setIfInBounds_toArray, List.set_cons_zero, List.set_cons_succ]
          refine takeO (v := ?_) 6 rfl (by kernel_rfl) (by kernel_rfl) (by kernel_rfl) (by rfl) ?_ hHeld ?_
          rotate_left
          · intro w hSw
            (try dsimp only at hSw)
            go_simp
            first | done | with_reducible rfl
          simp only [Act.put, List.setIfInBounds_toArray, List.set_cons_zero, List.set_cons_succ]
          refine doneO (by kernel_rfl) ?_
          go_wp2
          go_ret2
          exact K1.out
        | false =>
          rw [hwt] at x8
          cases hov : st.over with
          | true =>
            rw [hov] at x9
            obtain ⟨p4, c4, rfl, -⟩ := hkf.form
            clear hkf
            have HF := Lib.hid (fed_end hI.out (.inr (.inr hov)))
            have q1 : (0 : Int) < (r.length : Int) + 1 := by omega
            clear hwt hov
            go_wp2_with fail
            refine wp_region_heldO (fun V => V.cell? ⟨sb, 8, none⟩ = some (.bool st.waits)) 7 (by kernel_rfl) rfl HX8.out (fun hHeld => ?_)
            refine takeO (v := ?_) 1 rfl (by kernel_rfl) (by kernel_rfl) (by kernel_rfl) (by rfl) ?_ hHeld ?_
            rotate_left
            · intro w hSw
              (try dsimp only at hSw)
              go_simp
              first | done | with_reducible rfl
            simp only [Act.put, List.setIfInBounds_toArray, List.set_cons_zero, List.set_cons_succ]
            refine takeO (v := ?_) 2 rfl (by kernel_rfl) (by kernel_rfl) (by kernel_rfl) (by rfl) ?_ hHeld ?_
            rotate_left
            · intro w hSw
              (try dsimp only at hSw)
              go_simp
              first | done | with_reducible rfl
            simp only [Act.put, List.setIfInBounds_toArray, List.set_cons_zero, List.set_cons_succ]
            refine takeO (v := ?_) 3 rfl (by kernel_rfl) (by kernel_rfl) (by kernel_rfl) (by rfl) ?_ hHeld ?_
            rotate_left
            · intro w hSw
              (try dsimp only at hSw)
              go_simp
              first | done | with_reducible rfl
            simp only [Act.put, List.setIfInBounds_toArray, List.set_cons_zero, List.set_cons_succ]
            refine takeO (v := ?_) 4 rfl (by kernel_rfl) (by kernel_rfl) (by kernel_rfl) (by rfl) ?_ hHeld ?_
            rotate_left
            · intro w hSw
              (try dsimp only at hSw)
              go_simp
              first | done | with_reducible rfl
            simp only [Act.put, List.setIfInBounds_toArray, List.set_cons_zero, List.set_cons_succ]
            refine callO (f := 39) (args := #[.pointer (some ⟨W3.heap.size, 0, none⟩)]) 0 rfl (by kernel_rfl) (by rfl) (by go_simp) ((stQ W3.heap.size ov out wr.drew hI.out.bq (by have := hI.out.wt; omega)).mono ?_)
            rintro e w9 ⟨rfl, -, f9⟩
            obtain ⟨k1, k2⟩ := fed_fin (c := chunk.data.toList) hI.out HF.out f9
            refine ⟨_, rfl, k2, ?_⟩
            have K1 := Lib.hid k1
            have hHeld := k2
            clear k1 f9
            simp only [Act.put, List.setIfInBounds_toArray, List.set_cons_zero, List.set_cons_succ]
            refine takeO (v := ?_) 5 rfl (by kernel_rfl) (by kernel_rfl) (by kernel_rfl) (by rfl) ?_ hHeld ?_
            rotate_left
            · intro w hSw
              (try dsimp only at hSw)
              go_simp
              first | done | with_reducible rfl
            simp only [Act.put, List.setIfInBounds_toArray, List.set_cons_zero, List.set_cons_succ]
            refine takeO (v := ?_) 6 rfl (by kernel_rfl) (by kernel_rfl) (by kernel_rfl) (by rfl) ?_ hHeld ?_
            rotate_left
            · intro w hSw
              (try dsimp only at hSw)
              go_simp
              first | done | with_reducible rfl
            simp only [Act.put, List.setIfInBounds_toArray, List.set_cons_zero, List.set_cons_succ]
            refine doneO (by kernel_rfl) ?_
            go_wp2
            go_ret2
            exact K1.out
          | false =>
            rw [hov] at x9
            obtain ⟨p4, c4, rfl, -⟩ := hkf.form
            obtain ⟨gq, oq, rfl, hnq, hcq, hcell, hrest, hone⟩ := Qs.rest (show Qs txL True wr 9 (.slice p4 ((l :: r).map bt).length c4) (bt l :: r.map bt) from hkf)
            rw [List.length_map] at hnq hcq hrest
            replace x2 : wr.cell? ⟨sb, 2, none⟩ = some (.slice (some ⟨gq, oq, none⟩) (r.length + 1) c4) := by rw [x2]; simp
            obtain ⟨LB, hLB, hLBd, hLBs⟩ := bt_ex l
            have hlz := hI.out.kl l (by simp)
            have x3 : wr.cell? ⟨gq, oq, none⟩ = some (.string LB) := by rw [hLB]; exact hcell 0 _ rfl
            have q1 : (0 : Int) < (r.length : Int) + 1 := by omega
            have hbody := HS.out.body
            have HHS := Lib.hid (And.intro hwt hov)
            have hmb : st.body = none ∧ bp2 = .pointer none ∨ ∃ b bq, st.body = some b ∧ bp2 = .pointer (some bq) := by
              have hbody : BodyAt wr R2 bp2 st.body := hbody
              cases hb : st.body with
              | none => rw [hb] at hbody; exact .inl ⟨rfl, hbody⟩
              | some b => rw [hb] at hbody; obtain ⟨bb, bv, h1, -⟩ := hbody; exact .inr ⟨b, _, rfl, h1⟩
            by_cases hc1 : c4 = 1
            · subst hc1
              obtain rfl : r = [] := List.eq_nil_of_length_eq_zero (by omega)
              have hpop := HS.out.pop (v := .slice (some ⟨gq, oq, none⟩) 0 0) (hone rfl) (fun k e => e)
              have HP := Lib.hid hpop
              have HLB := Lib.hid (And.intro hLBd (And.intro hLBs hlz))
              clear hpop hkf hrest hone hcell hnq hcq hwt hov hbody hLB hLBd hLBs hlz
              rcases hmb with ⟨hb1, rfl⟩ | ⟨b, bq, hb1, rfl⟩
              · have hc := ses_command ⟨_, _, _, _, _, HP.out⟩ HG.out.1 (by have := hI.out.inv.few; show st.to.length ≤ 1000; omega) LB (by have := HLB.out; omega)
                obtain ⟨T2, hT2, hT2d, hT2s⟩ := bt_ex (stepW most st l).2
                have es : stepW most st l = commandW most st l := by unfold stepW; rw [hb1]
                rw [HLB.out.1] at hc
                unfold StpT at hc
                have hc := hc
                rw [show commandW most st l = stepW most st l from es.symm, ← hT2] at hc
                have hHC := Lib.hid hc
                have hsz := step_wt HG.out.1 l HLB.out.2.2 HHS.out.1
                have HT2 := Lib.hid (And.intro hT2d (And.intro hT2s hsz))
                clear hc hT2 hT2d hT2s hb1 es hsz
                go_wp2_with fail
                refine hHC.out.mono ?_
                rintro e w2 ⟨rfl, hst2⟩
                have f1 : Fr (In R2) wr (wr.setCell ⟨sb, 2, none⟩ (.slice (some ⟨gq, oq, none⟩) 0 0)) := (Fr.refl (In R2) wr).setCell (by unfold In; rw [HS.out.me]; decide) _
                have hW := wsQ W3.heap.size ov out T2 w2 (fed_bq hI.out f1 hst2) (by have h1 := hI.out.wt; have h2 := HT2.out; omega)
                rw [HT2.out.1] at hW
                have HW := Lib.hid hW
                have HX := Lib.hid (And.intro f1 hst2)
                clear hW f1 hst2
                go_wp2_with fail
                refine HW.out.mono ?_
                rintro e w5 ⟨rfl, v5, hb5, hn5, f5⟩
                obtain ⟨R5, hF5⟩ := hI.out.next HG.out.1 HHS.out.1 HHS.out.2 HX.out.1 (by simp [World.setCell]) HX.out.2 hb5 hn5 f5
                have HF5 := Lib.hid hF5
                clear hb5 hn5 f5 hF5
                go_wp2
                go_roundg (([] : List (List UInt8)).length)
                case rel => exact ⟨_, _, R5, v5, _, rfl, HF5⟩
                case measure => rw [← hgk]; simp
              · have hc := ses_line ⟨_, _, _, _, _, HP.out⟩ b hb1 LB (by have := HLB.out; omega) (by have h1 := hI.out.wt; unfold wtS at h1; rw [hb1] at h1; simp at h1; omega)
                obtain ⟨T2, hT2, hT2d, hT2s⟩ := bt_ex (stepW most st l).2
                have es : stepW most st l = lineW most st b l := by unfold stepW; rw [hb1]
                rw [HLB.out.1] at hc
                unfold StpT at hc
                have hc := hc
                rw [show lineW most st b l = stepW most st l from es.symm, ← hT2] at hc
                have hHC := Lib.hid hc
                have hsz := step_wt HG.out.1 l HLB.out.2.2 HHS.out.1
                have HT2 := Lib.hid (And.intro hT2d (And.intro hT2s hsz))
                clear hc hT2 hT2d hT2s hb1 es hsz
                go_wp2_with fail
                refine hHC.out.mono ?_
                rintro e w2 ⟨rfl, hst2⟩
                have f1 : Fr (In R2) wr (wr.setCell ⟨sb, 2, none⟩ (.slice (some ⟨gq, oq, none⟩) 0 0)) := (Fr.refl (In R2) wr).setCell (by unfold In; rw [HS.out.me]; decide) _
                have hW := wsQ W3.heap.size ov out T2 w2 (fed_bq hI.out f1 hst2) (by have h1 := hI.out.wt; have h2 := HT2.out; omega)
                rw [HT2.out.1] at hW
                have HW := Lib.hid hW
                have HX := Lib.hid (And.intro f1 hst2)
                clear hW f1 hst2
                go_wp2_with fail
                refine HW.out.mono ?_
                rintro e w5 ⟨rfl, v5, hb5, hn5, f5⟩
                obtain ⟨R5, hF5⟩ := hI.out.next HG.out.1 HHS.out.1 HHS.out.2 HX.out.1 (by simp [World.setCell]) HX.out.2 hb5 hn5 f5
                have HF5 := Lib.hid hF5
                clear hb5 hn5 f5 hF5
                go_wp2
                go_roundg (([] : List (List UInt8)).length)
                case rel => exact ⟨_, _, R5, v5, _, rfl, HF5⟩
                case measure => rw [← hgk]; simp
            · have hpop := HS.out.pop (v := .slice (some ⟨gq, oq + 1, none⟩) r.length (c4 - 1)) hrest (fun k e => e)
              have q2 : (1 : Int) ≤ (c4 : Int) := by omega
              have q3 : (1 : Int) ≤ (r.length : Int) + 1 := by omega
              have q4 : (r.length : Int) + 1 ≤ (c4 : Int) := by omega
              have HP := Lib.hid hpop
              have HLB := Lib.hid (And.intro hLBd (And.intro hLBs hlz))
              clear hpop hkf hrest hone hcell hnq hcq hwt hov hbody hLB hLBd hLBs hlz
              rcases hmb with ⟨hb1, rfl⟩ | ⟨b, bq, hb1, rfl⟩
              · have hc := ses_command ⟨_, _, _, _, _, HP.out⟩ HG.out.1 (by have := hI.out.inv.few; show st.to.length ≤ 1000; omega) LB (by have := HLB.out; omega)
                obtain ⟨T2, hT2, hT2d, hT2s⟩ := bt_ex (stepW most st l).2
                have es : stepW most st l = commandW most st l := by unfold stepW; rw [hb1]
                rw [HLB.out.1] at hc
                unfold StpT at hc
                have hc := hc
                rw [show commandW most st l = stepW most st l from es.symm, ← hT2] at hc
                have hHC := Lib.hid hc
                have hsz := step_wt HG.out.1 l HLB.out.2.2 HHS.out.1
                have HT2 := Lib.hid (And.intro hT2d (And.intro hT2s hsz))
                clear hc hT2 hT2d hT2s hb1 es hsz
                go_wp2_with fail
                refine hHC.out.mono ?_
                rintro e w2 ⟨rfl, hst2⟩
                have f1 : Fr (In R2) wr (wr.setCell ⟨sb, 2, none⟩ (.slice (some ⟨gq, oq + 1, none⟩) r.length (c4 - 1))) := (Fr.refl (In R2) wr).setCell (by unfold In; rw [HS.out.me]; decide) _
                have hW := wsQ W3.heap.size ov out T2 w2 (fed_bq hI.out f1 hst2) (by have h1 := hI.out.wt; have h2 := HT2.out; omega)
                rw [HT2.out.1] at hW
                have HW := Lib.hid hW
                have HX := Lib.hid (And.intro f1 hst2)
                clear hW f1 hst2
                go_wp2_with fail
                refine HW.out.mono ?_
                rintro e w5 ⟨rfl, v5, hb5, hn5, f5⟩
                obtain ⟨R5, hF5⟩ := hI.out.next HG.out.1 HHS.out.1 HHS.out.2 HX.out.1 (by simp [World.setCell]) HX.out.2 hb5 hn5 f5
                have HF5 := Lib.hid hF5
                clear hb5 hn5 f5 hF5
                go_wp2
                go_roundg (r.length)
                case rel => exact ⟨_, _, R5, v5, _, rfl, HF5⟩
                case measure => rw [← hgk]; simp
              · have hc := ses_line ⟨_, _, _, _, _, HP.out⟩ b hb1 LB (by have := HLB.out; omega) (by have h1 := hI.out.wt; unfold wtS at h1; rw [hb1] at h1; simp at h1; omega)
                obtain ⟨T2, hT2, hT2d, hT2s⟩ := bt_ex (stepW most st l).2
                have es : stepW most st l = lineW most st b l := by unfold stepW; rw [hb1]
                rw [HLB.out.1] at hc
                unfold StpT at hc
                have hc := hc
                rw [show lineW most st b l = stepW most st l from es.symm, ← hT2] at hc
                have hHC := Lib.hid hc
                have hsz := step_wt HG.out.1 l HLB.out.2.2 HHS.out.1
                have HT2 := Lib.hid (And.intro hT2d (And.intro hT2s hsz))
                clear hc hT2 hT2d hT2s hb1 es hsz
                go_wp2_with fail
                refine hHC.out.mono ?_
                rintro e w2 ⟨rfl, hst2⟩
                have f1 : Fr (In R2) wr (wr.setCell ⟨sb, 2, none⟩ (.slice (some ⟨gq, oq + 1, none⟩) r.length (c4 - 1))) := (Fr.refl (In R2) wr).setCell (by unfold In; rw [HS.out.me]; decide) _
                have hW := wsQ W3.heap.size ov out T2 w2 (fed_bq hI.out f1 hst2) (by have h1 := hI.out.wt; have h2 := HT2.out; omega)
                rw [HT2.out.1] at hW
                have HW := Lib.hid hW
                have HX := Lib.hid (And.intro f1 hst2)
                clear hW f1 hst2
                go_wp2_with fail
                refine HW.out.mono ?_
                rintro e w5 ⟨rfl, v5, hb5, hn5, f5⟩
                obtain ⟨R5, hF5⟩ := hI.out.next HG.out.1 HHS.out.1 HHS.out.2 HX.out.1 (by simp [World.setCell]) HX.out.2 hb5 hn5 f5
                have HF5 := Lib.hid hF5
                clear hb5 hn5 f5 hF5
                go_wp2
                go_roundg (r.length)
                case rel => exact ⟨_, _, R5, v5, _, rfl, HF5⟩
                case measure => rw [← hgk]; simp
end
end Go.Proofs.YtjoipgekmnnlpaaGreatDoor
