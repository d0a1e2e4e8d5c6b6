/- Walks: lines: a feed's Push. -/
import Derived.Test.YtjoipgekmnnlpaaGreatDoorSmV
import Derived.Test.YtjoipgekmnnlpaaGreatDoorSmPz
import Derived.Test.YtjoipgekmnnlpaaGreatDoorLnC
import Derived.Test.YtjoipgekmnnlpaaGreatDoorRfW
namespace Pk
open Go Go.RowKit
theorem Qs.ty {α : Type} {L : Lay α} {z : Prop} {W : World} {e : TypeId} {v : Value} {l : List α} (h : Qs L z W e v l) {k : Nat} (hk : v.ownBlock = some k) : ∃ cs fz, W.heap[k]? = some (.cells cs e fz) := by
  rcases h with ⟨rfl, -⟩ | ⟨g, o, cap, cur, fz, rfl, -, -, h3, -⟩
  · cases hk
  · injection hk with hk
    subst hk
    exact ⟨_, _, h3⟩
/-- a block of strings is none of bytes, and so on -/
theorem Qs.ne_box {α : Type} {L : Lay α} {W : World} {z : Prop} {e t : TypeId} {v u : Value} {l : List α} {b : Nat} (h : Qs L z W e v l) (hb : Boxed W b t u) (ht : t ≠ e) : v.ownBlock ≠ some b := by
  intro e1
  obtain ⟨cs, fz, hc⟩ := h.ty e1
  have hb : W.heap[b]? = _ := hb
  rw [hc] at hb
  injection hb with hb
  injection hb with _ hb
  exact ht hb.symm
theorem Qs.zero {α : Type} {L : Lay α} {W : World} {e : TypeId} {p : Option Addr} {n c : Nat} {l : List α} (h : Qs L True W e (.slice p n c) l) : Qs L True W e (.slice p 0 c) [] := by
  rcases h with ⟨h, -⟩ | ⟨g, o, cap, cur, fz, h0, h1, h2, h3, h4, h5, h6, h7⟩
  · injection h with h1 h2 h3
    subst h1; subst h3
    exact .inl ⟨rfl, rfl⟩
  · injection h0 with e1 e2 e3
    subst e1; subst e3
    exact .inr ⟨g, o, c, cur, fz, rfl, Nat.zero_le _, h2, h3, h4, by rw [h6 trivial]; exact Nat.zero_le _, h6, fun j u hj => by simp at hj⟩
theorem conv_q {P : Program} {z : Prop} {W : World} {t e ts : TypeId} {v : Value} {l : List UInt8} (hs : P.underlying t = some (.slice e)) (he : P.underlying e = some (.int .u8)) (hd : P.underlying ts = some .string) (h : Qs byL z W e v l) : (convert t ts v).run P W = .ok (.string ⟨l.toArray⟩) W := by
  rcases h with ⟨rfl, rfl⟩ | ⟨g, o, cap, cur, fz, rfl, h1, h2, h3, h4, h5, h6, h7⟩
  · rw [run_convert_bytes_string W t ts e none 0 0 hs he hd]
    rfl
  · refine run_convert_bytes_back W t ts e ⟨g, o, none⟩ cap l hs he hd fun j hj => ?_
    rw [Addr.add_lit]
    refine (cell_cur h3 _).trans (h7 j _ ?_)
    rw [byL_enc, List.getElem?_map, List.getElem?_eq_getElem hj]
    rfl
end Pk
namespace Go.Proofs.YtjoipgekmnnlpaaGreatDoor
open Go.RowKit Go.Shelf Go.Lib Pk Sm Lx

attribute [local go_sem] Oper.semAt_some
/-- within Push: the feed in block fb, its row fv; the lines so far, in box ob, their row ov; box f0 holds the feed, box b1 what is left of the text -/
structure PuI (w w3 W : World) (R : Roles) (fb : Nat) (fp fv ov : Value) (rest : List UInt8) (outs : List (List UInt8)) : Prop where
  feed : W.heap[fb]? = some (.cells #[.int .i64 1000, fv] 82 (0, 0))
  fq : Qs byL True W 5 fv rest
  fr : ∀ k, fv.ownBlock = some k → R k = 3 ∨ w.heap.size ≤ k
  box : Boxed W w.heap.size 57 fp
  out : Boxed W (w.heap.size + 1) 22 ov
  oq : Qs txL True W 9 ov (outs.map bt)
  own : ∀ k, ov.ownBlock = some k → w3.heap.size ≤ k
  str : ∃ u, Boxed W (w.heap.size + 1 + 1) 9 u
  frm : Fr (fun k => R k = 2 ∨ R k = 3) w W
  siz : w3.heap.size ≤ W.heap.size
section
variable {w w3 W W' : World} {R : Roles} {fb : Nat} {fp fv ov : Value} {rest : List UInt8} {outs : List (List UInt8)}
theorem Fr.setNew {X : Nat → Prop} {a W : World} (h : Fr X a W) {b o : Nat} (hb : a.heap.size ≤ b) (u : Value) : Fr X a (W.setCell ⟨b, o, none⟩ u) :=
  ⟨h.os, h.tape, h.output, by simp [World.setCell]; exact h.size, fun k hk hx => (Below.heap_setCell _ _ _ _ (fun e => by have e : k = b := e; omega)).trans (h.block k hk hx)⟩
theorem Fr.grown {X : Nat → Prop} {a W W' : World} {row : Option Nat} (h : Fr X a W) (hg : W.grownBy W' row) (hr : ∀ r, row = some r → X r ∨ a.heap.size ≤ r) : Fr X a W' :=
  ⟨hg.os.trans h.os, hg.tape.trans h.tape, hg.output.trans h.output, Nat.le_trans h.size hg.size, fun k hk hx => (hg.block k (Nat.lt_of_lt_of_le hk h.size) (fun e => by rcases hr k e.symm with e | e; exact hx e; omega)).trans (h.block k hk hx)⟩
theorem PuI.keeps (h : PuI w w3 W R fb fp fv ov rest outs) (hk : ∀ (k : Nat) (cs : Array Value) (t : TypeId) (fz : Nat × Nat), W.heap[k]? = some (Obj.cells cs t fz) → W'.heap[k]? = W.heap[k]?) (hf : Fr (fun k => R k = 2 ∨ R k = 3) w W') (hs : W.heap.size ≤ W'.heap.size) : PuI w w3 W' R fb fp fv ov rest outs := by
  obtain ⟨u, hu⟩ := h.str
  have hb : W.heap[w.heap.size]? = _ := h.box
  have ho : W.heap[w.heap.size + 1]? = _ := h.out
  have hu : W.heap[w.heap.size + 1 + 1]? = _ := hu
  refine ⟨(hk _ _ _ _ h.feed).trans h.feed, h.fq.kept fun g e => ?_, h.fr, (hk _ _ _ _ hb).trans hb, (hk _ _ _ _ ho).trans ho, h.oq.kept fun g e => ?_, h.own, ⟨u, (hk _ _ _ _ hu).trans hu⟩, hf, Nat.le_trans h.siz hs⟩
  · obtain ⟨cs, fz, hc⟩ := h.fq.ty e
    exact hk _ _ _ _ hc
  · obtain ⟨cs, fz, hc⟩ := h.oq.ty e
    exact hk _ _ _ _ hc
theorem PuI.abide (h : PuI w w3 W R fb fp fv ov rest outs) {row : Option Nat} (hg : W.grownBy W' row) (hr : ∀ r, row = some r → w3.heap.size ≤ r ∧ ∃ o : Obj, W.heap[r]? = some o ∧ o.isCells = false) (hw : w.heap.size ≤ w3.heap.size) : PuI w w3 W' R fb fp fv ov rest outs := by
  refine h.keeps (fun k cs t fz hk => ?_) (h.frm.grown hg fun r e => .inr (Nat.le_trans hw (hr r e).1)) hg.size
  refine hg.block k (lt_of_block hk) fun e => ?_
  obtain ⟨-, o, ho, hc⟩ := hr k e.symm
  rw [hk] at ho
  injection ho with ho
  rw [← ho] at hc
  cases hc
theorem PuI.setBox (h : PuI w w3 W R fb fp fv ov rest outs) (hfb : fb < w.heap.size) (hw : w.heap.size + 1 + 1 < w3.heap.size) {u : Value} (hb : Boxed W (w.heap.size + 1 + 1) 9 u) (v : Value) : PuI w w3 (W.setCell ⟨w.heap.size + 1 + 1, 0, none⟩ v) R fb fp fv ov rest outs := by
  have far : ∀ k, k ≠ w.heap.size + 1 + 1 → (W.setCell ⟨w.heap.size + 1 + 1, 0, none⟩ v).heap[k]? = W.heap[k]? := fun k hk => Below.heap_setCell W ⟨w.heap.size + 1 + 1, 0, none⟩ v k hk
  refine ⟨(far _ (by omega)).trans h.feed, h.fq.kept fun g e => far g fun e' => h.fq.ne_box hb (by decide) (by rw [e, e']), h.fr, (far _ (by omega)).trans h.box, (far _ (by omega)).trans h.out, h.oq.kept fun g e => far g fun e' => ?_, h.own, ⟨v, hb.set v⟩, h.frm.setNew (by omega) v, by simpa using h.siz⟩
  have := h.own g e
  omega
theorem PuI.wlt (h : PuI w w3 W R fb fp fv ov rest outs) : w.heap.size + 1 + 1 < W.heap.size := by
  obtain ⟨u, hu⟩ := h.str
  exact hu.lt
theorem PuI.ne_fb (h : PuI w w3 W R fb fp fv ov rest outs) : fv.ownBlock ≠ some fb := by
  intro e
  obtain ⟨cs, fz, hc⟩ := h.fq.ty e
  have := h.feed
  rw [hc] at this
  injection this with this
  injection this with _ this
  exact absurd this (by decide)
theorem PuI.ne_ov (h : PuI w w3 W R fb fp fv ov rest outs) {k : Nat} (hk : ov.ownBlock = some k) : fv.ownBlock ≠ some k := by
  intro e
  obtain ⟨cs, fz, hc⟩ := h.fq.ty e
  obtain ⟨cs2, fz2, hc2⟩ := h.oq.ty hk
  rw [hc] at hc2
  injection hc2 with hc2
  injection hc2 with _ hc2
  exact absurd hc2 (by decide)
theorem far_grown {w2 : World} {row : Option Nat} (hg : W.drew.grownBy w2 row) {k : Nat} (hk : k < W.heap.size) (hr : row ≠ some k) : w2.heap[k]? = W.heap[k]? := hg.block k hk fun e => hr e.symm
/-- behind the append to what is left of the last line -/
theorem PuI.app (h : PuI w w3 W R fb fp fv ov rest outs) (hfb : fb < w.heap.size) (h2 : R fb = 2) {v' : Value} {l : List UInt8} {w2 : World} (hq : Qs byL True w2 5 v' l) (hg : W.drew.grownBy w2 fv.ownBlock) (hn : NewOwn W.drew fv v') :
    w2.cell? ⟨w.heap.size, 0, none⟩ = some fp ∧ w2.heap[fb]? = some (.cells #[.int .i64 1000, fv] 82 (0, 0)) ∧ PuI w w3 (w2.setCell ⟨fb, 1, none⟩ v') R fb fp v' ov l outs := by
  have hlt := h.wlt
  obtain ⟨u, hu⟩ := h.str
  have hb2 : Boxed w2 w.heap.size 57 fp := (far_grown hg (by omega) (h.fq.ne_box h.box (by decide))).trans h.box
  have ho2 : Boxed w2 (w.heap.size + 1) 22 ov := (far_grown hg (by omega) (h.fq.ne_box h.out (by decide))).trans h.out
  have hu2 : Boxed w2 (w.heap.size + 1 + 1) 9 u := (far_grown hg (by omega) (h.fq.ne_box hu (by decide))).trans hu
  have hf2 : w2.heap[fb]? = some (.cells #[.int .i64 1000, fv] 82 (0, 0)) := (far_grown hg (by omega) h.ne_fb).trans h.feed
  have hq2 : Qs txL True w2 9 ov (outs.map bt) := h.oq.kept fun g e => far_grown hg (h.oq.lt e) (h.ne_ov e)
  have hv : v'.ownBlock ≠ some fb := by
    rcases hn with e | e
    · rw [e]; exact h.ne_fb
    · intro e'
      have := e fb e'
      have : W.drew.heap.size = W.heap.size := rfl
      omega
  have far : ∀ k, k ≠ fb → (w2.setCell ⟨fb, 1, none⟩ v').heap[k]? = w2.heap[k]? := fun k hk => Below.heap_setCell w2 ⟨fb, 1, none⟩ v' k hk
  have hsz : W.heap.size ≤ w2.heap.size := hg.size
  refine ⟨hb2.cell, hf2, ?_, hq.kept fun g e => far g fun e' => hv (by rw [e, e']), fun k e => ?_, (far _ (by omega)).trans hb2, (far _ (by omega)).trans ho2, hq2.kept fun g e => far g fun e' => ?_, h.own, ⟨u, (far _ (by omega)).trans hu2⟩, ?_, ?_⟩
  · simp [World.setCell, Array.getElem?_modify, hf2]
  · rcases hn with e' | e'
    · exact h.fr k (by rw [← e']; exact e)
    · have := e' k e
      have : W.drew.heap.size = W.heap.size := rfl
      exact .inr (by omega)
  · obtain ⟨cs, fz, hc⟩ := hq2.ty e
    rw [e', hf2] at hc
    injection hc with hc
    injection hc with _ hc
    exact absurd hc (by decide)
  · have f1 : Fr (fun k => R k = 2 ∨ R k = 3) w W.drew := h.frm.drew
    exact (f1.grown hg fun r e => by rcases h.fr r e with e | e; exact .inl (.inr e); exact .inr e).setCell (.inl h2) _
  · simp [World.setCell]; have := h.siz; omega
/-- behind the append of a line -/
theorem PuI.line (h : PuI w w3 W R fb fp fv ov rest outs) (hfb : fb < w.heap.size) (hw3 : w.heap.size + 1 + 1 < w3.heap.size) {V1 w5 : World} {l : List UInt8} {v5 : Value} (hb : Below W.heap.size W V1) (hq : Qs txL True w5 9 v5 (outs.map bt ++ [bt l])) (hg : V1.grownBy w5 ov.ownBlock) (hn : NewOwn V1 ov v5) :
    w5.cell? ⟨w.heap.size, 0, none⟩ = some fp ∧ w5.heap[fb]? = some (.cells #[.int .i64 1000, fv] 82 (0, 0)) ∧ Qs byL True w5 5 fv rest ∧ Boxed w5 (w.heap.size + 1) 22 ov ∧ PuI w w3 (w5.setCell ⟨w.heap.size + 1, 0, none⟩ v5) R fb fp fv v5 rest (outs ++ [l]) := by
  have hlt := h.wlt
  have hsz := hb.size
  have hsz5 := hg.size
  obtain ⟨u, hu⟩ := h.str
  have fr5 : ∀ k, k < W.heap.size → ov.ownBlock ≠ some k → w5.heap[k]? = W.heap[k]? := fun k hk hr => (hg.block k (by omega) fun e => hr e.symm).trans (hb.block k hk)
  have hb5 : Boxed w5 w.heap.size 57 fp := (fr5 _ (by omega) (h.oq.ne_box h.box (by decide))).trans h.box
  have ho5 : Boxed w5 (w.heap.size + 1) 22 ov := (fr5 _ (by omega) (h.oq.ne_box h.out (by decide))).trans h.out
  have hu5 : Boxed w5 (w.heap.size + 1 + 1) 9 u := (fr5 _ (by omega) (fun e => by have := h.own _ e; omega)).trans hu
  have hf5 : w5.heap[fb]? = some (.cells #[.int .i64 1000, fv] 82 (0, 0)) := (fr5 _ (by omega) (fun e => by
    obtain ⟨cs, fz, hc⟩ := h.oq.ty e
    have := h.feed
    rw [hc] at this
    injection this with this
    injection this with _ this
    exact absurd this (by decide))).trans h.feed
  have hq5 : Qs byL True w5 5 fv rest := h.fq.kept fun g e => fr5 g (h.fq.lt e) fun e' => h.ne_ov e' e
  have far : ∀ k, k ≠ w.heap.size + 1 → (w5.setCell ⟨w.heap.size + 1, 0, none⟩ v5).heap[k]? = w5.heap[k]? := fun k hk => Below.heap_setCell w5 ⟨w.heap.size + 1, 0, none⟩ v5 k hk
  have hv5 : v5.ownBlock ≠ some (w.heap.size + 1) := hq.ne_box ho5 (by decide)
  refine ⟨hb5.cell, hf5, hq5, ho5, (far _ (by omega)).trans hf5, hq5.kept fun g e => far g fun e' => hq5.ne_box ho5 (by decide) (by rw [e, e']), h.fr, (far _ (by omega)).trans hb5, ho5.set v5, ?_, fun k e => ?_, ⟨u, (far _ (by omega)).trans hu5⟩, ?_, ?_⟩
  · rw [List.map_append]
    exact hq.kept fun g e => far g fun e' => hv5 (by rw [e, e'])
  · rcases hn with e' | e'
    · exact h.own k (by rw [← e']; exact e)
    · have := e' k e
      have := h.siz
      omega
  · have f1 : Fr (fun k => R k = 2 ∨ R k = 3) w V1 := h.frm.trans (Fr.of_below (X := fun _ => False) hb) (fun _ e => e.elim)
    exact (f1.grown hg fun r e => .inr (by have := h.own r e; omega)).setNew (by omega) _
  · simp [World.setCell]; have := h.siz; omega
/-- behind what is left of the last line has been emptied -/
theorem PuI.clear {p : Option Addr} {n c : Nat} (h : PuI w w3 W R fb fp (.slice p n c) ov rest outs) (hfb : fb < w.heap.size) (h2 : R fb = 2) : PuI w w3 (W.setCell ⟨fb, 1, none⟩ (.slice p 0 c)) R fb fp (.slice p 0 c) ov [] outs := by
  have hlt := h.wlt
  have hne := h.ne_fb
  have ho : (Value.slice p 0 c).ownBlock = (Value.slice p n c).ownBlock := by cases p <;> rfl
  obtain ⟨u, hu⟩ := h.str
  have far : ∀ k, k ≠ fb → (W.setCell ⟨fb, 1, none⟩ (.slice p 0 c)).heap[k]? = W.heap[k]? := fun k hk => Below.heap_setCell W ⟨fb, 1, none⟩ _ k hk
  have hq : Qs byL True W 5 (.slice p 0 c) [] := h.fq.zero
  refine ⟨?_, hq.kept fun g e => far g fun e' => hne (by rw [← ho, ← e']; exact e), fun k e => h.fr k (by rw [← ho]; exact e), (far _ (by omega)).trans h.box, (far _ (by omega)).trans h.out, h.oq.kept fun g e => far g fun e' => ?_, h.own, ⟨u, (far _ (by omega)).trans hu⟩, h.frm.setCell (.inl h2) _, by simp [World.setCell]; exact h.siz⟩
  · have hf := h.feed
    simp [World.setCell, Array.getElem?_modify, hf]
  · obtain ⟨cs, fz, hc⟩ := h.oq.ty e
    rw [e', h.feed] at hc
    injection hc with hc
    injection hc with _ hc
    exact absurd hc (by decide)
end
theorem Ctx.maxG {G : Nat} {w : World} (h : Ctx G w) : 3 < G ∧ ∃ m : Int, w.cell? ⟨3, 0, none⟩ = some (.int .i64 m) := by
  refine ⟨?_, h.max⟩
  obtain ⟨wb, rfl, -, -, -, ⟨m, h1⟩, -, h⟩ := h
  exact World.block_lt_of_cell? _ _ h1
/-- what lies still while a line is taken: whatever is no cells, the blocks below G, and box b1 -/
structure Mv (G b1 : Nat) (W W' : World) : Prop where
  size : W.heap.size ≤ W'.heap.size
  nc : ∀ (k : Nat) (o : Obj), W.heap[k]? = some o → o.isCells = false → W'.heap[k]? = some o
  bel : Below G W W'
  box : W'.heap[b1]? = W.heap[b1]?
theorem Mv.trans {G b1 : Nat} {A B C : World} (h : Mv G b1 A B) (k : Mv G b1 B C) : Mv G b1 A C :=
  ⟨Nat.le_trans h.size k.size, fun i o hi hc => k.nc i o (h.nc i o hi hc) hc, h.bel.trans k.bel, k.box.trans h.box⟩
theorem Mv.grown {G b1 : Nat} {W W' : World} {row : Option Nat} (hg : W.grownBy W' row) (hb1 : b1 < W.heap.size) (hG : G ≤ W.heap.size) (hr : ∀ r, row = some r → (∃ (cs : Array Value) (t : TypeId) (fz : Nat × Nat), W.heap[r]? = some (Obj.cells cs t fz)) ∧ G ≤ r ∧ r ≠ b1) : Mv G b1 W W' := by
  refine ⟨hg.size, fun k o hk hc => ?_, ⟨hg.os, hg.tape, hg.output, hg.size, fun k hk => hg.block k (by omega) fun e => ?_⟩, hg.block b1 hb1 fun e => (hr b1 e.symm).2.2 rfl⟩
  · refine (hg.block k (lt_of_block hk) fun e => ?_).trans hk
    obtain ⟨⟨cs, t, fz, hx⟩, -⟩ := hr k e.symm
    rw [hk] at hx
    injection hx with hx
    rw [hx] at hc
    cases hc
  · have := (hr k e.symm).2.1
    omega
theorem Mv.set {G b1 b o : Nat} {W : World} {cs : Array Value} {t : TypeId} {fz : Nat × Nat} (hb : W.heap[b]? = some (Obj.cells cs t fz)) (hG : G ≤ b) (hne : b ≠ b1) (u : Value) : Mv G b1 W (W.setCell ⟨b, o, none⟩ u) := by
  have far : ∀ k, k ≠ b → (W.setCell ⟨b, o, none⟩ u).heap[k]? = W.heap[k]? := fun k hk => Below.heap_setCell W ⟨b, o, none⟩ u k hk
  refine ⟨by simp [World.setCell], fun k x hk hc => (far k fun e => ?_).trans hk, ⟨rfl, rfl, rfl, by simp [World.setCell], fun k hk => far k (by omega)⟩, far b1 (by omega)⟩
  rw [e, hb] at hk
  injection hk with hk
  rw [← hk] at hc
  cases hc
theorem Mv.keeps {G b1 B : Nat} {W W' : World} (h : Mv G b1 W W') : KeepsFrom B W W' := ⟨h.size, fun k o _ ho hc => h.nc k o ho hc⟩
theorem Mv.kp {G b1 : Nat} {W W' : World} (h : Mv G b1 W W') : KpB G b1 W W' := ⟨h.bel, h.box⟩
/-- what Push leaves -/
def PushIs (w : World) (R : Roles) (fb : Nat) (rest chunk : List UInt8) (e : Ending) (w' : World) : Prop := ∃ v fv, e = .returned v ∧ Qs txL True w' 9 v ((pushW rest chunk).1.map bt) ∧ (∀ k, v.ownBlock = some k → w.heap.size ≤ k) ∧
  w'.heap[fb]? = some (.cells #[.int .i64 1000, fv] 82 (0, 0)) ∧ Qs byL True w' 5 fv (pushW rest chunk).2 ∧ (∀ k, fv.ownBlock = some k → R k = 3 ∨ w.heap.size ≤ k) ∧ Fr (fun k => R k = 2 ∨ R k = 3) w w'
set_option maxHeartbeats 4000000 in
set_option maxRecDepth 100000 in
theorem push_any (G : Nat) (w : World) (R : Roles) (fb : Nat) (fv : Value) (rest : List UInt8) (chunk : ByteArray) (hC : Ctx G w) (hb : ∀ k, R k ≠ 0 → G ≤ k ∧ k < w.heap.size) (h2 : R fb = 2)
    (h3 : w.heap[fb]? = some (.cells #[.int .i64 1000, fv] 82 (0, 0))) (h4 : Qs byL True w 5 fv rest) (h5 : ∀ k, fv.ownBlock = some k → R k = 3) (hr : rest.length ≤ 1000) (hs : chunk.size ≤ 1000000) :
    Calls Tryz.prog 35 #[.pointer (some ⟨fb, 0, none⟩), .string chunk] w (PushIs w R fb rest chunk.data.toList) := by
  obtain ⟨hq0, q, hq⟩ := hC.maxG
  have hGw := hC.le
  have hfb := hb fb (by rw [h2]; decide)
  refine (callsIn_wide (n := 8)).1 ?_
  refine callsIn_of_wp_marks Tryz.func35 rfl trivial ?_ rfl
  simp only [Tryz.ntmps35, List.size_toArray, List.length_cons, List.length_nil, Nat.reduceAdd, Nat.reduceSub, Array.replicate_succ, Array.replicate_zero, List.push_toArray, List.append_toArray, List.nil_append, List.cons_append]
  have HA := Lib.hid (all_any chunk)
  gi_wp2_with (refine ⟨trivial, ?_⟩; (with_reducible refine (callsIn_wide.2 (HA.out _)).mono ?_); rintro e w3 ⟨rfl, hbx, hb3, hz3⟩)
  simp only [World.size_alloc] at hbx hz3
  have hbl := hbx.lt
  have kB : Boxed w3 w.heap.size 57 (.pointer (some ⟨fb, 0, none⟩)) := (hb3.block _ (by simp; omega)).trans ((heap_alloc_old _ _ (by simp)).trans (Boxed.new w _ _))
  have kO : Boxed w3 (w.heap.size + 1) 22 (.slice none 0 0) := by
    have e := hb3.block (w.heap.size + 1) (by simp)
    have e2 := Boxed.new (w.alloc (.cells #[.pointer (some ⟨fb, 0, none⟩)] 57)) 22 (.slice none 0 0)
    rw [World.size_alloc] at e2
    exact e.trans e2
  have hB0 : Below w.heap.size w w3 := (((Below.refl _ w).alloc (Nat.le_refl _) _).alloc (by simp) _).trans (hb3.mono (by simp; omega))
  have hI0 : PuI w w3 w3 R fb (.pointer (some ⟨fb, 0, none⟩)) fv (.slice none 0 0) rest [] :=
    ⟨(hB0.block fb hfb.2).trans h3, h4.kept fun g e => hB0.block g (h4.lt e), fun k e => .inl (h5 k e), kB, kO, Qs.nil _ _ _ _, (fun k e => by cases e), ⟨_, hbx⟩, Fr.of_below hB0, Nat.le_refl _⟩
  have hq3 := cell_later hB0 hq
  clear hb3 hq kB kO
  refine wpIn_range_box rfl (by omega) (gf := 80) (lb := #[.pointer (some ⟨w.heap.size + 1 + 1, 0, none⟩)]) rfl trivial (enters_of Tryz.func80 (by kernel_rfl) rfl)
    (all1_gives 7 (by omega) chunk (by omega) G (w.heap.size + 1 + 1) w3 q hq3 hq0 hbx (by omega)) hbl KpB.trans (KpB.put (by omega) hbl) (Below.refl _ _) (fun _ => rfl)
    (fun (pre : List ByteArray) W => ∃ fv ov, PuI w w3 W R fb (.pointer (some ⟨fb, 0, none⟩)) fv ov (pushL rest (pre.map fun x : ByteArray => x.data.toList)).2 (pushL rest (pre.map fun x : ByteArray => x.data.toList)).1)
    (fun pre A B row ⟨fv, ov, h⟩ hg hr => ⟨fv, ov, h.abide hg hr (by omega)⟩)
    ?box ⟨_, _, hI0⟩
    (fun x => { tmps := #[.pointer (some ⟨fb, 0, none⟩), .string chunk, .pointer (some ⟨w.heap.size, 0, none⟩), undef, .slice none 0 0, .pointer (some ⟨w.heap.size + 1, 0, none⟩), .string x, .string chunk, .func (.func 80) #[] #[.pointer (some ⟨w.heap.size + 1 + 1, 0, none⟩)], .string x, undef, undef, undef, undef, undef, undef, undef, undef, undef, undef, undef, undef, undef, undef, undef, undef, undef, undef, undef, undef, undef, undef, undef, undef, undef, undef, undef, undef, undef, undef, undef, undef, undef, undef, undef, undef, undef, undef, undef, undef, undef, undef], defers := [] }) ?assign ?body ?done
  case box =>
    rintro pre W u v ⟨fv, ov, h⟩ hbb
    exact ⟨fv, ov, h.setBox hfb.2 hbl hbb v⟩
  case assign =>
    intro l x W K hK
    gi_wp2
    exact hK
  case body =>
    rintro l pre x W hok ⟨fv, ov, h⟩
    have hok' := hok.length_le
    obtain ⟨hr1, -, hr3⟩ := pushL_le (pre.map fun x : ByteArray => x.data.toList) rest hr
    have hsn := pushL_snoc x.data.toList (pre.map fun x : ByteArray => x.data.toList) rest
    have hmp : (pre ++ [x]).map (fun x : ByteArray => x.data.toList) = pre.map (fun x : ByteArray => x.data.toList) ++ [x.data.toList] := by simp
    rw [← hmp] at hsn
    have hol : (pushL rest (pre.map fun x : ByteArray => x.data.toList)).1.length ≤ 1000000 := by
      have := linB_len chunk
      rw [List.length_map] at hr3
      rw [List.length_append] at hok'
      omega
    have hxs : x.size ≤ 1000000 := by
      have hm := hok.subset (by simp : x ∈ pre ++ [x])
      unfold linB at hm
      obtain ⟨l0, hl0, rfl⟩ := List.mem_map.1 hm
      have := (linN_ne _ l0 hl0).2
      have e1 : (⟨l0.toArray⟩ : ByteArray).size = l0.length := rfl
      have e2 : chunk.data.toList.length = chunk.size := rfl
      omega
    generalize (pushL rest (pre.map fun x : ByteArray => x.data.toList)).2 = r at *
    generalize (pushL rest (pre.map fun x : ByteArray => x.data.toList)).1 = outs at *
    clear hr3 hmp hok'
    obtain ⟨pv, cv, rfl, hcv⟩ := h.fq.form
    have b0 : W.drew.cell? ⟨w.heap.size, 0, none⟩ = some (.pointer (some ⟨fb, 0, none⟩)) := h.box.cell
    have c0 : W.drew.cell? ⟨fb, 0, none⟩ = some (.int .i64 1000) := (Lib.cell_of_heap (w := W.drew) h.feed _).trans rfl
    have c1 : W.drew.cell? ⟨fb, 1, none⟩ = some (.slice pv r.length cv) := (Lib.cell_of_heap (w := W.drew) h.feed _).trans rfl
    obtain ⟨D, hD⟩ : ∃ D : Nat, D + r.length = 1000 := ⟨1000 - r.length, by omega⟩
    obtain ⟨n, hn⟩ : ∃ n : Nat, n = min x.size D := ⟨_, rfl⟩
    have u1 : (1000 : Int) - (r.length : Int) = (D : Int) := by omega
    have u2 : IntKind.i64.wrap (D : Int) = (D : Int) := w64 rfl (by omega) (by omega)
    have u3 : min (x.size : Int) (D : Int) = (n : Int) := by omega
    have u4 : (n : Int) ≤ (x.size : Int) := by omega
    obtain ⟨X, hX⟩ : ∃ X : ByteArray, X = x.extract 0 n := ⟨_, rfl⟩
    have hXd : r ++ X.data.toList = (r ++ x.data.toList).take 1000 := by
      rw [hX, Lib.extract_data, List.drop_zero, List.take_append, List.take_of_length_le hr1]
      congr 1
      have hxl : x.data.toList.length = x.size := rfl
      rcases Nat.le_total x.size D with hd | hd
      · rw [List.take_of_length_le (by omega), List.take_of_length_le (by omega)]
      · rw [show n = 1000 - r.length by omega, Nat.sub_zero]
    have hXs : X.data.toList.length ≤ 1000 := by
      have := congrArg List.length hXd
      rw [List.length_append, List.length_take] at this
      omega
    obtain ⟨v2, w2, hap, hq2, hg2, hn2, -⟩ := run_append_q (P := Tryz.prog) (w := W.drew) bytesG (show Qs byL True W.drew 5 (.slice pv r.length cv) r from h.fq) 9 67 (.string X) X.data.toList (src_str W.drew Tryz.underlying9 X) (by rw [Nat.mul_one]; omega) (by omega)
    obtain ⟨b2, f2, hP2⟩ := h.app hfb.2 h2 hq2 hg2 hn2
    have c2 : w2.cell? ⟨fb, 0, none⟩ = some (.int .i64 1000) := (Lib.cell_of_heap f2 _).trans rfl
    have c21 : w2.cell? ⟨fb, 1, none⟩ = some (.slice pv r.length cv) := (Lib.cell_of_heap f2 _).trans rfl
    have z21 : w2.frozen? ⟨fb, 1, none⟩ = false := by simp [World.frozen?, f2]
    have S4 : (w2.setCell ⟨fb, 1, none⟩ v2).cell? ⟨w.heap.size, 0, none⟩ = some (.pointer (some ⟨fb, 0, none⟩)) ∧ (w2.setCell ⟨fb, 1, none⟩ v2).cell? ⟨fb, 0, none⟩ = some (.int .i64 1000) := ⟨hP2.box.cell, (Lib.cell_of_heap hP2.feed _).trans rfl⟩
    obtain ⟨p2, cc2, hv2, hcc2⟩ := hq2.form
    obtain ⟨m2, hm2⟩ : ∃ m2, m2 = (r ++ X.data.toList).length := ⟨_, rfl⟩
    rw [← hm2] at hv2
    subst hv2
    have HP := Lib.hid hP2
    have HS4 := Lib.hid S4
    have hM2 : Mv G (w.heap.size + 1 + 1) W (w2.setCell ⟨fb, 1, none⟩ (.slice p2 m2 cc2)) := by
      have hwl := h.wlt
      have m1 : Mv G (w.heap.size + 1 + 1) W.drew w2 := Mv.grown hg2 (by show _ < W.heap.size; omega) (by show _ ≤ W.heap.size; omega) fun k e => by
        obtain ⟨u, hu⟩ := h.str
        refine ⟨by obtain ⟨cs, fz, hc⟩ := Qs.ty h.fq e; exact ⟨cs, _, fz, hc⟩, ?_, fun e' => h.fq.ne_box hu (by decide) (by rw [e, e'])⟩
        rcases h.fr k e with e | e
        · exact (hb k (by omega)).1
        · omega
      have m0 : Mv G (w.heap.size + 1 + 1) W W.drew := ⟨Nat.le_refl _, fun _ _ h _ => h, (Below.refl _ _).drew, rfl⟩
      exact (m0.trans m1).trans (Mv.set f2 hfb.1 (by omega) _)
    have HM := Lib.hid hM2
    obtain ⟨E, hE⟩ : ∃ E : Bool, E = decide (x.data.toList.getLast? = some 10) := ⟨_, rfl⟩
    have hSx := fun W => Tryz.strings_HasSuffix x ⟨#[10]⟩ W (by omega)
    have e2 : Lib.hasSuffix x.data.toList (⟨#[10]⟩ : ByteArray).data.toList = E := (suf_lastN _ _).trans hE.symm
    rw [e2] at hSx
    have HSx := Lib.hid hSx
    have HE := Lib.hid hE.symm
    have hXd' := Lib.hid hXd
    have hsn' := Lib.hid hsn
    have hol' := Lib.hid hol
    clear hM2 hSx e2 hE h hq2 hg2 hn2 hP2 S4 hXd hsn hol f2 hcv hn hD hXs hr1 hcc2 hm2
    gi_wp2
    refine wpIn_region_heldR (fun V => V.cell? ⟨w.heap.size, 0, none⟩ = some (.pointer (some ⟨fb, 0, none⟩)) ∧ V.cell? ⟨fb, 0, none⟩ = some (.int .i64 1000)) 24 (by kernel_rfl) (by kernel_rfl) rfl ⟨b0, c0⟩ (fun hHeld => ?_)
    refine takeO (v := ?_) 0 rfl (by kernel_rfl) (by kernel_rfl) (by kernel_rfl) (by rfl) ?_ hHeld ?_
    rotate_left
    · intro w hSw
      (try dsimp only at hSw)
      go_simp
      first | done | with_reducible rfl
    simp only [Act.put, List.setIfInBounds_toArray, List.set_cons_zero, List.set_cons_succ]
    refine takeO (v := ?_) 1 rfl (by kernel_rfl) (by kernel_rfl) (by kernel_rfl) (by rfl) ?_ hHeld ?_
    rotate_left
    · intro w hSw
      (try dsimp only at hSw)
      go_simp
      first | done | with_reducible rfl
    simp only [Act.put, List.setIfInBounds_toArray, List.set_cons_zero, List.set_cons_succ]
    refine takeO (v := ?_) 2 rfl (by kernel_rfl) (by kernel_rfl) (by kernel_rfl) (by rfl) ?_ hHeld ?_
    rotate_left
    · intro w hSw
      (try dsimp only at hSw)
      go_simp
      first | done | with_reducible rfl
    simp only [Act.put, List.setIfInBounds_toArray, List.set_cons_zero, List.set_cons_succ]
    refine takeO (v := ?_) 3 rfl (by kernel_rfl) (by kernel_rfl) (by kernel_rfl) (by rfl) ?_ hHeld ?_
    rotate_left
    · intro w hSw
      (try dsimp only at hSw)
      go_simp
      first | done | with_reducible rfl
    simp only [Act.put, List.setIfInBounds_toArray, List.set_cons_zero, List.set_cons_succ]
    refine takeO (v := ?_) 5 rfl (by kernel_rfl) (by kernel_rfl) (by kernel_rfl) (by rfl) ?_ hHeld ?_
    rotate_left
    · intro w hSw
      (try dsimp only at hSw)
      go_simp
      first | done | with_reducible rfl
    simp only [Act.put, List.setIfInBounds_toArray, List.set_cons_zero, List.set_cons_succ]
    refine takeO (v := ?_) 6 rfl (by kernel_rfl) (by kernel_rfl) (by kernel_rfl) (by rfl) ?_ hHeld ?_
    rotate_left
    · intro w hSw
      (try dsimp only at hSw)
      go_simp
      first | done | with_reducible rfl
    simp only [Act.put, List.setIfInBounds_toArray, List.set_cons_zero, List.set_cons_succ]
    refine takeO (v := ?_) 7 rfl (by kernel_rfl) (by kernel_rfl) (by kernel_rfl) (by rfl) ?_ hHeld ?_
    rotate_left
    · intro w hSw
      (try dsimp only at hSw)
      go_simp
      first | done | with_reducible rfl
    simp only [Act.put, List.setIfInBounds_toArray, List.set_cons_zero, List.set_cons_succ]
    refine takeO (v := ?_) 8 rfl (by kernel_rfl) (by kernel_rfl) (by kernel_rfl) (by rfl) ?_ hHeld ?_
    rotate_left
    · intro w hSw
      (try dsimp only at hSw)
      go_simp
      first | done | with_reducible rfl
    simp only [Act.put, List.setIfInBounds_toArray, List.set_cons_zero, List.set_cons_succ]
    refine takeO (v := ?_) 9 rfl (by kernel_rfl) (by kernel_rfl) (by kernel_rfl) (by rfl) ?_ hHeld ?_
    rotate_left
    · intro w hSw
      (try dsimp only at hSw)
      go_simp
      first | done | with_reducible rfl
    simp only [Act.put, List.setIfInBounds_toArray, List.set_cons_zero, List.set_cons_succ]
    refine takeO (v := ?_) 10 rfl (by kernel_rfl) (by kernel_rfl) (by kernel_rfl) (by rfl) ?_ hHeld ?_
    rotate_left
    · intro w hSw
      (try dsimp only at hSw)
      go_simp
      first | done | with_reducible rfl
    simp only [Act.put, List.setIfInBounds_toArray, List.set_cons_zero, List.set_cons_succ]
    refine takeO (v := ?_) 11 rfl (by kernel_rfl) (by kernel_rfl) (by kernel_rfl) (by rfl) ?_ hHeld ?_
    rotate_left
    · intro w hSw
      (try dsimp only at hSw)
      go_simp
      first | done | with_reducible rfl
    simp only [Act.put, List.setIfInBounds_toArray, List.set_cons_zero, List.set_cons_succ]
    refine takeO (v := ?_) 12 rfl (by kernel_rfl) (by kernel_rfl) (by kernel_rfl) (by rfl) ?_ hHeld ?_
    rotate_left
    · intro w hSw
      (try dsimp only at hSw)
      go_simp
      first | done | with_reducible rfl
    simp only [Act.put, List.setIfInBounds_toArray, List.set_cons_zero, List.set_cons_succ]
    refine takeO (v := ?_) 13 rfl (by kernel_rfl) (by kernel_rfl) (by kernel_rfl) (by rfl) ?_ hHeld ?_
    rotate_left
    · intro w hSw
      (try dsimp only at hSw)
      go_simp
      first | done | with_reducible rfl
    simp only [Act.put, List.setIfInBounds_toArray, List.set_cons_zero, List.set_cons_succ]
    refine takeO (v := ?_) 14 rfl (by kernel_rfl) (by kernel_rfl) (by kernel_rfl) (by rfl) ?_ hHeld ?_
    rotate_left
    · intro w hSw
      (try dsimp only at hSw)
      go_simp
      first | done | with_reducible rfl
    simp only [Act.put, List.setIfInBounds_toArray, List.set_cons_zero, List.set_cons_succ]
    refine orO (vi := .slice pv r.length cv) (vj := .slice pv r.length cv) 4 15 rfl rfl (by kernel_rfl) (by rfl) (by rfl) (by go_simp) (by go_simp) hHeld ?_ ?_
    · --USE nrm
      refine stepO (v := .slice pv r.length cv) 15 rfl (by kernel_rfl) (by rfl) (by go_simp) hHeld ?_
      simp only [Act.put, List.setIfInBounds_toArray, List.set_cons_zero, List.set_cons_succ]
      refine takeO (v := ?_) 16 rfl (by kernel_rfl) (by kernel_rfl) (by kernel_rfl) (by rfl) ?_ hHeld ?_
      rotate_left
      · intro w hSw
        (try dsimp only at hSw)
        go_simp
        first | done | with_reducible rfl
      simp only [Act.put, List.setIfInBounds_toArray, List.set_cons_zero, List.set_cons_succ]
      refine takeO (v := ?_) 17 rfl (by kernel_rfl) (by kernel_rfl) (by kernel_rfl) (by rfl) ?_ hHeld ?_
      rotate_left
      · intro w hSw
        (try dsimp only at hSw)
        go_simp
        first | done | with_reducible rfl
      simp only [Act.put, List.setIfInBounds_toArray, List.set_cons_zero, List.set_cons_succ]
      refine takeO (v := ?_) 18 rfl (by kernel_rfl) (by kernel_rfl) (by kernel_rfl) (by rfl) ?_ hHeld ?_
      rotate_left
      · intro w hSw
        (try dsimp only at hSw)
        go_simp
        first | done | with_reducible rfl
      simp only [Act.put, List.setIfInBounds_toArray, List.set_cons_zero, List.set_cons_succ]
      refine takeO (v := ?_) 19 rfl (by kernel_rfl) (by kernel_rfl) (by kernel_rfl) (by rfl) ?_ hHeld ?_
      rotate_left
      · intro w hSw
        (try dsimp only at hSw)
        go_simp
        first | done | with_reducible rfl
      simp only [Act.put, List.setIfInBounds_toArray, List.set_cons_zero, List.set_cons_succ]
      rw [← hX]
      refine stepO (v := .slice p2 m2 cc2) 20 rfl (by kernel_rfl) (by rfl) (run_appO rfl rfl rfl hap) ⟨b2, c2⟩ ?_
      simp only [Act.put, List.setIfInBounds_toArray, List.set_cons_zero, List.set_cons_succ]
      have hHeld := And.intro b2 c2
      refine takeO (v := ?_) 21 rfl (by kernel_rfl) (by kernel_rfl) (by kernel_rfl) (by rfl) ?_ hHeld ?_
      rotate_left
      · intro w hSw
        (try dsimp only at hSw)
        go_simp
        first | done | with_reducible rfl
      simp only [Act.put, List.setIfInBounds_toArray, List.set_cons_zero, List.set_cons_succ]
      refine takeO (v := ?_) 22 rfl (by kernel_rfl) (by kernel_rfl) (by kernel_rfl) (by rfl) ?_ hHeld ?_
      rotate_left
      · intro w hSw
        (try dsimp only at hSw)
        go_simp
        first | done | with_reducible rfl
      simp only [Act.put, List.setIfInBounds_toArray, List.set_cons_zero, List.set_cons_succ]
      refine skipO 23 rfl (by kernel_rfl) (by rfl) (by go_simp) HS4.out ?_
      simp only [Act.put, List.setIfInBounds_toArray, List.set_cons_zero, List.set_cons_succ]
      refine doneO (by kernel_rfl) ?_
      gi_wp2
      obtain ⟨W4, hW4⟩ : ∃ W4, W4 = w2.setCell ⟨fb, 1, none⟩ (.slice p2 m2 cc2) := ⟨_, rfl⟩
      have HP := HP
      have HM := HM
      rw [← hW4] at HP HM ⊢
      clear hX HS4 hW4 b2 c2 c21 z21 hHeld hap b0 c0 c1 u1 u2 u3 u4
      refine ⟨trivial, ?_⟩
      (with_reducible refine (CallsIn.inRound l (callsIn_wide.2 (HSx.out _))).mono ?_)
      rintro e w4 ⟨rfl, rfl⟩
      cases E with
      | false =>
        gi_wp2
        refine ⟨HM.out.keeps, HM.out.kp, .slice p2 m2 cc2, ov, ?_⟩
        rw [hsn'.out, if_neg (of_decide_eq_false HE.out), ← hXd'.out]
        exact HP.out
      | true =>
        have d0 : w4.drew.cell? ⟨w.heap.size, 0, none⟩ = some (.pointer (some ⟨fb, 0, none⟩)) := HP.out.box.cell
        have d1 : w4.drew.cell? ⟨fb, 1, none⟩ = some (.slice p2 m2 cc2) := (Lib.cell_of_heap (w := w4.drew) HP.out.feed _).trans rfl
        have d3 : Qs byL True w4.drew 5 (.slice p2 m2 cc2) (r ++ X.data.toList) := HP.out.fq
        have d2 : w4.drew.cell? ⟨w.heap.size + 1, 0, none⟩ = some ov := HP.out.out.cell
        obtain ⟨T, hT⟩ : ∃ T : ByteArray, T = ⟨(r ++ X.data.toList).toArray⟩ := ⟨_, rfl⟩
        obtain ⟨V1, hV1⟩ : ∃ V1, V1 = w4.drew.alloc (.cells #[.string T] 9) := ⟨_, rfl⟩
        have hB1 : Below w4.heap.size w4 V1 := by rw [hV1]; exact (Below.refl _ _).drew.alloc (Nat.le_refl _) _
        have hq1 : Qs txL True V1 9 ov (outs.map bt) := HP.out.oq.kept fun g e => hB1.block g (HP.out.oq.lt e)
        have e0 : V1.cell? ⟨w.heap.size, 0, none⟩ = some (.pointer (some ⟨fb, 0, none⟩)) := cell_later hB1 HP.out.box.cell
        have e1 : V1.cell? ⟨fb, 1, none⟩ = some (.slice p2 m2 cc2) := cell_later hB1 ((Lib.cell_of_heap HP.out.feed _).trans rfl)
        have e2 : V1.cell? ⟨w.heap.size + 1, 0, none⟩ = some ov := cell_later hB1 HP.out.out.cell
        have e3 : Qs byL True V1 5 (.slice p2 m2 cc2) (r ++ X.data.toList) := HP.out.fq.kept fun g e => hB1.block g (HP.out.fq.lt e)
        have hsrc : Src Tryz.prog txL.k 22 (.slice (some ⟨w4.heap.size, 0, none⟩) 1 1) [bt (r ++ X.data.toList)].length ([bt (r ++ X.data.toList)].flatMap txL.enc) V1 := by
          rw [hV1]
          exact Src.ofSlice _ Tryz.underlying22 _ 1 1 [.string (bt (r ++ X.data.toList))] rfl (by rw [hT]; exact cell_one_new _ _ _) (by intro u hu; simp at hu; subst hu; rfl)
        obtain ⟨v5, w5, hap5, hq5, hg5, hn5, -⟩ := run_append_q (P := Tryz.prog) (w := V1) txG hq1 22 22 (.slice (some ⟨w4.heap.size, 0, none⟩) 1 1) [bt (r ++ X.data.toList)] hsrc (by have := hol'.out; rw [List.length_map]; simp; omega) (by have := hol'.out; rw [List.length_map]; simp; omega)
        obtain ⟨s0, s1, s2, s3, hP5⟩ := HP.out.line hfb.2 hbl hB1 hq5 hg5 hn5
        have s4 : w5.cell? ⟨w.heap.size + 1, 0, none⟩ = some ov := s3.cell
        have s5 : w5.frozen? ⟨w.heap.size + 1, 0, none⟩ = false := s3.frozen
        have s6 : w5.cell? ⟨fb, 1, none⟩ = some (.slice p2 m2 cc2) := (Lib.cell_of_heap s1 _).trans rfl
        have hM5 : Mv G (w.heap.size + 1 + 1) w4 (w5.setCell ⟨w.heap.size + 1, 0, none⟩ v5) := by
          have hwl := HP.out.wlt
          have hsz := HP.out.siz
          have m0 : Mv G (w.heap.size + 1 + 1) w4 V1 := Mv.grown (row := none) ⟨hB1.os, hB1.tape, hB1.output, hB1.size, fun k hk _ => hB1.block k hk⟩ (by omega) (by omega) (fun k e => by cases e)
          have m1 : Mv G (w.heap.size + 1 + 1) V1 w5 := Mv.grown hg5 (by have := hB1.size; omega) (by have := hB1.size; omega) fun k e => by
            have := HP.out.own k e
            exact ⟨by obtain ⟨cs, fz, hc⟩ := Qs.ty hq1 e; exact ⟨cs, _, fz, hc⟩, by omega, by omega⟩
          exact (m0.trans m1).trans (Mv.set s3 (by omega) (by omega) _)
        have HM5 := Lib.hid (HM.out.trans hM5)
        obtain ⟨p5, cc5, hv5, hcc5⟩ := hq5.form
        obtain ⟨m5, hm5⟩ : ∃ m5, m5 = (outs.map bt ++ [bt (r ++ X.data.toList)]).length := ⟨_, rfl⟩
        rw [← hm5] at hv5
        subst hv5
        have HP5 := Lib.hid hP5
        have t0 : (w5.setCell ⟨w.heap.size + 1, 0, none⟩ (.slice p5 m5 cc5)).cell? ⟨w.heap.size, 0, none⟩ = some (.pointer (some ⟨fb, 0, none⟩)) := hP5.box.cell
        have t1 : (w5.setCell ⟨w.heap.size + 1, 0, none⟩ (.slice p5 m5 cc5)).cell? ⟨fb, 1, none⟩ = some (.slice p2 m2 cc2) := (Lib.cell_of_heap hP5.feed _).trans rfl
        have t2 := hP5.fq
        have T6 := Lib.hid (And.intro t0 (And.intro t1 t2))
        have HT := Lib.hid hT.symm
        have HV := Lib.hid hV1
        clear hP5 hM5 hcc5 hm5 hq5 hg5 hn5 s3 s1 hsrc t0 t1 t2 hq1 hB1 hT hV1
        gi_wp2
        refine wpIn_region_heldR (fun V => V.cell? ⟨w.heap.size, 0, none⟩ = some (.pointer (some ⟨fb, 0, none⟩)) ∧ V.cell? ⟨fb, 1, none⟩ = some (.slice p2 m2 cc2) ∧ Qs byL True V 5 (.slice p2 m2 cc2) (r ++ X.data.toList)) 9 (by kernel_rfl) (by kernel_rfl) rfl ⟨d0, d1, d3⟩ (fun hHeld => ?_)
        refine takeO (v := ?_) 1 rfl (by kernel_rfl) (by kernel_rfl) (by kernel_rfl) (by rfl) ?_ hHeld ?_
        rotate_left
        · intro w hSw
          (try dsimp only at hSw)
          go_simp
          first | done | with_reducible rfl
        simp only [Act.put, List.setIfInBounds_toArray, List.set_cons_zero, List.set_cons_succ]
        refine takeO (v := ?_) 2 rfl (by kernel_rfl) (by kernel_rfl) (by kernel_rfl) (by rfl) ?_ hHeld ?_
        rotate_left
        · intro w hSw
          (try dsimp only at hSw)
          go_simp
          first | done | with_reducible rfl
        simp only [Act.put, List.setIfInBounds_toArray, List.set_cons_zero, List.set_cons_succ]
        refine takeO (v := ?_) 3 rfl (by kernel_rfl) (by kernel_rfl) (by kernel_rfl) (by rfl) ?_ hHeld ?_
        rotate_left
        · intro w hSw
          (try dsimp only at hSw)
          go_simp
          first | done | with_reducible rfl
        simp only [Act.put, List.setIfInBounds_toArray, List.set_cons_zero, List.set_cons_succ]
        refine takeO (v := ?_) 4 rfl (by kernel_rfl) (by kernel_rfl) (by kernel_rfl) (by rfl) ?_ hHeld ?_
        rotate_left
        · intro w hSw
          (try dsimp only at hSw)
          go_simp
          first | done | with_reducible rfl
        simp only [Act.put, List.setIfInBounds_toArray, List.set_cons_zero, List.set_cons_succ]
        refine takeO (v := ?_) 5 rfl (by kernel_rfl) (by kernel_rfl) (by kernel_rfl) (by rfl) ?_ hHeld ?_
        rotate_left
        · intro w hSw
          have hcc := conv_q (P := Tryz.prog) (ts := 9) Tryz.underlying67 Tryz.underlying5 Tryz.underlying9 hSw.2.2
          rw [HT.out] at hcc
          (try dsimp only at hSw)
          go_simp
          first | done | with_reducible rfl
        simp only [Act.put, List.setIfInBounds_toArray, List.set_cons_zero, List.set_cons_succ]
        refine orG (vi := ov) (vj := .slice (some ⟨w4.heap.size, 0, none⟩) 1 1) (wi := w4.drew) (wj := V1) 0 6 rfl rfl (by kernel_rfl) (by rfl) (by rfl) (by go_simp) (by rw [HV.out]; go_simp) hHeld ⟨e0, e1, e3⟩ ?_ ?_
        · --USE nrm
          refine stepO (v := .slice (some ⟨w4.heap.size, 0, none⟩) 1 1) (w' := V1) 6 rfl (by kernel_rfl) (by rfl) (by rw [HV.out]; go_simp) ⟨e0, e1, e3⟩ ?_
          simp only [Act.put, List.setIfInBounds_toArray, List.set_cons_zero, List.set_cons_succ]
          refine stepO (v := .slice p5 m5 cc5) 7 rfl (by kernel_rfl) (by rfl) (run_appO rfl rfl rfl hap5) ⟨s0, s6, s2⟩ ?_
          simp only [Act.put, List.setIfInBounds_toArray, List.set_cons_zero, List.set_cons_succ]
          refine skipO 8 rfl (by kernel_rfl) (by rfl) (by go_simp) T6.out ?_
          simp only [Act.put, List.setIfInBounds_toArray, List.set_cons_zero, List.set_cons_succ]
          refine doneO (by kernel_rfl) ?_
          gi_wp2
          obtain ⟨W6, hW6⟩ : ∃ W6, W6 = w5.setCell ⟨w.heap.size + 1, 0, none⟩ (.slice p5 m5 cc5) := ⟨_, rfl⟩
          have HP5 := HP5
          have HM5 := HM5
          have T6 := T6
          rw [← hW6] at HP5 HM5 T6 ⊢
          clear hW6 s0 s2 s4 s5 s6 hap5 hHeld d0 d1 d2 d3 e0 e1 e2 e3 HV
          have g0 : W6.drew.cell? ⟨w.heap.size, 0, none⟩ = some (.pointer (some ⟨fb, 0, none⟩)) := T6.out.1
          have g1 : W6.drew.cell? ⟨fb, 1, none⟩ = some (.slice p2 m2 cc2) := T6.out.2.1
          have g2' : W6.frozen? ⟨fb, 1, none⟩ = false := by have := HP5.out.feed; simp [World.frozen?, this]
          have g2 : W6.drew.frozen? ⟨fb, 1, none⟩ = false := g2'
          have g3 : (W6.drew.setCell ⟨fb, 1, none⟩ (.slice p2 0 cc2)).cell? ⟨w.heap.size, 0, none⟩ = some (.pointer (some ⟨fb, 0, none⟩)) := (HP5.out.clear hfb.2 h2).box.cell
          refine wpIn_region_heldR (fun V => V.cell? ⟨w.heap.size, 0, none⟩ = some (.pointer (some ⟨fb, 0, none⟩))) 9 (by kernel_rfl) (by kernel_rfl) rfl g0 (fun hHeld => ?_)
          refine takeO (v := ?_) 0 rfl (by kernel_rfl) (by kernel_rfl) (by kernel_rfl) (by rfl) ?_ hHeld ?_
          rotate_left
          · intro w hSw
            (try dsimp only at hSw)
            go_simp
            first | done | with_reducible rfl
          simp only [Act.put, List.setIfInBounds_toArray, List.set_cons_zero, List.set_cons_succ]
          refine takeO (v := ?_) 1 rfl (by kernel_rfl) (by kernel_rfl) (by kernel_rfl) (by rfl) ?_ hHeld ?_
          rotate_left
          · intro w hSw
            (try dsimp only at hSw)
            go_simp
            first | done | with_reducible rfl
          simp only [Act.put, List.setIfInBounds_toArray, List.set_cons_zero, List.set_cons_succ]
          refine takeO (v := ?_) 2 rfl (by kernel_rfl) (by kernel_rfl) (by kernel_rfl) (by rfl) ?_ hHeld ?_
          rotate_left
          · intro w hSw
            (try dsimp only at hSw)
            go_simp
            first | done | with_reducible rfl
          simp only [Act.put, List.setIfInBounds_toArray, List.set_cons_zero, List.set_cons_succ]
          refine takeO (v := ?_) 3 rfl (by kernel_rfl) (by kernel_rfl) (by kernel_rfl) (by rfl) ?_ hHeld ?_
          rotate_left
          · intro w hSw
            (try dsimp only at hSw)
            go_simp
            first | done | with_reducible rfl
          simp only [Act.put, List.setIfInBounds_toArray, List.set_cons_zero, List.set_cons_succ]
          refine stepO (v := .slice p2 m2 cc2) 4 rfl (by kernel_rfl) (by rfl) (by go_simp) hHeld ?_
          simp only [Act.put, List.setIfInBounds_toArray, List.set_cons_zero, List.set_cons_succ]
          refine takeO (v := ?_) 5 rfl (by kernel_rfl) (by kernel_rfl) (by kernel_rfl) (by rfl) ?_ hHeld ?_
          rotate_left
          · intro w hSw
            (try dsimp only at hSw)
            go_simp
            first | done | with_reducible rfl
          simp only [Act.put, List.setIfInBounds_toArray, List.set_cons_zero, List.set_cons_succ]
          refine takeO (v := ?_) 6 rfl (by kernel_rfl) (by kernel_rfl) (by kernel_rfl) (by rfl) ?_ hHeld ?_
          rotate_left
          · intro w hSw
            (try dsimp only at hSw)
            go_simp
            first | done | with_reducible rfl
          simp only [Act.put, List.setIfInBounds_toArray, List.set_cons_zero, List.set_cons_succ]
          refine takeO (v := ?_) 7 rfl (by kernel_rfl) (by kernel_rfl) (by kernel_rfl) (by rfl) ?_ hHeld ?_
          rotate_left
          · intro w hSw
            (try dsimp only at hSw)
            go_simp
            first | done | with_reducible rfl
          simp only [Act.put, List.setIfInBounds_toArray, List.set_cons_zero, List.set_cons_succ]
          refine skipO 8 rfl (by kernel_rfl) (by rfl) (by go_simp) g3 ?_
          simp only [Act.put, List.setIfInBounds_toArray, List.set_cons_zero, List.set_cons_succ]
          refine doneO (by kernel_rfl) ?_
          gi_wp2
          have HQ := (HP5.out.keeps (W' := W6.drew) (fun _ _ _ _ _ => rfl) HP5.out.frm.drew (Nat.le_refl _)).clear hfb.2 h2
          have m8 : Mv G (w.heap.size + 1 + 1) W6 W6.drew := ⟨Nat.le_refl _, fun _ _ h _ => h, (Below.refl _ _).drew, rfl⟩
          have m9 : Mv G (w.heap.size + 1 + 1) W (W6.drew.setCell ⟨fb, 1, none⟩ (.slice p2 0 cc2)) := (HM5.out.trans m8).trans (Mv.set (W := W6.drew) HP5.out.feed hfb.1 (by omega) _)
          refine ⟨m9.keeps, m9.kp, .slice p2 0 cc2, .slice p5 m5 cc5, ?_⟩
          rw [hsn'.out, if_pos (of_decide_eq_true HE.out), ← hXd'.out]
          exact HQ
        · --USE nrm
          refine stepO (v := ov) (w' := V1) 0 rfl (by kernel_rfl) (by rfl) (by go_simp) ⟨e0, e1, e3⟩ ?_
          simp only [Act.put, List.setIfInBounds_toArray, List.set_cons_zero, List.set_cons_succ]
          refine stepO (v := .slice p5 m5 cc5) 7 rfl (by kernel_rfl) (by rfl) (run_appO rfl rfl rfl hap5) ⟨s0, s6, s2⟩ ?_
          simp only [Act.put, List.setIfInBounds_toArray, List.set_cons_zero, List.set_cons_succ]
          refine skipO 8 rfl (by kernel_rfl) (by rfl) (by go_simp) T6.out ?_
          simp only [Act.put, List.setIfInBounds_toArray, List.set_cons_zero, List.set_cons_succ]
          refine doneO (by kernel_rfl) ?_
          gi_wp2
          obtain ⟨W6, hW6⟩ : ∃ W6, W6 = w5.setCell ⟨w.heap.size + 1, 0, none⟩ (.slice p5 m5 cc5) := ⟨_, rfl⟩
          have HP5 := HP5
          have HM5 := HM5
          have T6 := T6
          rw [← hW6] at HP5 HM5 T6 ⊢
          clear hW6 s0 s2 s4 s5 s6 hap5 hHeld d0 d1 d2 d3 e0 e1 e2 e3 HV
          have g0 : W6.drew.cell? ⟨w.heap.size, 0, none⟩ = some (.pointer (some ⟨fb, 0, none⟩)) := T6.out.1
          have g1 : W6.drew.cell? ⟨fb, 1, none⟩ = some (.slice p2 m2 cc2) := T6.out.2.1
          have g2' : W6.frozen? ⟨fb, 1, none⟩ = false := by have := HP5.out.feed; simp [World.frozen?, this]
          have g2 : W6.drew.frozen? ⟨fb, 1, none⟩ = false := g2'
          have g3 : (W6.drew.setCell ⟨fb, 1, none⟩ (.slice p2 0 cc2)).cell? ⟨w.heap.size, 0, none⟩ = some (.pointer (some ⟨fb, 0, none⟩)) := (HP5.out.clear hfb.2 h2).box.cell
          refine wpIn_region_heldR (fun V => V.cell? ⟨w.heap.size, 0, none⟩ = some (.pointer (some ⟨fb, 0, none⟩))) 9 (by kernel_rfl) (by kernel_rfl) rfl g0 (fun hHeld => ?_)
          refine takeO (v := ?_) 0 rfl (by kernel_rfl) (by kernel_rfl) (by kernel_rfl) (by rfl) ?_ hHeld ?_
          rotate_left
          · intro w hSw
            (try dsimp only at hSw)
            go_simp
            first | done | with_reducible rfl
          simp only [Act.put, List.setIfInBounds_toArray, List.set_cons_zero, List.set_cons_succ]
          refine takeO (v := ?_) 1 rfl (by kernel_rfl) (by kernel_rfl) (by kernel_rfl) (by rfl) ?_ hHeld ?_
          rotate_left
          · intro w hSw
            (try dsimp only at hSw)
            go_simp
            first | done | with_reducible rfl
          simp only [Act.put, List.setIfInBounds_toArray, List.set_cons_zero, List.set_cons_succ]
          refine takeO (v := ?_) 2 rfl (by kernel_rfl) (by kernel_rfl) (by kernel_rfl) (by rfl) ?_ hHeld ?_
          rotate_left
          · intro w hSw
            (try dsimp only at hSw)
            go_simp
            first | done | with_reducible rfl
          simp only [Act.put, List.setIfInBounds_toArray, List.set_cons_zero, List.set_cons_succ]
          refine takeO (v := ?_) 3 rfl (by kernel_rfl) (by kernel_rfl) (by kernel_rfl) (by rfl) ?_ hHeld ?_
          rotate_left
          · intro w hSw
            (try dsimp only at hSw)
            go_simp
            first | done | with_reducible rfl
          simp only [Act.put, List.setIfInBounds_toArray, List.set_cons_zero, List.set_cons_succ]
          refine stepO (v := .slice p2 m2 cc2) 4 rfl (by kernel_rfl) (by rfl) (by go_simp) hHeld ?_
          simp only [Act.put, List.setIfInBounds_toArray, List.set_cons_zero, List.set_cons_succ]
          refine takeO (v := ?_) 5 rfl (by kernel_rfl) (by kernel_rfl) (by kernel_rfl) (by rfl) ?_ hHeld ?_
          rotate_left
          · intro w hSw
            (try dsimp only at hSw)
            go_simp
            first | done | with_reducible rfl
          simp only [Act.put, List.setIfInBounds_toArray, List.set_cons_zero, List.set_cons_succ]
          refine takeO (v := ?_) 6 rfl (by kernel_rfl) (by kernel_rfl) (by kernel_rfl) (by rfl) ?_ hHeld ?_
          rotate_left
          · intro w hSw
            (try dsimp only at hSw)
            go_simp
            first | done | with_reducible rfl
          simp only [Act.put, List.setIfInBounds_toArray, List.set_cons_zero, List.set_cons_succ]
          refine takeO (v := ?_) 7 rfl (by kernel_rfl) (by kernel_rfl) (by kernel_rfl) (by rfl) ?_ hHeld ?_
          rotate_left
          · intro w hSw
            (try dsimp only at hSw)
            go_simp
            first | done | with_reducible rfl
          simp only [Act.put, List.setIfInBounds_toArray, List.set_cons_zero, List.set_cons_succ]
          refine skipO 8 rfl (by kernel_rfl) (by rfl) (by go_simp) g3 ?_
          simp only [Act.put, List.setIfInBounds_toArray, List.set_cons_zero, List.set_cons_succ]
          refine doneO (by kernel_rfl) ?_
          gi_wp2
          have HQ := (HP5.out.keeps (W' := W6.drew) (fun _ _ _ _ _ => rfl) HP5.out.frm.drew (Nat.le_refl _)).clear hfb.2 h2
          have m8 : Mv G (w.heap.size + 1 + 1) W6 W6.drew := ⟨Nat.le_refl _, fun _ _ h _ => h, (Below.refl _ _).drew, rfl⟩
          have m9 : Mv G (w.heap.size + 1 + 1) W (W6.drew.setCell ⟨fb, 1, none⟩ (.slice p2 0 cc2)) := (HM5.out.trans m8).trans (Mv.set (W := W6.drew) HP5.out.feed hfb.1 (by omega) _)
          refine ⟨m9.keeps, m9.kp, .slice p2 0 cc2, .slice p5 m5 cc5, ?_⟩
          rw [hsn'.out, if_pos (of_decide_eq_true HE.out), ← hXd'.out]
          exact HQ
    · --USE nrm
      refine takeO (v := ?_) 16 rfl (by kernel_rfl) (by kernel_rfl) (by kernel_rfl) (by rfl) ?_ hHeld ?_
      rotate_left
      · intro w hSw
        (try dsimp only at hSw)
        go_simp
        first | done | with_reducible rfl
      simp only [Act.put, List.setIfInBounds_toArray, List.set_cons_zero, List.set_cons_succ]
      refine takeO (v := ?_) 17 rfl (by kernel_rfl) (by kernel_rfl) (by kernel_rfl) (by rfl) ?_ hHeld ?_
      rotate_left
      · intro w hSw
        (try dsimp only at hSw)
        go_simp
        first | done | with_reducible rfl
      simp only [Act.put, List.setIfInBounds_toArray, List.set_cons_zero, List.set_cons_succ]
      refine takeO (v := ?_) 18 rfl (by kernel_rfl) (by kernel_rfl) (by kernel_rfl) (by rfl) ?_ hHeld ?_
      rotate_left
      · intro w hSw
        (try dsimp only at hSw)
        go_simp
        first | done | with_reducible rfl
      simp only [Act.put, List.setIfInBounds_toArray, List.set_cons_zero, List.set_cons_succ]
      refine takeO (v := ?_) 19 rfl (by kernel_rfl) (by kernel_rfl) (by kernel_rfl) (by rfl) ?_ hHeld ?_
      rotate_left
      · intro w hSw
        (try dsimp only at hSw)
        go_simp
        first | done | with_reducible rfl
      simp only [Act.put, List.setIfInBounds_toArray, List.set_cons_zero, List.set_cons_succ]
      refine stepO (v := .slice pv r.length cv) 4 rfl (by kernel_rfl) (by rfl) (by go_simp) hHeld ?_
      simp only [Act.put, List.setIfInBounds_toArray, List.set_cons_zero, List.set_cons_succ]
      rw [← hX]
      refine stepO (v := .slice p2 m2 cc2) 20 rfl (by kernel_rfl) (by rfl) (run_appO rfl rfl rfl hap) ⟨b2, c2⟩ ?_
      simp only [Act.put, List.setIfInBounds_toArray, List.set_cons_zero, List.set_cons_succ]
      have hHeld := And.intro b2 c2
      refine takeO (v := ?_) 21 rfl (by kernel_rfl) (by kernel_rfl) (by kernel_rfl) (by rfl) ?_ hHeld ?_
      rotate_left
      · intro w hSw
        (try dsimp only at hSw)
        go_simp
        first | done | with_reducible rfl
      simp only [Act.put, List.setIfInBounds_toArray, List.set_cons_zero, List.set_cons_succ]
      refine takeO (v := ?_) 22 rfl (by kernel_rfl) (by kernel_rfl) (by kernel_rfl) (by rfl) ?_ hHeld ?_
      rotate_left
      · intro w hSw
        (try dsimp only at hSw)
        go_simp
        first | done | with_reducible rfl
      simp only [Act.put, List.setIfInBounds_toArray, List.set_cons_zero, List.set_cons_succ]
      refine skipO 23 rfl (by kernel_rfl) (by rfl) (by go_simp) HS4.out ?_
      simp only [Act.put, List.setIfInBounds_toArray, List.set_cons_zero, List.set_cons_succ]
      refine doneO (by kernel_rfl) ?_
      gi_wp2
      obtain ⟨W4, hW4⟩ : ∃ W4, W4 = w2.setCell ⟨fb, 1, none⟩ (.slice p2 m2 cc2) := ⟨_, rfl⟩
      have HP := HP
      have HM := HM
      rw [← hW4] at HP HM ⊢
      clear hX HS4 hW4 b2 c2 c21 z21 hHeld hap b0 c0 c1 u1 u2 u3 u4
      refine ⟨trivial, ?_⟩
      (with_reducible refine (CallsIn.inRound l (callsIn_wide.2 (HSx.out _))).mono ?_)
      rintro e w4 ⟨rfl, rfl⟩
      cases E with
      | false =>
        gi_wp2
        refine ⟨HM.out.keeps, HM.out.kp, .slice p2 m2 cc2, ov, ?_⟩
        rw [hsn'.out, if_neg (of_decide_eq_false HE.out), ← hXd'.out]
        exact HP.out
      | true =>
        have d0 : w4.drew.cell? ⟨w.heap.size, 0, none⟩ = some (.pointer (some ⟨fb, 0, none⟩)) := HP.out.box.cell
        have d1 : w4.drew.cell? ⟨fb, 1, none⟩ = some (.slice p2 m2 cc2) := (Lib.cell_of_heap (w := w4.drew) HP.out.feed _).trans rfl
        have d3 : Qs byL True w4.drew 5 (.slice p2 m2 cc2) (r ++ X.data.toList) := HP.out.fq
        have d2 : w4.drew.cell? ⟨w.heap.size + 1, 0, none⟩ = some ov := HP.out.out.cell
        obtain ⟨T, hT⟩ : ∃ T : ByteArray, T = ⟨(r ++ X.data.toList).toArray⟩ := ⟨_, rfl⟩
        obtain ⟨V1, hV1⟩ : ∃ V1, V1 = w4.drew.alloc (.cells #[.string T] 9) := ⟨_, rfl⟩
        have hB1 : Below w4.heap.size w4 V1 := by rw [hV1]; exact (Below.refl _ _).drew.alloc (Nat.le_refl _) _
        have hq1 : Qs txL True V1 9 ov (outs.map bt) := HP.out.oq.kept fun g e => hB1.block g (HP.out.oq.lt e)
        have e0 : V1.cell? ⟨w.heap.size, 0, none⟩ = some (.pointer (some ⟨fb, 0, none⟩)) := cell_later hB1 HP.out.box.cell
        have e1 : V1.cell? ⟨fb, 1, none⟩ = some (.slice p2 m2 cc2) := cell_later hB1 ((Lib.cell_of_heap HP.out.feed _).trans rfl)
        have e2 : V1.cell? ⟨w.heap.size + 1, 0, none⟩ = some ov := cell_later hB1 HP.out.out.cell
        have e3 : Qs byL True V1 5 (.slice p2 m2 cc2) (r ++ X.data.toList) := HP.out.fq.kept fun g e => hB1.block g (HP.out.fq.lt e)
        have hsrc : Src Tryz.prog txL.k 22 (.slice (some ⟨w4.heap.size, 0, none⟩) 1 1) [bt (r ++ X.data.toList)].length ([bt (r ++ X.data.toList)].flatMap txL.enc) V1 := by
          rw [hV1]
          exact Src.ofSlice _ Tryz.underlying22 _ 1 1 [.string (bt (r ++ X.data.toList))] rfl (by rw [hT]; exact cell_one_new _ _ _) (by intro u hu; simp at hu; subst hu; rfl)
        obtain ⟨v5, w5, hap5, hq5, hg5, hn5, -⟩ := run_append_q (P := Tryz.prog) (w := V1) txG hq1 22 22 (.slice (some ⟨w4.heap.size, 0, none⟩) 1 1) [bt (r ++ X.data.toList)] hsrc (by have := hol'.out; rw [List.length_map]; simp; omega) (by have := hol'.out; rw [List.length_map]; simp; omega)
        obtain ⟨s0, s1, s2, s3, hP5⟩ := HP.out.line hfb.2 hbl hB1 hq5 hg5 hn5
        have s4 : w5.cell? ⟨w.heap.size + 1, 0, none⟩ = some ov := s3.cell
        have s5 : w5.frozen? ⟨w.heap.size + 1, 0, none⟩ = false := s3.frozen
        have s6 : w5.cell? ⟨fb, 1, none⟩ = some (.slice p2 m2 cc2) := (Lib.cell_of_heap s1 _).trans rfl
        have hM5 : Mv G (w.heap.size + 1 + 1) w4 (w5.setCell ⟨w.heap.size + 1, 0, none⟩ v5) := by
          have hwl := HP.out.wlt
          have hsz := HP.out.siz
          have m0 : Mv G (w.heap.size + 1 + 1) w4 V1 := Mv.grown (row := none) ⟨hB1.os, hB1.tape, hB1.output, hB1.size, fun k hk _ => hB1.block k hk⟩ (by omega) (by omega) (fun k e => by cases e)
          have m1 : Mv G (w.heap.size + 1 + 1) V1 w5 := Mv.grown hg5 (by have := hB1.size; omega) (by have := hB1.size; omega) fun k e => by
            have := HP.out.own k e
            exact ⟨by obtain ⟨cs, fz, hc⟩ := Qs.ty hq1 e; exact ⟨cs, _, fz, hc⟩, by omega, by omega⟩
          exact (m0.trans m1).trans (Mv.set s3 (by omega) (by omega) _)
        have HM5 := Lib.hid (HM.out.trans hM5)
        obtain ⟨p5, cc5, hv5, hcc5⟩ := hq5.form
        obtain ⟨m5, hm5⟩ : ∃ m5, m5 = (outs.map bt ++ [bt (r ++ X.data.toList)]).length := ⟨_, rfl⟩
        rw [← hm5] at hv5
        subst hv5
        have HP5 := Lib.hid hP5
        have t0 : (w5.setCell ⟨w.heap.size + 1, 0, none⟩ (.slice p5 m5 cc5)).cell? ⟨w.heap.size, 0, none⟩ = some (.pointer (some ⟨fb, 0, none⟩)) := hP5.box.cell
        have t1 : (w5.setCell ⟨w.heap.size + 1, 0, none⟩ (.slice p5 m5 cc5)).cell? ⟨fb, 1, none⟩ = some (.slice p2 m2 cc2) := (Lib.cell_of_heap hP5.feed _).trans rfl
        have t2 := hP5.fq
        have T6 := Lib.hid (And.intro t0 (And.intro t1 t2))
        have HT := Lib.hid hT.symm
        have HV := Lib.hid hV1
        clear hP5 hM5 hcc5 hm5 hq5 hg5 hn5 s3 s1 hsrc t0 t1 t2 hq1 hB1 hT hV1
        gi_wp2
        refine wpIn_region_heldR (fun V => V.cell? ⟨w.heap.size, 0, none⟩ = some (.pointer (some ⟨fb, 0, none⟩)) ∧ V.cell? ⟨fb, 1, none⟩ = some (.slice p2 m2 cc2) ∧ Qs byL True V 5 (.slice p2 m2 cc2) (r ++ X.data.toList)) 9 (by kernel_rfl) (by kernel_rfl) rfl ⟨d0, d1, d3⟩ (fun hHeld => ?_)
        refine takeO (v := ?_) 1 rfl (by kernel_rfl) (by kernel_rfl) (by kernel_rfl) (by rfl) ?_ hHeld ?_
        rotate_left
        · intro w hSw
          (try dsimp only at hSw)
          go_simp
          first | done | with_reducible rfl
        simp only [Act.put, List.setIfInBounds_toArray, List.set_cons_zero, List.set_cons_succ]
        refine takeO (v := ?_) 2 rfl (by kernel_rfl) (by kernel_rfl) (by kernel_rfl) (by rfl) ?_ hHeld ?_
        rotate_left
        · intro w hSw
          (try dsimp only at hSw)
          go_simp
          first | done | with_reducible rfl
        simp only [Act.put, List.setIfInBounds_toArray, List.set_cons_zero, List.set_cons_succ]
        refine takeO (v := ?_) 3 rfl (by kernel_rfl) (by kernel_rfl) (by kernel_rfl) (by rfl) ?_ hHeld ?_
        rotate_left
        · intro w hSw
          (try dsimp only at hSw)
          go_simp
          first | done | with_reducible rfl
        simp only [Act.put, List.setIfInBounds_toArray, List.set_cons_zero, List.set_cons_succ]
        refine takeO (v := ?_) 4 rfl (by kernel_rfl) (by kernel_rfl) (by kernel_rfl) (by rfl) ?_ hHeld ?_
        rotate_left
        · intro w hSw
          (try dsimp only at hSw)
          go_simp
          first | done | with_reducible rfl
        simp only [Act.put, List.setIfInBounds_toArray, List.set_cons_zero, List.set_cons_succ]
        refine takeO (v := ?_) 5 rfl (by kernel_rfl) (by kernel_rfl) (by kernel_rfl) (by rfl) ?_ hHeld ?_
        rotate_left
        · intro w hSw
          have hcc := conv_q (P := Tryz.prog) (ts := 9) Tryz.underlying67 Tryz.underlying5 Tryz.underlying9 hSw.2.2
          rw [HT.out] at hcc
          (try dsimp only at hSw)
          go_simp
          first | done | with_reducible rfl
        simp only [Act.put, List.setIfInBounds_toArray, List.set_cons_zero, List.set_cons_succ]
        refine orG (vi := ov) (vj := .slice (some ⟨w4.heap.size, 0, none⟩) 1 1) (wi := w4.drew) (wj := V1) 0 6 rfl rfl (by kernel_rfl) (by rfl) (by rfl) (by go_simp) (by rw [HV.out]; go_simp) hHeld ⟨e0, e1, e3⟩ ?_ ?_
        · --USE nrm
          refine stepO (v := .slice (some ⟨w4.heap.size, 0, none⟩) 1 1) (w' := V1) 6 rfl (by kernel_rfl) (by rfl) (by rw [HV.out]; go_simp) ⟨e0, e1, e3⟩ ?_
          simp only [Act.put, List.setIfInBounds_toArray, List.set_cons_zero, List.set_cons_succ]
          refine stepO (v := .slice p5 m5 cc5) 7 rfl (by kernel_rfl) (by rfl) (run_appO rfl rfl rfl hap5) ⟨s0, s6, s2⟩ ?_
          simp only [Act.put, List.setIfInBounds_toArray, List.set_cons_zero, List.set_cons_succ]
          refine skipO 8 rfl (by kernel_rfl) (by rfl) (by go_simp) T6.out ?_
          simp only [Act.put, List.setIfInBounds_toArray, List.set_cons_zero, List.set_cons_succ]
          refine doneO (by kernel_rfl) ?_
          gi_wp2
          obtain ⟨W6, hW6⟩ : ∃ W6, W6 = w5.setCell ⟨w.heap.size + 1, 0, none⟩ (.slice p5 m5 cc5) := ⟨_, rfl⟩
          have HP5 := HP5
          have HM5 := HM5
          have T6 := T6
          rw [← hW6] at HP5 HM5 T6 ⊢
          clear hW6 s0 s2 s4 s5 s6 hap5 hHeld d0 d1 d2 d3 e0 e1 e2 e3 HV
          have g0 : W6.drew.cell? ⟨w.heap.size, 0, none⟩ = some (.pointer (some ⟨fb, 0, none⟩)) := T6.out.1
          have g1 : W6.drew.cell? ⟨fb, 1, none⟩ = some (.slice p2 m2 cc2) := T6.out.2.1
          have g2' : W6.frozen? ⟨fb, 1, none⟩ = false := by have := HP5.out.feed; simp [World.frozen?, this]
          have g2 : W6.drew.frozen? ⟨fb, 1, none⟩ = false := g2'
          have g3 : (W6.drew.setCell ⟨fb, 1, none⟩ (.slice p2 0 cc2)).cell? ⟨w.heap.size, 0, none⟩ = some (.pointer (some ⟨fb, 0, none⟩)) := (HP5.out.clear hfb.2 h2).box.cell
          refine wpIn_region_heldR (fun V => V.cell? ⟨w.heap.size, 0, none⟩ = some (.pointer (some ⟨fb, 0, none⟩))) 9 (by kernel_rfl) (by kernel_rfl) rfl g0 (fun hHeld => ?_)
          refine takeO (v := ?_) 0 rfl (by kernel_rfl) (by kernel_rfl) (by kernel_rfl) (by rfl) ?_ hHeld ?_
          rotate_left
          · intro w hSw
            (try dsimp only at hSw)
            go_simp
            first | done | with_reducible rfl
          simp only [Act.put, List.setIfInBounds_toArray, List.set_cons_zero, List.set_cons_succ]
          refine takeO (v := ?_) 1 rfl (by kernel_rfl) (by kernel_rfl) (by kernel_rfl) (by rfl) ?_ hHeld ?_
          rotate_left
          · intro w hSw
            (try dsimp only at hSw)
            go_simp
            first | done | with_reducible rfl
          simp only [Act.put, List.setIfInBounds_toArray, List.set_cons_zero, List.set_cons_succ]
          refine takeO (v := ?_) 2 rfl (by kernel_rfl) (by kernel_rfl) (by kernel_rfl) (by rfl) ?_ hHeld ?_
          rotate_left
          · intro w hSw
            (try dsimp only at hSw)
            go_simp
            first | done | with_reducible rfl
          simp only [Act.put, List.setIfInBounds_toArray, List.set_cons_zero, List.set_cons_succ]
          refine takeO (v := ?_) 3 rfl (by kernel_rfl) (by kernel_rfl) (by kernel_rfl) (by rfl) ?_ hHeld ?_
          rotate_left
          · intro w hSw
            (try dsimp only at hSw)
            go_simp
            first | done | with_reducible rfl
          simp only [Act.put, List.setIfInBounds_toArray, List.set_cons_zero, List.set_cons_succ]
          refine stepO (v := .slice p2 m2 cc2) 4 rfl (by kernel_rfl) (by rfl) (by go_simp) hHeld ?_
          simp only [Act.put, List.setIfInBounds_toArray, List.set_cons_zero, List.set_cons_succ]
          refine takeO (v := ?_) 5 rfl (by kernel_rfl) (by kernel_rfl) (by kernel_rfl) (by rfl) ?_ hHeld ?_
          rotate_left
          · intro w hSw
            (try dsimp only at hSw)
            go_simp
            first | done | with_reducible rfl
          simp only [Act.put, List.setIfInBounds_toArray, List.set_cons_zero, List.set_cons_succ]
          refine takeO (v := ?_) 6 rfl (by kernel_rfl) (by kernel_rfl) (by kernel_rfl) (by rfl) ?_ hHeld ?_
          rotate_left
          · intro w hSw
            (try dsimp only at hSw)
            go_simp
            first | done | with_reducible rfl
          simp only [Act.put, List.setIfInBounds_toArray, List.set_cons_zero, List.set_cons_succ]
          refine takeO (v := ?_) 7 rfl (by kernel_rfl) (by kernel_rfl) (by kernel_rfl) (by rfl) ?_ hHeld ?_
          rotate_left
          · intro w hSw
            (try dsimp only at hSw)
            go_simp
            first | done | with_reducible rfl
          simp only [Act.put, List.setIfInBounds_toArray, List.set_cons_zero, List.set_cons_succ]
          refine skipO 8 rfl (by kernel_rfl) (by rfl) (by go_simp) g3 ?_
          simp only [Act.put, List.setIfInBounds_toArray, List.set_cons_zero, List.set_cons_succ]
          refine doneO (by kernel_rfl) ?_
          gi_wp2
          have HQ := (HP5.out.keeps (W' := W6.drew) (fun _ _ _ _ _ => rfl) HP5.out.frm.drew (Nat.le_refl _)).clear hfb.2 h2
          have m8 : Mv G (w.heap.size + 1 + 1) W6 W6.drew := ⟨Nat.le_refl _, fun _ _ h _ => h, (Below.refl _ _).drew, rfl⟩
          have m9 : Mv G (w.heap.size + 1 + 1) W (W6.drew.setCell ⟨fb, 1, none⟩ (.slice p2 0 cc2)) := (HM5.out.trans m8).trans (Mv.set (W := W6.drew) HP5.out.feed hfb.1 (by omega) _)
          refine ⟨m9.keeps, m9.kp, .slice p2 0 cc2, .slice p5 m5 cc5, ?_⟩
          rw [hsn'.out, if_pos (of_decide_eq_true HE.out), ← hXd'.out]
          exact HQ
        · --USE nrm
          refine stepO (v := ov) (w' := V1) 0 rfl (by kernel_rfl) (by rfl) (by go_simp) ⟨e0, e1, e3⟩ ?_
          simp only [Act.put, List.setIfInBounds_toArray, List.set_cons_zero, List.set_cons_succ]
          refine stepO (v := .slice p5 m5 cc5) 7 rfl (by kernel_rfl) (by rfl) (run_appO rfl rfl rfl hap5) ⟨s0, s6, s2⟩ ?_
          simp only [Act.put, List.setIfInBounds_toArray, List.set_cons_zero, List.set_cons_succ]
          refine skipO 8 rfl (by kernel_rfl) (by rfl) (by go_simp) T6.out ?_
          simp only [Act.put, List.setIfInBounds_toArray, List.set_cons_zero, List.set_cons_succ]
          refine doneO (by kernel_rfl) ?_
          gi_wp2
          obtain ⟨W6, hW6⟩ : ∃ W6, W6 = w5.setCell ⟨w.heap.size + 1, 0, none⟩ (.slice p5 m5 cc5) := ⟨_, rfl⟩
          have HP5 := HP5
          have HM5 := HM5
          have T6 := T6
          rw [← hW6] at HP5 HM5 T6 ⊢
          clear hW6 s0 s2 s4 s5 s6 hap5 hHeld d0 d1 d2 d3 e0 e1 e2 e3 HV
          have g0 : W6.drew.cell? ⟨w.heap.size, 0, none⟩ = some (.pointer (some ⟨fb, 0, none⟩)) := T6.out.1
          have g1 : W6.drew.cell? ⟨fb, 1, none⟩ = some (.slice p2 m2 cc2) := T6.out.2.1
          have g2' : W6.frozen? ⟨fb, 1, none⟩ = false := by have := HP5.out.feed; simp [World.frozen?, this]
          have g2 : W6.drew.frozen? ⟨fb, 1, none⟩ = false := g2'
          have g3 : (W6.drew.setCell ⟨fb, 1, none⟩ (.slice p2 0 cc2)).cell? ⟨w.heap.size, 0, none⟩ = some (.pointer (some ⟨fb, 0, none⟩)) := (HP5.out.clear hfb.2 h2).box.cell
          refine wpIn_region_heldR (fun V => V.cell? ⟨w.heap.size, 0, none⟩ = some (.pointer (some ⟨fb, 0, none⟩))) 9 (by kernel_rfl) (by kernel_rfl) rfl g0 (fun hHeld => ?_)
          refine takeO (v := ?_) 0 rfl (by kernel_rfl) (by kernel_rfl) (by kernel_rfl) (by rfl) ?_ hHeld ?_
          rotate_left
          · intro w hSw
            (try dsimp only at hSw)
            go_simp
            first | done | with_reducible rfl
          simp only [Act.put, List.setIfInBounds_toArray, List.set_cons_zero, List.set_cons_succ]
          refine takeO (v := ?_) 1 rfl (by kernel_rfl) (by kernel_rfl) (by kernel_rfl) (by rfl) ?_ hHeld ?_
          rotate_left
          · intro w hSw
            (try dsimp only at hSw)
            go_simp
            first | done | with_reducible rfl
          simp only [Act.put, List.setIfInBounds_toArray, List.set_cons_zero, List.set_cons_succ]
          refine takeO (v := ?_) 2 rfl (by kernel_rfl) (by kernel_rfl) (by kernel_rfl) (by rfl) ?_ hHeld ?_
          rotate_left
          · intro w hSw
            (try dsimp only at hSw)
            go_simp
            first | done | with_reducible rfl
          simp only [Act.put, List.setIfInBounds_toArray, List.set_cons_zero, List.set_cons_succ]
          refine takeO (v := ?_) 3 rfl (by kernel_rfl) (by kernel_rfl) (by kernel_rfl) (by rfl) ?_ hHeld ?_
          rotate_left
          · intro w hSw
            (try dsimp only at hSw)
            go_simp
            first | done | with_reducible rfl
          simp only [Act.put, List.setIfInBounds_toArray, List.set_cons_zero, List.set_cons_succ]
          refine stepO (v := .slice p2 m2 cc2) 4 rfl (by kernel_rfl) (by rfl) (by go_simp) hHeld ?_
          simp only [Act.put, List.setIfInBounds_toArray, List.set_cons_zero, List.set_cons_succ]
          refine takeO (v := ?_) 5 rfl (by kernel_rfl) (by kernel_rfl) (by kernel_rfl) (by rfl) ?_ hHeld ?_
          rotate_left
          · intro w hSw
            (try dsimp only at hSw)
            go_simp
            first | done | with_reducible rfl
          simp only [Act.put, List.setIfInBounds_toArray, List.set_cons_zero, List.set_cons_succ]
          refine takeO (v := ?_) 6 rfl (by kernel_rfl) (by kernel_rfl) (by kernel_rfl) (by rfl) ?_ hHeld ?_
          rotate_left
          · intro w hSw
            (try dsimp only at hSw)
            go_simp
            first | done | with_reducible rfl
          simp only [Act.put, List.setIfInBounds_toArray, List.set_cons_zero, List.set_cons_succ]
          refine takeO (v := ?_) 7 rfl (by kernel_rfl) (by kernel_rfl) (by kernel_rfl) (by rfl) ?_ hHeld ?_
          rotate_left
          · intro w hSw
            (try dsimp only at hSw)
            go_simp
            first | done | with_reducible rfl
          simp only [Act.put, List.setIfInBounds_toArray, List.set_cons_zero, List.set_cons_succ]
          refine skipO 8 rfl (by kernel_rfl) (by rfl) (by go_simp) g3 ?_
          simp only [Act.put, List.setIfInBounds_toArray, List.set_cons_zero, List.set_cons_succ]
          refine doneO (by kernel_rfl) ?_
          gi_wp2
          have HQ := (HP5.out.keeps (W' := W6.drew) (fun _ _ _ _ _ => rfl) HP5.out.frm.drew (Nat.le_refl _)).clear hfb.2 h2
          have m8 : Mv G (w.heap.size + 1 + 1) W6 W6.drew := ⟨Nat.le_refl _, fun _ _ h _ => h, (Below.refl _ _).drew, rfl⟩
          have m9 : Mv G (w.heap.size + 1 + 1) W (W6.drew.setCell ⟨fb, 1, none⟩ (.slice p2 0 cc2)) := (HM5.out.trans m8).trans (Mv.set (W := W6.drew) HP5.out.feed hfb.1 (by omega) _)
          refine ⟨m9.keeps, m9.kp, .slice p2 0 cc2, .slice p5 m5 cc5, ?_⟩
          rw [hsn'.out, if_pos (of_decide_eq_true HE.out), ← hXd'.out]
          exact HQ
  case done =>
    rintro D ys W hD rfl ⟨fv, ov, h⟩ hK
    have hlin : (linB chunk).map (fun x : ByteArray => x.data.toList) = linN chunk.data.toList := by
      unfold linB
      rw [List.map_map]
      exact (List.map_congr_left fun l _ => by simp).trans (List.map_id _)
    rw [hlin, pushL_lin _ _ hr] at h
    have hc := h.out.cell
    have h9 := h.abide (grownBy_putObj' W D (.deferred none)) (fun r e => by cases e; exact ⟨hD, _, hK, rfl⟩) (by omega)
    gi_wp2
    refine ⟨by simp, .inl ⟨_, _, rfl, run_takeDeferred hK, ?_⟩⟩
    exact ⟨_, results_tmp rfl _ _ _, ov, fv, rfl, h9.oq, fun k e => by have := h9.own k e; omega, h9.feed, h9.fq, h9.fr, h9.frm⟩
end Go.Proofs.YtjoipgekmnnlpaaGreatDoor
