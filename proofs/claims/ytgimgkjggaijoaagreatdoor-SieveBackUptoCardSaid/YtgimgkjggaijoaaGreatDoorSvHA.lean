/- Walks: the reader of filter scripts: front, fail, take, mark, must, name. Walks: the reader of filter scripts: texts, args. Walks: the reader of filter scripts: args. Walks: the reader of filter scripts: test, tests. -/
import Derived.Test.YtgimgkjggaijoaaGreatDoorSvPl
import Derived.Test.YtgimgkjggaijoaaGreatDoorKitN
import Derived.Test.YtgimgkjggaijoaaGreatDoorLxK
import Derived.Deep.QuietTactic
import Derived.BigQuiet
import Derived.WalkMore
namespace Go.Proofs.YtgimgkjggaijoaaGreatDoor
open Go.RowKit Pk Lx Sv

def lexV (x : Lex) : Value := .agg #[.int .i64 x.k, .string x.t, .int .i64 x.n, .int .i64 x.a]
def zeroL (E : Int) : Lex := ⟨0, ⟨#[]⟩, 0, E⟩
/-- the token that front hands out -/
def frontL (E wr : Int) (l : List Lex) : Lex := if wr = 0 then (match l with | [] => zeroL E | x :: _ => x) else zeroL E
/-- the reader's block -/
def RdrV (w : World) (rb : Nat) (v : Value) (E wr a : Int) : Prop := w.heap[rb]? = some (.cells #[v, .int .i64 E, .int .i64 wr, .int .i64 a] 53)
def Rdr (w : World) (rb : Nat) (l : List Lex) (E wr a : Int) : Prop := ∃ v, RdrV w rb v E wr a ∧ ReadsR lexLay w (· < rb) v l
theorem RdrV.cells {w : World} {rb : Nat} {v : Value} {E wr a : Int} (h : RdrV w rb v E wr a) :
    w.cell? ⟨rb, 0, none⟩ = some v ∧ w.cell? ⟨rb, 1, none⟩ = some (.int .i64 E) ∧ w.cell? ⟨rb, 2, none⟩ = some (.int .i64 wr) ∧ w.cell? ⟨rb, 3, none⟩ = some (.int .i64 a) := by
  unfold RdrV at h
  unfold World.cell?
  simp [h]
theorem RdrV.frz {w : World} {rb : Nat} {v : Value} {E wr a : Int} (h : RdrV w rb v E wr a) (o : Nat) : w.frozen? ⟨rb, o, none⟩ = false := by
  unfold RdrV at h
  unfold World.frozen?
  simp [h]
theorem RdrV.lt {w : World} {rb : Nat} {v : Value} {E wr a : Int} (h : RdrV w rb v E wr a) : rb < w.heap.size := lt_of_block h
theorem RdrV.alloc {w : World} {rb : Nat} {v : Value} {E wr a : Int} (h : RdrV w rb v E wr a) (o : Obj) : RdrV (w.alloc o) rb v E wr a := (heap_alloc_old w o h.lt).trans h
theorem Rdr.lt {w : World} {rb : Nat} {l : List Lex} {E wr a : Int} (h : Rdr w rb l E wr a) : rb < w.heap.size := by
  obtain ⟨v, h1, -⟩ := h
  exact h1.lt
theorem Rdr.below {w w' : World} {rb : Nat} {l : List Lex} {E wr a : Int} (h : Rdr w rb l E wr a) (hb : Below w.heap.size w w') : Rdr w' rb l E wr a := by
  have hl := h.lt
  obtain ⟨v, h1, h2⟩ := h
  exact ⟨v, (hb.block rb hl).trans h1, h2.keeps (fun g _ hg => hb.block g hg) hb.size fun _ h => h⟩
theorem reads_cons {w : World} {X : Nat → Prop} {v : Value} {x : Lex} {r : List Lex} (h : ReadsR lexLay w X v (x :: r)) :
    ∃ g o c, v = .slice (some ⟨g, o, none⟩) (r.length + 1) c ∧ r.length + 1 ≤ c ∧ X g ∧ g < w.heap.size ∧
      (w.cell? ⟨g, o, none⟩ = some (.int .i64 x.k) ∧ w.cell? ⟨g, o + 1, none⟩ = some (.string x.t) ∧ w.cell? ⟨g, o + 2, none⟩ = some (.int .i64 x.n) ∧ w.cell? ⟨g, o + 3, none⟩ = some (.int .i64 x.a)) ∧
      ∀ p c', (r ≠ [] → p = some ⟨g, o + 4, none⟩) → r.length ≤ c' → ReadsR lexLay w X (.slice p r.length c') r := by
  obtain ⟨p, c, rfl, h2, h3⟩ := h
  rcases h3 with h3 | ⟨g, o, rfl, h5, h6, h7⟩
  · cases h3
  · refine ⟨g, o, c, rfl, h2, h5, h6, ?_, fun p c' hp hc => ⟨p, c', rfl, hc, ?_⟩⟩
    · have e0 := h7 0 (by simp) 0 _ rfl
      have e1 := h7 0 (by simp) 1 _ rfl
      have e2 := h7 0 (by simp) 2 _ rfl
      have e3 := h7 0 (by simp) 3 _ rfl
      simp only [Nat.zero_mul, Nat.add_zero] at e0 e1 e2 e3
      exact ⟨e0, e1, e2, e3⟩
    · by_cases hr : r = []
      · exact .inl hr
      · refine .inr ⟨g, o + 4, hp hr, h5, h6, fun j hj i u hu => ?_⟩
        have := h7 (j + 1) (by rw [List.length_cons]; omega) i u (by simpa using hu)
        rw [show o + 4 + j * lexLay.k + i = o + (j + 1) * lexLay.k + i by rw [Nat.succ_mul]; show _ = o + (j * lexLay.k + 4) + i; omega]
        exact this
theorem reads_nil {w : World} {X : Nat → Prop} {v : Value} (h : ReadsR lexLay w X v []) : ∃ p c, v = .slice p 0 c := by
  obtain ⟨p, c, rfl, -, -⟩ := h
  exact ⟨p, c, rfl⟩
theorem grownBy_set (W : World) (b o : Nat) (v : Value) : W.grownBy (W.setCell ⟨b, o, none⟩ v) (some b) :=
  ⟨rfl, rfl, rfl, by simp [World.setCell], fun k _ hk => Below.heap_setCell W ⟨b, o, none⟩ v k (fun e => hk (by rw [e]))⟩
theorem block_set (w : World) (b o : Nat) (v : Value) {cs : Array Value} {t : TypeId} {f : Nat × Nat} (h : w.heap[b]? = some (.cells cs t f)) : (w.setCell ⟨b, o, none⟩ v).heap[b]? = some (.cells (cs.setIfInBounds o v) t f) := by
  obtain ⟨hlt, hk⟩ := Array.getElem?_eq_some_iff.1 h
  show (w.heap.modify b _)[b]? = _
  rw [Array.getElem?_eq_getElem (by rw [Array.size_modify]; exact hlt), Array.getElem_modify_self, hk]
  rfl
theorem RdrV.set0 {w : World} {rb : Nat} {v : Value} {E wr a : Int} (h : RdrV w rb v E wr a) (u : Value) : RdrV (w.setCell ⟨rb, 0, none⟩ u) rb u E wr a := block_set w rb 0 u h
theorem RdrV.set2 {w : World} {rb : Nat} {v : Value} {E wr a : Int} (h : RdrV w rb v E wr a) (u : Int) : RdrV (w.setCell ⟨rb, 2, none⟩ (.int .i64 u)) rb v E u a := block_set w rb 2 _ h
theorem RdrV.set3 {w : World} {rb : Nat} {v : Value} {E wr a : Int} (h : RdrV w rb v E wr a) (u : Int) : RdrV (w.setCell ⟨rb, 3, none⟩ (.int .i64 u)) rb v E wr u := block_set w rb 3 _ h
theorem grown_trans {a b c : World} {r : Option Nat} (h : a.grownBy b r) (k : b.grownBy c r) : a.grownBy c r :=
  ⟨k.os.trans h.os, k.tape.trans h.tape, k.output.trans h.output, Nat.le_trans h.size k.size, fun i hi hr => (k.block i (Nat.lt_of_lt_of_le hi h.size) hr).trans (h.block i hi hr)⟩
theorem below_grown {a b : World} (h : Below a.heap.size a b) (r : Option Nat) : a.grownBy b r := ⟨h.os, h.tape, h.output, h.size, fun i hi _ => h.block i hi⟩
set_option maxHeartbeats 4000000 in
set_option maxRecDepth 100000 in
theorem front_any (rb : Nat) (l : List Lex) (E wr a : Int) (w : World) (h : Rdr w rb l E wr a) : Calls Tryz.prog 67 #[.pointer (some ⟨rb, 0, none⟩)] w fun e w' => e = .returned (lexV (frontL E wr l)) ∧ Below w.heap.size w w' := by
  have hlt := h.lt
  obtain ⟨v, h1, h2⟩ := h
  have hA := fun cs => (Below.refl w.heap.size w).alloc (Nat.le_refl _) cs
  obtain ⟨c0, c1, c2, -⟩ := h1.cells
  cases l with
  | nil =>
    obtain ⟨p, c, rfl⟩ := reads_nil h2
    have hF : lexV (frontL E wr []) = .agg #[.int .i64 0, .string ⟨#[]⟩, .int .i64 0, .int .i64 E] := by unfold frontL; split <;> rfl
    rw [hF]
    have HA := Lib.hid hA
    have d0 := fun cs => cell_later (hA cs) c0
    have d1 := fun cs => cell_later (hA cs) c1
    clear h1 h2 hF hA
    go_enter Tryz.func67, Tryz.ntmps67
    go_wp2
    (try simp only [Exit.inBlock, Exit.then])
    refine bodyPost_ret (v := (.agg #[.int .i64 0, .string ⟨#[]⟩, .int .i64 0, .int .i64 E])) (by simp [results, Tryz.results67, go_sem, *]) rfl ?_
    exact ⟨rfl, HA.out _⟩
  | cons x r =>
    obtain ⟨g, o, c, rfl, h3, h4, h5, ⟨e0, e1, e2, e3⟩, -⟩ := reads_cons h2
    have d0 := fun cs => cell_later (hA cs) c0
    have d1 := fun cs => cell_later (hA cs) c1
    have d2 := fun cs => cell_later (hA cs) c2
    have f0 := fun cs => cell_later (hA cs) e0
    have f1 := fun cs => cell_later (hA cs) e1
    have f2 := fun cs => cell_later (hA cs) e2
    have f3 := fun cs => cell_later (hA cs) e3
    have HA := Lib.hid hA
    have q1 : (((r.length : Int) + 1) == 0) = false := beq_eq_false_iff_ne.2 (by omega)
    clear hA h1 h2
    by_cases hw : wr = 0
    · subst hw
      have hF : lexV (frontL E 0 (x :: r)) = .agg #[.int .i64 x.k, .string x.t, .int .i64 x.n, .int .i64 x.a] := rfl
      rw [hF]
      clear hF
      go_enter Tryz.func67, Tryz.ntmps67
      go_wp2
      (try simp only [Exit.inBlock, Exit.then])
      refine bodyPost_ret (v := (.agg #[.int .i64 x.k, .string x.t, .int .i64 x.n, .int .i64 x.a])) (by simp [results, Tryz.results67, go_sem, *]) rfl ?_
      exact ⟨rfl, HA.out _⟩
    · have q2 : (wr != 0) = true := bne_iff_ne.2 hw
      have hF : lexV (frontL E wr (x :: r)) = .agg #[.int .i64 0, .string ⟨#[]⟩, .int .i64 0, .int .i64 E] := by unfold frontL; rw [if_neg hw]; rfl
      rw [hF]
      clear hF hw
      go_enter Tryz.func67, Tryz.ntmps67
      go_wp2
      (try simp only [Exit.inBlock, Exit.then])
      refine bodyPost_ret (v := (.agg #[.int .i64 0, .string ⟨#[]⟩, .int .i64 0, .int .i64 E])) (by simp [results, Tryz.results67, go_sem, *]) rfl ?_
      exact ⟨rfl, HA.out _⟩
/-- the first error stays -/
def errE (wr e : Int) : Int := if wr = 0 then e else wr
def errP (wr a a1 : Int) : Int := if wr = 0 then a1 else a
set_option maxRecDepth 100000 in
theorem fail_any (rb : Nat) (l : List Lex) (E wr a e1 a1 : Int) (w : World) (h : Rdr w rb l E wr a) : Calls Tryz.prog 65 #[.pointer (some ⟨rb, 0, none⟩), .int .i64 e1, .int .i64 a1] w fun e w' => e = .returned (.tuple #[]) ∧ Rdr w' rb l E (errE wr e1) (errP wr a a1) ∧ w.grownBy w' (some rb) := by
  unfold errE errP
  obtain ⟨v, h1, h2⟩ := h
  obtain ⟨-, -, c2, c3⟩ := h1.cells
  by_cases hw : wr = 0
  · subst hw
    have hR : Rdr ((w.setCell ⟨rb, 2, none⟩ (.int .i64 e1)).setCell ⟨rb, 3, none⟩ (.int .i64 a1)) rb l E e1 a1 := by
      refine ⟨v, (h1.set2 e1).set3 a1, ?_⟩
      have hg := grown_trans (grownBy_set w rb 2 (.int .i64 e1)) (grownBy_set _ rb 3 (.int .i64 a1))
      exact h2.keeps (fun g hgl hg2 => hg.block g hg2 (fun e => by injection e with e; omega)) hg.size fun _ h => h
    have hG := grown_trans (grownBy_set w rb 2 (.int .i64 e1)) (grownBy_set _ rb 3 (.int .i64 a1))
    have HR := Lib.hid hR
    have HG := Lib.hid hG
    rw [if_pos rfl, if_pos rfl]
    have f2 := h1.frz 2
    have f3 := (h1.set2 e1).frz 3
    have c4 := (h1.set2 e1).cells.2.2.2
    clear hR hG h1 h2
    go_enter Tryz.func65, Tryz.ntmps65
    go_wp2
    refine bodyPost_end (results_none rfl _ _ _) (by rfl) ?_
    exact ⟨rfl, HR.out, HG.out⟩
  · have q : (wr == 0) = false := beq_eq_false_iff_ne.2 hw
    rw [if_neg hw, if_neg hw]
    have HR := Lib.hid (show Rdr w rb l E wr a from ⟨v, h1, h2⟩)
    clear h1 h2 hw
    go_enter Tryz.func65, Tryz.ntmps65
    go_wp2
    refine bodyPost_end (results_none rfl _ _ _) (by rfl) ?_
    exact ⟨rfl, HR.out, below_grown (Below.refl _ _) _⟩
theorem Rdr.next {w : World} {rb : Nat} {v : Value} {E a : Int} {x : Lex} {r : List Lex} (h1 : RdrV w rb v E 0 a) (p : Option Addr) (c : Nat) (hr : ReadsR lexLay w (· < rb) (.slice p r.length c) r) :
    Rdr (w.setCell ⟨rb, 0, none⟩ (.slice p r.length c)) rb r E 0 a :=
  ⟨_, h1.set0 _, hr.keeps (fun g hgl hg2 => (grownBy_set w rb 0 _).block g hg2 (fun e => by injection e with e; omega)) (grownBy_set w rb 0 _).size fun _ h => h⟩
set_option maxHeartbeats 4000000 in
set_option maxRecDepth 100000 in
theorem mark_yes (rb : Nat) (x : Lex) (r : List Lex) (E a : Int) (S : ByteArray) (c : UInt8) (hS : S = ⟨#[c]⟩) (w : World) (h : Rdr w rb (x :: r) E 0 a) (hm : isM c (x :: r) = true) : Calls Tryz.prog 34 #[.pointer (some ⟨rb, 0, none⟩), .string S] w fun e w' => e = .returned (.bool true) ∧ Rdr w' rb r E 0 a ∧ w.grownBy w' (some rb) := by
  have HFr := Lib.hid (front_any rb (x :: r) E 0 a w h)
  have hHb := fun w1 (hb : Below w.heap.size w w1) => h.below hb
  have HH := Lib.hid hHb
  unfold isM at hm
  rw [Bool.and_eq_true] at hm
  have k5 : x.k = 5 := of_decide_eq_true hm.1
  have q1 : (x.k != 5) = false := by rw [k5]; rfl
  have q2 : (x.t.toList == S.toList) = true := by
    rw [hS, Lib.toList_data, beq_iff_eq.1 hm.2, Lib.toList_data]; simp
  clear hHb hm k5 hS
  have hF : frontL E 0 (x :: r) = x := rfl
  rw [hF] at HFr
  unfold lexV at HFr
  clear hF h
  go_enter Tryz.func34, Tryz.ntmps34
  go_wp2_with fail
  refine HFr.out.mono ?_
  rintro e w1 ⟨rfl, hb1⟩
  obtain ⟨v, h1, h2⟩ := HH.out w1 hb1
  obtain ⟨g, o, c0, rfl, h3, h4, h5, -, h6⟩ := reads_cons h2
  have d0 := fun cs => (h1.alloc cs).cells.1
  have f0 := fun cs => (h1.alloc cs).frz 0
  have hG := fun cs u => grown_trans (below_grown (hb1.trans (((Below.refl w1.heap.size w1).alloc (Nat.le_refl _) cs).mono hb1.size)) (some rb)) (grownBy_set (w1.alloc cs) rb 0 u)
  have hN := fun cs p c1 hp hc => Rdr.next (x := x) (h1.alloc cs) p c1 ((h6 p c1 hp hc).keeps (fun g _ hg => heap_alloc_old w1 cs hg) (by simp) fun _ h => h)
  have HG := Lib.hid hG
  have HN := Lib.hid hN
  clear hG hN h1 h2 h6 HH
  by_cases hc : c0 = 1
  · subst hc
    have hr : r = [] := List.eq_nil_of_length_eq_zero (by omega)
    subst hr
    go_wp2
    go_ret
    exact ⟨rfl, HN.out _ _ 0 (fun h => absurd rfl h) (Nat.le_refl _), HG.out _ _⟩
  · go_wp2
    go_ret
    exact ⟨rfl, HN.out _ _ (c0 - 1) (fun _ => rfl) (by omega), HG.out _ _⟩
set_option maxHeartbeats 4000000 in
set_option maxRecDepth 100000 in
theorem mark_no (rb : Nat) (l : List Lex) (E wr a : Int) (S : ByteArray) (c : UInt8) (hS : S = ⟨#[c]⟩) (w : World) (h : Rdr w rb l E wr a) (hm : wr = 0 → isM c l = false) : Calls Tryz.prog 34 #[.pointer (some ⟨rb, 0, none⟩), .string S] w fun e w' => e = .returned (.bool false) ∧ Below w.heap.size w w' := by
  have hFr := front_any rb l E wr a w h
  have hA := fun w1 (hb : Below w.heap.size w w1) cs => hb.trans (((Below.refl w1.heap.size w1).alloc (Nat.le_refl _) cs).mono hb.size)
  have hq : (frontL E wr l).k = 5 → ((frontL E wr l).t.toList == S.toList) = false := fun h5 => by
    unfold frontL at h5 ⊢
    by_cases hw : wr = 0
    · rw [if_pos hw] at h5 ⊢
      cases l with
      | nil => exact absurd (show (0 : Int) = 5 from h5) (by decide)
      | cons x r =>
        have := show (decide (x.k = 5) && (x.t.data.toList == [c])) = false from hm hw
        rw [decide_eq_true (show x.k = 5 from h5), Bool.true_and] at this
        rw [hS, Lib.toList_data, Lib.toList_data]
        exact this
    · rw [if_neg hw] at h5
      exact absurd (show (0 : Int) = 5 from h5) (by decide)
  have HFr := Lib.hid hFr
  have HA := Lib.hid hA
  generalize frontL E wr l = x at *
  unfold lexV at HFr
  clear hFr hA h hm hS
  by_cases k5 : x.k = 5
  · have q1 : (x.k != 5) = false := by rw [k5]; rfl
    have q2 := hq k5
    clear hq k5
    go_enter Tryz.func34, Tryz.ntmps34
    go_wp2_with fail
    refine HFr.out.mono ?_
    rintro e w1 ⟨rfl, hb1⟩
    go_wp2
    go_ret
    exact ⟨rfl, HA.out _ hb1 _⟩
  · have q1 : (x.k != 5) = true := bne_iff_ne.2 k5
    clear hq k5
    go_enter Tryz.func34, Tryz.ntmps34
    go_wp2_with fail
    refine HFr.out.mono ?_
    rintro e w1 ⟨rfl, hb1⟩
    go_wp2
    go_ret
    exact ⟨rfl, HA.out _ hb1 _⟩
set_option maxHeartbeats 4000000 in
set_option maxRecDepth 100000 in
theorem must_yes (rb : Nat) (x : Lex) (r : List Lex) (E a : Int) (S : ByteArray) (c : UInt8) (hS : S = ⟨#[c]⟩) (w : World) (h : Rdr w rb (x :: r) E 0 a) (hm : isM c (x :: r) = true) : Calls Tryz.prog 35 #[.pointer (some ⟨rb, 0, none⟩), .string S] w fun e w' => e = .returned (.tuple #[]) ∧ Rdr w' rb r E 0 a ∧ w.grownBy w' (some rb) := by
  have HM := Lib.hid (mark_yes rb x r E a S c hS w h hm)
  clear h hm hS
  go_enter Tryz.func35, Tryz.ntmps35
  go_wp2_with fail
  refine HM.out.mono ?_
  rintro e w1 ⟨rfl, h1, h2⟩
  go_wp2
  refine bodyPost_end (results_none rfl _ _ _) (by rfl) ?_
  exact ⟨rfl, h1, h2⟩
theorem fld3 (x : Lex) (w : World) : (Instr.field 41 (.agg #[.int .i64 x.k, .string x.t, .int .i64 x.n, .int .i64 x.a]) 3).run Tryz.prog w = .ok (.int .i64 x.a) w := by kernel_rfl
theorem fld0 (x : Lex) (w : World) : (Instr.field 41 (.agg #[.int .i64 x.k, .string x.t, .int .i64 x.n, .int .i64 x.a]) 0).run Tryz.prog w = .ok (.int .i64 x.k) w := by kernel_rfl
set_option maxHeartbeats 4000000 in
set_option maxRecDepth 100000 in
theorem must_no (rb : Nat) (l : List Lex) (E wr a : Int) (S : ByteArray) (c : UInt8) (hS : S = ⟨#[c]⟩) (w : World) (h : Rdr w rb l E wr a) (hm : wr = 0 → isM c l = false) : Calls Tryz.prog 35 #[.pointer (some ⟨rb, 0, none⟩), .string S] w fun e w' => e = .returned (.tuple #[]) ∧ Rdr w' rb l E (errE wr 2) (errP wr a (atL E l)) ∧ w.grownBy w' (some rb) := by
  have HM := Lib.hid (mark_no rb l E wr a S c hS w h hm)
  have HF := Lib.hid (fun w1 (hb : Below w.heap.size w w1) => front_any rb l E wr a w1 (h.below hb))
  have HG := Lib.hid (fun w1 (hb : Below w.heap.size w w1) => fail_any rb l E wr a 2 (frontL E wr l).a w1 (h.below hb))
  have he : errP wr a (frontL E wr l).a = errP wr a (atL E l) := by
    unfold errP frontL
    by_cases hw : wr = 0
    · rw [if_pos hw, if_pos hw, if_pos hw]; cases l <;> rfl
    · rw [if_neg hw, if_neg hw]
  unfold lexV at HF
  rw [he] at HG
  generalize frontL E wr l = x at *
  clear he h hm hS
  have hfd := fld3 x
  go_enter Tryz.func35, Tryz.ntmps35
  go_wp2_with fail
  refine HM.out.mono ?_
  rintro e w1 ⟨rfl, hb1⟩
  go_wp2_with fail
  refine (HF.out w1 hb1).mono ?_
  rintro e w2 ⟨rfl, hb2⟩
  replace hb2 := hb1.trans (hb2.mono hb1.size)
  go_wp2_with fail
  refine (HG.out w2 hb2).mono ?_
  rintro e w3 ⟨rfl, h1, h2⟩
  go_wp2
  refine bodyPost_end (results_none rfl _ _ _) (by rfl) ?_
  exact ⟨rfl, h1, grown_trans (below_grown hb2 _) h2⟩
theorem below_drawS (w : World) (n : Nat) : Below w.heap.size w (w.drewN n) := ⟨rfl, rfl, rfl, Nat.le_refl _, fun _ _ => rfl⟩
theorem below_fresh {a b c : World} {k : Nat} (h : Below a.heap.size a b) (hg : b.grownBy c (some k)) (hk : a.heap.size ≤ k) : Below a.heap.size a c :=
  ⟨hg.os.trans h.os, hg.tape.trans h.tape, hg.output.trans h.output, Nat.le_trans h.size hg.size, fun i hi => (hg.block i (Nat.lt_of_lt_of_le hi h.size) (fun e => by injection e with e; omega)).trans (h.block i hi)⟩
/-- the reader stands when a block past it changes -/
theorem Rdr.grown {w w' : World} {rb b : Nat} {l : List Lex} {E wr a : Int} (h : Rdr w rb l E wr a) (hg : w.grownBy w' (some b)) (hb : rb < b) (_ : True) : Rdr w' rb l E wr a := by
  have hl := h.lt
  obtain ⟨v, h1, h2⟩ := h
  exact ⟨v, (hg.block rb hl (fun e => by injection e with e; omega)).trans h1, h2.keeps (fun g hgl hg2 => hg.block g hg2 (fun e => by injection e with e; omega)) hg.size fun _ h => h⟩
theorem grown_fresh {a b c : World} {r : Option Nat} {k : Nat} (h : a.grownBy b r) (hg : b.grownBy c (some k)) (hk : a.heap.size ≤ k) : a.grownBy c r :=
  ⟨hg.os.trans h.os, hg.tape.trans h.tape, hg.output.trans h.output, Nat.le_trans h.size hg.size, fun i hi hr => (hg.block i (Nat.lt_of_lt_of_le hi h.size) (fun e => by injection e with e; omega)).trans (h.block i hi hr)⟩
set_option maxHeartbeats 4000000 in
set_option maxRecDepth 100000 in
theorem take_yes (rb : Nat) (x : Lex) (r : List Lex) (E a k : Int) (w : World) (h : Rdr w rb (x :: r) E 0 a) (hk : x.k = k) : Calls Tryz.prog 64 #[.pointer (some ⟨rb, 0, none⟩), .int .i64 k] w fun e w' => e = .returned (.tuple #[.agg #[.int .i64 x.k, .string x.t, .int .i64 x.n, .int .i64 x.a], .bool true]) ∧ Rdr w' rb r E 0 a ∧ w.grownBy w' (some rb) := by
  have hA0 := fun cs => (Below.refl w.heap.size w).alloc (Nat.le_refl _) cs
  have HFr := Lib.hid (fun cs => front_any rb (x :: r) E 0 a (w.alloc cs) (h.below (hA0 cs)))
  have HH := Lib.hid (fun w1 (hb : Below w.heap.size w w1) => h.below hb)
  have q1 : (x.k != k) = false := by rw [hk]; simp
  have hr0 : rb < w.heap.size := h.lt
  have HA0 := Lib.hid hA0
  have hF : frontL E 0 (x :: r) = x := rfl
  rw [hF] at HFr
  unfold lexV at HFr
  clear hF h hA0 hk
  go_enter Tryz.func64, Tryz.ntmps64
  go_wp2_with fail
  refine (HFr.out _).mono ?_
  rintro e w1 ⟨rfl, hb1⟩
  have hb := (HA0.out (.cells #[.int .i64 0, .string ⟨#[]⟩, .int .i64 0, .int .i64 0] 41)).trans (hb1.mono (HA0.out _).size)
  have hrb : w1.heap[w.heap.size]? = some (.cells #[.int .i64 0, .string ⟨#[]⟩, .int .i64 0, .int .i64 0] 41) := (hb1.block _ (by simp)).trans (heap_alloc_new w _)
  obtain ⟨v, h1, h2⟩ := HH.out w1 hb
  obtain ⟨g, o, c0, rfl, h3, h4, h5, -, h6⟩ := reads_cons h2
  have d0 := fun cs => (h1.alloc cs).cells.1
  have f0 := fun cs => (h1.alloc cs).frz 0
  have hrs : w.heap.size < w1.heap.size := lt_of_block hrb
  have hz := fun cs u => (show ((w1.alloc cs).setCell ⟨rb, 0, none⟩ u).heap[w.heap.size]? = some (.cells #[.int .i64 0, .string ⟨#[]⟩, .int .i64 0, .int .i64 0] 41) from ((grownBy_set (w1.alloc cs) rb 0 u).block _ (by simp; omega) (fun e => by injection e with e; omega)).trans ((heap_alloc_old w1 cs hrs).trans hrb))
  have hN := fun cs p c1 hp hc => Rdr.next (x := x) (h1.alloc cs) p c1 ((h6 p c1 hp hc).keeps (fun g _ hg => heap_alloc_old w1 cs hg) (by simp) fun _ h => h)
  have hG := fun cs u => grown_trans (below_grown (hb.trans (((Below.refl w1.heap.size w1).alloc (Nat.le_refl _) cs).mono hb.size)) (some rb)) (grownBy_set (w1.alloc cs) rb 0 u)
  have HG := Lib.hid hG
  have HN := Lib.hid hN
  clear hG hN h1 h2 h6 HH
  by_cases hc : c0 = 1
  · subst hc
    have hr : r = [] := List.eq_nil_of_length_eq_zero (by omega)
    subst hr
    go_wp2_with (refine store_agg rfl 41 (.tmp 4) (.tmp 22) rfl w.heap.size #[.int .i64 x.k, .string x.t, .int .i64 x.n, .int .i64 x.a] rfl rfl _ _ (hz _ _) (by kernel_rfl) rfl rfl ?_; intro w2 hw2 hg2; obtain ⟨y0, y1, y2, y3⟩ := cell4 hw2)
    (try simp only [Exit.inBlock, Exit.then])
    refine bodyPost_ret (v := (.tuple #[.agg #[.int .i64 x.k, .string x.t, .int .i64 x.n, .int .i64 x.a], .bool true])) (by simp [results, Tryz.results64, go_sem, *]) rfl ?_
    exact ⟨rfl, Rdr.grown (HN.out _ _ 0 (fun h => absurd rfl h) (Nat.le_refl _)) hg2 hr0 trivial, grown_fresh (HG.out _ _) hg2 (Nat.le_refl _)⟩
  · go_wp2_with (refine store_agg rfl 41 (.tmp 4) (.tmp 22) rfl w.heap.size #[.int .i64 x.k, .string x.t, .int .i64 x.n, .int .i64 x.a] rfl rfl _ _ (hz _ _) (by kernel_rfl) rfl rfl ?_; intro w2 hw2 hg2; obtain ⟨y0, y1, y2, y3⟩ := cell4 hw2)
    (try simp only [Exit.inBlock, Exit.then])
    refine bodyPost_ret (v := (.tuple #[.agg #[.int .i64 x.k, .string x.t, .int .i64 x.n, .int .i64 x.a], .bool true])) (by simp [results, Tryz.results64, go_sem, *]) rfl ?_
    exact ⟨rfl, Rdr.grown (HN.out _ _ (c0 - 1) (fun _ => rfl) (by omega)) hg2 hr0 trivial, grown_fresh (HG.out _ _) hg2 (Nat.le_refl _)⟩
set_option maxHeartbeats 4000000 in
set_option maxRecDepth 100000 in
/-- nothing is taken: another kind, the end, or an error behind it -/
theorem take_no (rb : Nat) (l : List Lex) (E wr a k : Int) (w : World) (h : Rdr w rb l E wr a) (hk : (frontL E wr l).k ≠ k) : Calls Tryz.prog 64 #[.pointer (some ⟨rb, 0, none⟩), .int .i64 k] w fun e w' => e = .returned (.tuple #[lexV (frontL E wr l), .bool false]) ∧ Below w.heap.size w w' := by
  have hA0 := fun cs => (Below.refl w.heap.size w).alloc (Nat.le_refl _) cs
  have HFr := Lib.hid (fun cs => front_any rb l E wr a (w.alloc cs) (h.below (hA0 cs)))
  have HA0 := Lib.hid hA0
  generalize frontL E wr l = x at *
  have q1 : (x.k != k) = true := bne_iff_ne.2 hk
  unfold lexV at HFr ⊢
  clear h hA0 hk
  go_enter Tryz.func64, Tryz.ntmps64
  go_wp2_with fail
  refine (HFr.out _).mono ?_
  rintro e w1 ⟨rfl, hb1⟩
  have hb := (HA0.out (.cells #[.int .i64 0, .string ⟨#[]⟩, .int .i64 0, .int .i64 0] 41)).trans (hb1.mono (HA0.out _).size)
  have hrb : w1.heap[w.heap.size]? = some (.cells #[.int .i64 0, .string ⟨#[]⟩, .int .i64 0, .int .i64 0] 41) := (hb1.block _ (by simp)).trans (heap_alloc_new w _)
  have hrs : w.heap.size < w1.heap.size := lt_of_block hrb
  have hz := fun cs => (heap_alloc_old w1 cs hrs).trans hrb
  have hB := fun cs => hb.trans (((Below.refl w1.heap.size w1).alloc (Nat.le_refl _) cs).mono hb.size)
  have HB := Lib.hid hB
  clear hB
  go_wp2_with (refine store_agg rfl 41 (.tmp 4) (.tmp 13) rfl w.heap.size #[.int .i64 x.k, .string x.t, .int .i64 x.n, .int .i64 x.a] rfl rfl _ _ (hz _) (by kernel_rfl) rfl rfl ?_; intro w2 hw2 hg2; obtain ⟨y0, y1, y2, y3⟩ := cell4 hw2)
  (try simp only [Exit.inBlock, Exit.then])
  refine bodyPost_ret (v := (.tuple #[.agg #[.int .i64 x.k, .string x.t, .int .i64 x.n, .int .i64 x.a], .bool false])) (by simp [results, Tryz.results64, go_sem, *]) rfl ?_
  exact ⟨rfl, below_fresh (HB.out _) hg2 (Nat.le_refl _)⟩
set_option maxHeartbeats 4000000 in
set_option maxRecDepth 100000 in
theorem name_ok (rb : Nat) (x : Lex) (r : List Lex) (E a : Int) (d : Nat) (w : World) (h : Rdr w rb (x :: r) E 0 a) (hk : x.k = 1) (hd : d ≤ 8) : Calls Tryz.prog 31 #[.pointer (some ⟨rb, 0, none⟩), .int .i64 d] w fun e w' => e = .returned (.tuple #[.string x.t, .int .i64 x.a]) ∧ Rdr w' rb r E 0 a ∧ w.grownBy w' (some rb) := by
  have HT := Lib.hid (take_yes rb x r E a 1 w h hk)
  have q : decide ((8 : Int) < (d : Int)) = false := decide_eq_false (by omega)
  clear h hk hd
  go_enter Tryz.func31, Tryz.ntmps31
  go_wp2_with fail
  refine HT.out.mono ?_
  rintro e w1 ⟨rfl, h1, h2⟩
  have hb := (Below.refl w1.heap.size w1).alloc (Nat.le_refl _) (.cells #[.int .i64 x.k, .string x.t, .int .i64 x.n, .int .i64 x.a] 41)
  have h3 := h1.below hb
  have h4 := grown_trans h2 (below_grown hb (some rb))
  go_wp2_with fail
  go_quiet (fail)
  go_wp2_with fail
  go_ret2
  exact ⟨rfl, h3.below (below_drawS _ nq), grown_trans h4 (below_grown (below_drawS _ nq) _)⟩
set_option maxHeartbeats 4000000 in
set_option maxRecDepth 100000 in
theorem name_err (rb : Nat) (l : List Lex) (E a : Int) (d : Nat) (w : World) (h : Rdr w rb l E 0 a) (hk : (frontL E 0 l).k ≠ 1) : Calls Tryz.prog 31 #[.pointer (some ⟨rb, 0, none⟩), .int .i64 d] w fun e w' => (∃ s i, e = .returned (.tuple #[.string s, .int .i64 i])) ∧ Rdr w' rb l E 2 (atL E l) ∧ w.grownBy w' (some rb) := by
  have hrb := h.lt
  have HT := Lib.hid (take_no rb l E 0 a 1 w h hk)
  have HF := Lib.hid (fun w1 (hb : Below w.heap.size w w1) => fail_any rb l E 0 a 2 (frontL E 0 l).a w1 (h.below hb))
  have e1 : errE 0 2 = 2 := rfl
  have e2 : errP 0 a (frontL E 0 l).a = atL E l := by cases l <;> rfl
  rw [e1, e2] at HF
  generalize frontL E 0 l = x at *
  unfold lexV at HT
  clear h hk e1 e2
  go_enter Tryz.func31, Tryz.ntmps31
  go_wp2_with fail
  refine HT.out.mono ?_
  rintro e w1 ⟨rfl, hb1⟩
  have hb := hb1.trans (((Below.refl w1.heap.size w1).alloc (Nat.le_refl _) (.cells #[.int .i64 x.k, .string x.t, .int .i64 x.n, .int .i64 x.a] 41)).mono hb1.size)
  have hn := heap_alloc_new w1 (.cells #[.int .i64 x.k, .string x.t, .int .i64 x.n, .int .i64 x.a] 41)
  go_wp2_with fail
  refine (HF.out _ hb).mono ?_
  rintro e w2 ⟨rfl, h3, h4⟩
  have hne : some w1.heap.size ≠ some rb := fun e => by injection e with e; have := hb1.size; omega
  obtain ⟨y0, y1, y2, y3⟩ := cell4 ((h4.block w1.heap.size (by simp) hne).trans hn)
  go_wp2_with fail
  go_quiet (fail)
  go_wp2_with fail
  go_ret2
  exact ⟨⟨_, _, rfl⟩, h3.below (below_drawS _ nq), grown_trans (grown_trans (below_grown hb _) h4) (below_grown (below_drawS _ nq) _)⟩
set_option maxHeartbeats 4000000 in
set_option maxRecDepth 100000 in
theorem name_deep (rb : Nat) (x : Lex) (r : List Lex) (E a : Int) (d : Nat) (w : World) (h : Rdr w rb (x :: r) E 0 a) (hk : x.k = 1) (hd : 8 < d) : Calls Tryz.prog 31 #[.pointer (some ⟨rb, 0, none⟩), .int .i64 d] w fun e w' => (∃ s i, e = .returned (.tuple #[.string s, .int .i64 i])) ∧ Rdr w' rb r E 10 x.a ∧ w.grownBy w' (some rb) := by
  have hrb := h.lt
  have HT := Lib.hid (take_yes rb x r E a 1 w h hk)
  have HF := Lib.hid (fun w1 (h1 : Rdr w1 rb r E 0 a) => fail_any rb r E 0 a 10 x.a w1 h1)
  have e1 : errE 0 10 = 10 := rfl
  have e2 : errP 0 a x.a = x.a := rfl
  rw [e1, e2] at HF
  have q : decide ((8 : Int) < (d : Int)) = true := decide_eq_true (by omega)
  clear h hk hd e1 e2
  go_enter Tryz.func31, Tryz.ntmps31
  go_wp2_with fail
  refine HT.out.mono ?_
  rintro e w1 ⟨rfl, h1, h2⟩
  have hb := (Below.refl w1.heap.size w1).alloc (Nat.le_refl _) (.cells #[.int .i64 x.k, .string x.t, .int .i64 x.n, .int .i64 x.a] 41)
  have hn := heap_alloc_new w1 (.cells #[.int .i64 x.k, .string x.t, .int .i64 x.n, .int .i64 x.a] 41)
  have hne : some w1.heap.size ≠ some rb := fun e => by injection e with e; have := h1.lt; omega
  go_wp2_with fail
  refine (HF.out _ (h1.below hb)).mono ?_
  rintro e w2 ⟨rfl, h3, h4⟩
  obtain ⟨y0, y1, y2, y3⟩ := cell4 ((h4.block w1.heap.size (by simp) hne).trans hn)
  go_wp2_with fail
  go_quiet (fail)
  go_wp2_with fail
  go_ret2
  exact ⟨⟨_, _, rfl⟩, h3.below (below_drawS _ nq), grown_trans (grown_trans (grown_trans h2 (below_grown hb _)) h4) (below_grown (below_drawS _ nq) _)⟩
end Go.Proofs.YtgimgkjggaijoaaGreatDoor
namespace Go.Proofs.YtgimgkjggaijoaaGreatDoor
open Go.RowKit Pk Lx Sv

def strL : Lay ByteArray where
  enc := fun x => [.string x]
  k := 1
  hk := fun _ => rfl
  h0 := by decide
  one := fun x u hu => by
    simp only [List.mem_cons, List.not_mem_nil, or_false] at hu
    subst hu; rfl
theorem slS : GSl strL 16 Tryz.prog 37 9 := GSl.of Tryz.underlying37 (by kernel_rfl)
/-- a slice's value -/
structure SlV where
  p : Option Addr
  n : Nat
  c : Nat
def SlV.val (s : SlV) : Value := .slice s.p s.n s.c
/-- an argument as it lies -/
structure RArg where
  k : Int
  tag : ByteArray
  n : Int
  tx : SlV
  ls : Bool
def RArg.cells (x : RArg) : Array Value := #[.int .i64 x.k, .string x.tag, .int .i64 x.n, x.tx.val, .bool x.ls]
def argL : Lay RArg where
  enc := fun x => [.int .i64 x.k, .string x.tag, .int .i64 x.n, x.tx.val, .bool x.ls]
  k := 5
  hk := fun _ => rfl
  h0 := by decide
  one := fun x u hu => by
    simp only [List.mem_cons, List.not_mem_nil, or_false] at hu
    rcases hu with rfl | rfl | rfl | rfl | rfl <;> rfl
theorem slA : GSl argL 64 Tryz.prog 43 50 := GSl.of Tryz.underlying43 (by kernel_rfl)
/-- the blocks between -/
def Fresh (w w' : World) (g : Nat) : Prop := w.heap.size ≤ g ∧ g < w'.heap.size
def ArgAt (w : World) (X : Nat → Prop) (r : RArg) (a : ArgT) : Prop := r.k = a.k ∧ r.tag = a.tag ∧ r.n = a.n ∧ r.ls = a.list ∧ ReadsR strL w X r.tx.val a.texts
def ArgsAt (w : World) (X : Nat → Prop) (v : Value) (L : List ArgT) : Prop := ∃ R : List RArg, ReadsR argL w X v R ∧ R.length = L.length ∧ ∀ j (h1 : j < R.length) (h2 : j < L.length), ArgAt w X R[j] L[j]
theorem ArgAt.keeps {w w' : World} {X Y : Nat → Prop} {r : RArg} {a : ArgT} (h : ArgAt w X r a) (hk : ∀ g, X g → g < w.heap.size → w'.heap[g]? = w.heap[g]?) (hs : w.heap.size ≤ w'.heap.size) (hY : ∀ g, X g → Y g) : ArgAt w' Y r a :=
  ⟨h.1, h.2.1, h.2.2.1, h.2.2.2.1, h.2.2.2.2.keeps hk hs hY⟩
theorem ArgsAt.keeps {w w' : World} {X Y : Nat → Prop} {v : Value} {L : List ArgT} (h : ArgsAt w X v L) (hk : ∀ g, X g → g < w.heap.size → w'.heap[g]? = w.heap[g]?) (hs : w.heap.size ≤ w'.heap.size) (hY : ∀ g, X g → Y g) : ArgsAt w' Y v L := by
  obtain ⟨R, h1, h2, h3⟩ := h
  exact ⟨R, h1.keeps hk hs hY, h2, fun j a b => (h3 j a b).keeps hk hs hY⟩
theorem cell5 {w : World} {g : Nat} {a b c d e : Value} {t : TypeId} {f : Nat × Nat} (h : w.heap[g]? = some (.cells #[a, b, c, d, e] t f)) : w.cell? ⟨g, 0, none⟩ = some a ∧ w.cell? ⟨g, 1, none⟩ = some b ∧ w.cell? ⟨g, 2, none⟩ = some c ∧ w.cell? ⟨g, 3, none⟩ = some d ∧ w.cell? ⟨g, 4, none⟩ = some e := by
  unfold World.cell?
  simp [h]
/-- what texts leaves -/
def TextsPost (w : World) (rb : Nat) (E a : Int) (res : Res (List ByteArray)) (e : Ending) (w' : World) : Prop :=
  w.grownBy w' (some rb) ∧ ∃ s : SlV, e = .returned (.agg #[.int .i64 3, .string ⟨#[]⟩, .int .i64 0, s.val, .bool true]) ∧
    ∃ us, ReadsR strL w' (Fresh w w') s.val us ∧ match res with
    | .ok (ts, r) => Rdr w' rb r E 0 a ∧ ts = us
    | .error (e1, a1) => ∃ r, Rdr w' rb r E e1 a1
/-- how far the texts are read -/
def TextsRun (E : Int) (m : Nat) (l : List Lex) (acc : List ByteArray) (res : Res (List ByteArray)) : Prop := ∃ m' r, m' ≤ m ∧ textsR E m' l = some r ∧ r.map (fun p => (acc ++ p.1, p.2)) = res
theorem tx_bad {E : Int} {m : Nat} {l : List Lex} {acc : List ByteArray} {res : Res (List ByteArray)} (h : TextsRun E m l acc res) (hk : (frontL E 0 l).k ≠ 4) : res = .error (2, atL E l) := by
  obtain ⟨m', r, -, h1, rfl⟩ := h
  cases m' with
  | zero => cases h1
  | succ m' =>
    cases l with
    | nil => injection h1 with h1; rw [← h1]; rfl
    | cons x q =>
      unfold textsR at h1
      rw [if_neg (show ¬ x.k = 4 from hk)] at h1
      injection h1 with h1; rw [← h1]; rfl
theorem tx_more {E : Int} {m : Nat} {x : Lex} {q : List Lex} {acc : List ByteArray} {res : Res (List ByteArray)} (h : TextsRun E m (x :: q) acc res) (hk : x.k = 4) (hm : isM 44 q = true) : TextsRun E m q.tail (acc ++ [x.t]) res := by
  obtain ⟨m', r, h0, h1, rfl⟩ := h
  cases m' with
  | zero => cases h1
  | succ m' =>
    unfold textsR at h1
    rw [if_pos hk, if_pos hm] at h1
    cases ht : textsR E m' q.tail with
    | none => rw [ht] at h1; cases h1
    | some r' =>
      rw [ht] at h1
      injection h1 with h1
      refine ⟨m', r', by omega, ht, ?_⟩
      rw [← h1]
      cases r' with
      | error e => rfl
      | ok p => show Except.ok (acc ++ [x.t] ++ p.1, p.2) = Except.ok (acc ++ (x.t :: p.1), p.2); rw [List.append_assoc]; rfl
theorem tx_end {E : Int} {m : Nat} {x : Lex} {q : List Lex} {acc : List ByteArray} {res : Res (List ByteArray)} (h : TextsRun E m (x :: q) acc res) (hk : x.k = 4) (hm : ¬ isM 44 q = true) : (isM 93 q = true → res = .ok (acc ++ [x.t], q.tail)) ∧ (¬ isM 93 q = true → res = .error (2, atL E q)) := by
  obtain ⟨m', r, h0, h1, rfl⟩ := h
  cases m' with
  | zero => cases h1
  | succ m' =>
    unfold textsR at h1
    rw [if_pos hk, if_neg hm] at h1
    injection h1 with h1
    refine ⟨fun h => ?_, fun h => ?_⟩
    · rw [← h1]; unfold mustR; rw [if_pos h]; rfl
    · rw [← h1]; unfold mustR; rw [if_neg h]; rfl
theorem ownsG_grown {α : Type} {L : Lay α} {w w' : World} {B b : Nat} {e : TypeId} {v : Value} {l : List α} (h : ownsG L w B e v l) (hg : w.grownBy w' (some b)) (hb : b < B) : ownsG L w' B e v l :=
  World.ownsRow.kept h hg (by
    cases hv : v.ownBlock with
    | none => exact .inl rfl
    | some k => exact .inr fun e => by injection e with e; have := (World.ownsRow.lt h k hv).1; omega)
theorem own_slice {α : Type} {L : Lay α} {w : World} {B : Nat} {e : TypeId} {v : Value} {l : List α} (h : ownsG L w B e v l) : ∃ p n c, v = .slice p n c := by
  obtain ⟨p, c, rfl, -⟩ := (h.sees (Nat.le_refl _)).form
  exact ⟨p, _, c, rfl⟩
theorem own_one {α : Type} {L : Lay α} {w : World} {B : Nat} {e : TypeId} {v : Value} {l : List α} (h : ownsG L w B e v l) : ([.int .i64 3, .string ⟨#[]⟩, .int .i64 0, v, .bool true] : List Value).all (·.oneCell') = true := by
  obtain ⟨p, c, rfl, -⟩ := (h.sees (Nat.le_refl _)).form
  rfl
/-- where texts stands: its two boxes, the list, the reader -/
structure TxAt (w : World) (rb : Nat) (E a : Int) (wr : World) (l : List Lex) (acc : List ByteArray) (v : Value) : Prop where
  z0 : wr.heap[w.heap.size]? = some (.cells #[.int .i64 0, .string ⟨#[]⟩, .int .i64 0, .slice none 0 0, .bool false] 50)
  z1 : wr.heap[w.heap.size + 1]? = some (.cells #[.int .i64 3, .string ⟨#[]⟩, .int .i64 0, v, .bool true] 50)
  own : ownsG strL wr (w.heap.size + 2) 9 v acc
  rdr : Rdr wr rb l E 0 a
  grown : w.grownBy wr (some rb)
theorem TxAt.move {w : World} {rb : Nat} {E a : Int} {wr w1 : World} {l : List Lex} {acc : List ByteArray} {v : Value} (h : TxAt w rb E a wr l acc v) (hrb : rb < w.heap.size) (hg : wr.grownBy w1 (some rb)) :
    w1.heap[w.heap.size]? = some (.cells #[.int .i64 0, .string ⟨#[]⟩, .int .i64 0, .slice none 0 0, .bool false] 50) ∧ w1.heap[w.heap.size + 1]? = some (.cells #[.int .i64 3, .string ⟨#[]⟩, .int .i64 0, v, .bool true] 50) ∧ ownsG strL w1 (w.heap.size + 2) 9 v acc ∧ w.grownBy w1 (some rb) :=
  ⟨(hg.block _ (lt_of_block h.z0) (fun e => by injection e with e; omega)).trans h.z0, (hg.block _ (lt_of_block h.z1) (fun e => by injection e with e; omega)).trans h.z1, ownsG_grown h.own hg (by omega), grown_trans h.grown hg⟩
theorem tx_reads {w w8 w9 : World} {v : Value} {acc : List ByteArray} (ho : ownsG strL w8 (w.heap.size + 2) 9 v acc) (hg9 : w8.grownBy w9 (some w.heap.size)) : ReadsR strL w9 (Fresh w w9) v acc :=
  (ho.reads (X := fun g => w.heap.size + 2 ≤ g ∧ g < w8.heap.size) fun g hg => World.ownsRow.lt ho g hg).keeps (fun g hg hg2 => hg9.block g hg2 (fun e => by injection e with e; have := hg.1; omega)) hg9.size fun g hg => ⟨by have := hg.1; omega, Nat.lt_of_lt_of_le hg.2 hg9.size⟩
/-- a text more -/
theorem TxAt.put {w : World} {rb : Nat} {E a : Int} {wr w1 w6 : World} {x : Lex} {l q : List Lex} {acc : List ByteArray} {v v' : Value} (h : TxAt w rb E a wr l acc v) (hrb : rb < w.heap.size) (hg : wr.grownBy w1 (some rb)) (hr : Rdr w1 rb q E 0 a) {o1 o2 : Obj}
    (h6 : ownsG strL w6 (w.heap.size + 2) 9 v' (acc ++ [x.t])) (hg6 : ((w1.alloc o1).alloc o2).grownBy w6 v.ownBlock) : w6.heap[w.heap.size + 1]? = some (.cells #[.int .i64 3, .string ⟨#[]⟩, .int .i64 0, v, .bool true] 50) ∧ TxAt w rb E a (w6.setCell ⟨w.heap.size + 1, 3, none⟩ v') q (acc ++ [x.t]) v' := by
  obtain ⟨z0, z1, ho, hgr⟩ := h.move hrb hg
  have l0 := lt_of_block z0
  have l1 := lt_of_block z1
  have hv : ∀ k, v.ownBlock = some k → w.heap.size + 2 ≤ k := fun k hk => (World.ownsRow.lt ho k hk).1
  have hne : ∀ k, k < w.heap.size + 2 → some k ≠ v.ownBlock := fun k hk e => by have := hv k e.symm; omega
  have hb := ((Below.refl w1.heap.size w1).alloc (Nat.le_refl _) o1).alloc (by simp) o2
  have hs := hb.size
  have y0 := (hg6.block _ (by omega) (hne _ (by omega))).trans ((hb.block _ l0).trans z0)
  have y1 := (hg6.block _ (by omega) (hne _ (by omega))).trans ((hb.block _ l1).trans z1)
  have hr6 : Rdr w6 rb q E 0 a := by
    obtain ⟨u, k1, k2⟩ := hr.below hb
    exact ⟨u, (hg6.block rb (by omega) (hne _ (by omega))).trans k1, k2.keeps (fun g hgl hg2 => hg6.block g hg2 (hne _ (by omega))) hg6.size fun _ h => h⟩
  have hst := grownBy_set w6 (w.heap.size + 1) 3 v'
  refine ⟨y1, (hst.block _ (lt_of_block y0) (fun e => by injection e with e; omega)).trans y0, block_set w6 (w.heap.size + 1) 3 v' y1, ownsG_grown h6 hst (by omega), hr6.grown hst (by omega) trivial, ?_⟩
  have g1 := grown_trans hgr (below_grown hb (some rb))
  refine grown_fresh (k := w.heap.size + 1) ⟨hg6.os.trans g1.os, hg6.tape.trans g1.tape, hg6.output.trans g1.output, Nat.le_trans g1.size hg6.size, fun i hi hr => (hg6.block i (Nat.lt_of_lt_of_le hi g1.size) (hne i (by omega))).trans (g1.block i hi hr)⟩ hst (by omega)
set_option maxHeartbeats 8000000 in
set_option maxRecDepth 100000 in
theorem texts_any (rb : Nat) (l : List Lex) (E a : Int) (m : Nat) (res : Res (List ByteArray)) (w : World) (h : Rdr w rb l E 0 a) (hl : l.length ≤ 4000000) (hm : textsR E m l = some res) : Calls Tryz.prog 66 #[.pointer (some ⟨rb, 0, none⟩)] w (TextsPost w rb E a res) := by
  have hrun : TextsRun E m l [] res := ⟨m, res, Nat.le_refl _, hm, by cases res <;> rfl⟩
  have hrb := h.lt
  have hb0 : Below w.heap.size w ((w.alloc (.cells #[.int .i64 0, .string ⟨#[]⟩, .int .i64 0, .slice none 0 0, .bool false] 50)).alloc (.cells #[.int .i64 3, .string ⟨#[]⟩, .int .i64 0, .slice none 0 0, .bool true] 50)) := ((Below.refl w.heap.size w).alloc (Nat.le_refl _) _).alloc (by simp) _
  have hR := h.below hb0
  go_enter Tryz.func66, Tryz.ntmps66
  go_wp2
  go_loopw [4] (fun _ wr => ∃ l' acc v, TxAt w rb E a wr l' acc v ∧ l'.length + acc.length ≤ 4000000 ∧ TextsRun E m l' acc res) (fun _ wr => match wr.cell? ⟨rb, 0, none⟩ with | some (.slice _ n _) => n | _ => 0)
  case atStart => exact ⟨l, [], .slice none 0 0, ⟨(heap_alloc_old (w.alloc _) _ (by simp)).trans (heap_alloc_new w _), by have := heap_alloc_new (w.alloc (.cells #[.int .i64 0, .string ⟨#[]⟩, .int .i64 0, .slice none 0 0, .bool false] 50)) (.cells #[.int .i64 3, .string ⟨#[]⟩, .int .i64 0, .slice none 0 0, .bool true] 50); simpa using this, ownsG.nil _ _ _ _, hR, below_grown hb0 _⟩, by simpa using hl, hrun⟩
  case round =>
    clear hb0 hR hrun hm h
    obtain ⟨l', acc, v, hT, hlen, hru⟩ := hrel
    have hmeas : (match wr.cell? ⟨rb, 0, none⟩ with | some (.slice _ n _) => n | _ => 0) = l'.length := by
      obtain ⟨u, k1, p, c, rfl, -⟩ := hT.rdr
      rw [k1.cells.1]
    by_cases hk : (frontL E 0 l').k = 4
    · cases l' with
      | nil => exact absurd (show (0 : Int) = 4 from hk) (by decide)
      | cons x q =>
        have HTk := Lib.hid (take_yes rb x q E a 4 wr hT.rdr hk)
        have hxk : x.k = 4 := hk
        clear hk
        go_wp2_with fail
        refine HTk.out.mono ?_
        rintro e w1 ⟨rfl, hr1, hg1⟩
        obtain ⟨z0, z1, ho, hgr⟩ := hT.move hrb hg1
        have yy := fun cs => (cell5 ((heap_alloc_old w1 cs (lt_of_block z1)).trans z1)).2.2.2.1
        have HP := Lib.hid (fun (o1 o2 : Obj) w6 v' h6 hg6 => hT.put (x := x) (w6 := w6) (v' := v') (o1 := o1) (o2 := o2) hrb hg1 hr1 h6 hg6)
        rw [List.length_cons] at hlen
        by_cases h44 : isM 44 q = true
        · have hnx := Lib.hid (tx_more hru hxk h44)
          clear hru
          go_wp2_with (at_builtin; go_loud (refine append_g _ rfl (.tmp 20) (.tmp 23) slS rfl (w.heap.size + 2) _ acc rfl (ownsG.alloc (ownsG.alloc ho _) _) ⟨_, 0, none⟩ [x.t] 1 1 rfl rfl (cells_at _ _ (by simp) _ _) (by omega) (by omega) (by simp; have := lt_of_block z1; omega) ?_; intro v6 w6 hown6 hg6; obtain ⟨p6, n6, c6, rfl⟩ := own_slice hown6; obtain ⟨y1, hT6⟩ := HP.out _ _ w6 _ hown6 hg6; have c3 := (cell5 y1).2.2.2.1; have f3 := frozen_of_row w6 (w.heap.size + 1) 3 _ _ y1; clear hg6 hown6))
          cases q with
          | nil => cases h44
          | cons y q' =>
            refine (mark_yes rb y q' E a ⟨#[44]⟩ 44 rfl _ hT6.rdr h44).mono ?_
            rintro e w7 ⟨rfl, hr7, hg7⟩
            obtain ⟨k0, k1, ko, kg⟩ := hT6.move hrb hg7
            go_wp2
            go_roundw
            case rel => exact ⟨q', acc ++ [x.t], _, ⟨k0, k1, ko, hr7, kg⟩, by rw [List.length_append, List.length_singleton]; rw [List.length_cons] at hlen; omega, hnx.out⟩
            case measure =>
              obtain ⟨u, k1, p, c, rfl, -⟩ := hr7
              simp only [hmeas, k1.cells.1, List.length_cons]
              omega
        · obtain ⟨he1, he2⟩ := tx_end hru hxk h44
          clear hru
          go_wp2_with (at_builtin; go_loud (refine append_g _ rfl (.tmp 20) (.tmp 23) slS rfl (w.heap.size + 2) _ acc rfl (ownsG.alloc (ownsG.alloc ho _) _) ⟨_, 0, none⟩ [x.t] 1 1 rfl rfl (cells_at _ _ (by simp) _ _) (by omega) (by omega) (by simp; have := lt_of_block z1; omega) ?_; intro v6 w6 hown6 hg6; obtain ⟨p6, n6, c6, rfl⟩ := own_slice hown6; obtain ⟨y1, hT6⟩ := HP.out _ _ w6 _ hown6 hg6; have c3 := (cell5 y1).2.2.2.1; have f3 := frozen_of_row w6 (w.heap.size + 1) 3 _ _ y1; clear hg6 hown6))
          refine (mark_no rb q E 0 a ⟨#[44]⟩ 44 rfl _ hT6.rdr (fun _ => by simpa using h44)).mono ?_
          rintro e w7 ⟨rfl, hb7⟩
          go_wp2_with fail
          by_cases h93 : isM 93 q = true
          · obtain rfl := he1 h93
            cases q with
            | nil => cases h93
            | cons y q' =>
              refine (must_yes rb y q' E a ⟨#[93]⟩ 93 rfl _ (hT6.rdr.below hb7) h93).mono ?_
              rintro e w8 ⟨rfl, h8, hg8⟩
              obtain ⟨z08, z18, ho8, hgr8⟩ := hT6.move hrb (grown_trans (below_grown hb7 _) hg8)
              obtain ⟨t0, t1, t2, t3, t4⟩ := cell5 z18
              go_wp2_with (refine store_agg rfl 50 (.tmp 2) (.tmp 31) rfl w.heap.size #[.int .i64 3, .string ⟨#[]⟩, .int .i64 0, .slice p6 n6 c6, .bool true] rfl rfl _ _ z08 (by kernel_rfl) rfl rfl ?_; intro w9 hw9 hg9; obtain ⟨s0, s1, s2, s3, s4⟩ := cell5 hw9)
              (try simp only [Exit.inBlock, Exit.then])
              refine bodyPost_ret (v := (.agg #[.int .i64 3, .string ⟨#[]⟩, .int .i64 0, .slice p6 n6 c6, .bool true])) (by simp [results, Tryz.results66, go_sem, *]) rfl ?_
              exact ⟨grown_fresh hgr8 hg9 (Nat.le_refl _), ⟨p6, n6, c6⟩, rfl, _, tx_reads ho8 hg9, h8.grown hg9 hrb trivial, rfl⟩
          · obtain rfl := he2 h93
            refine (must_no rb q E 0 a ⟨#[93]⟩ 93 rfl _ (hT6.rdr.below hb7) (fun _ => by simpa using h93)).mono ?_
            rintro e w8 ⟨rfl, h8, hg8⟩
            obtain ⟨z08, z18, ho8, hgr8⟩ := hT6.move hrb (grown_trans (below_grown hb7 _) hg8)
            obtain ⟨t0, t1, t2, t3, t4⟩ := cell5 z18
            go_wp2_with (refine store_agg rfl 50 (.tmp 2) (.tmp 31) rfl w.heap.size #[.int .i64 3, .string ⟨#[]⟩, .int .i64 0, .slice p6 n6 c6, .bool true] rfl rfl _ _ z08 (by kernel_rfl) rfl rfl ?_; intro w9 hw9 hg9; obtain ⟨s0, s1, s2, s3, s4⟩ := cell5 hw9)
            (try simp only [Exit.inBlock, Exit.then])
            refine bodyPost_ret (v := (.agg #[.int .i64 3, .string ⟨#[]⟩, .int .i64 0, .slice p6 n6 c6, .bool true])) (by simp [results, Tryz.results66, go_sem, *]) rfl ?_
            exact ⟨grown_fresh hgr8 hg9 (Nat.le_refl _), ⟨p6, n6, c6⟩, rfl, _, tx_reads ho8 hg9, q, h8.grown hg9 hrb trivial⟩
    · obtain rfl := tx_bad hru hk
      have HTk := Lib.hid (take_no rb l' E 0 a 4 wr hT.rdr hk)
      have HF := Lib.hid (fun w1 (hb : Below wr.heap.size wr w1) => fail_any rb l' E 0 a 2 (frontL E 0 l').a w1 (hT.rdr.below hb))
      have e1 : errE 0 2 = 2 := rfl
      have e2 : errP 0 a (frontL E 0 l').a = atL E l' := by cases l' <;> rfl
      rw [e1, e2] at HF
      generalize frontL E 0 l' = x at *
      unfold lexV at HTk
      have HM := Lib.hid (fun w1 hg => hT.move (w1 := w1) hrb hg)
      clear hk e1 e2 hmeas hT hru
      go_wp2_with fail
      refine HTk.out.mono ?_
      rintro e w1 ⟨rfl, hb1⟩
      have hb := hb1.trans (((Below.refl w1.heap.size w1).alloc (Nat.le_refl _) (.cells #[.int .i64 x.k, .string x.t, .int .i64 x.n, .int .i64 x.a] 41)).mono hb1.size)
      go_wp2_with fail
      refine (HF.out _ hb).mono ?_
      rintro e w2 ⟨rfl, h3, h4⟩
      obtain ⟨z0, z1, ho, hgr⟩ := HM.out w2 (grown_trans (below_grown hb _) h4)
      obtain ⟨y0, y1, y2, y3, y4⟩ := cell5 z1
      go_wp2_with (refine store_agg rfl 50 (.tmp 2) (.tmp 18) rfl w.heap.size #[.int .i64 3, .string ⟨#[]⟩, .int .i64 0, v, .bool true] rfl rfl _ _ z0 (by kernel_rfl) rfl (own_one ho) ?_; intro w3 hw3 hg3; obtain ⟨y0, y1, y2, y3, y4⟩ := cell5 hw3)
      (try simp only [Exit.inBlock, Exit.then])
      refine bodyPost_ret (v := (.agg #[.int .i64 3, .string ⟨#[]⟩, .int .i64 0, v, .bool true])) (by simp [results, Tryz.results66, go_sem, *]) rfl ?_
      obtain ⟨p, n, c, rfl⟩ := own_slice ho
      exact ⟨grown_fresh hgr hg3 (Nat.le_refl _), ⟨p, n, c⟩, rfl, _, tx_reads ho hg3, l', h3.grown hg3 hrb trivial⟩
end Go.Proofs.YtgimgkjggaijoaaGreatDoor
namespace Go.Proofs.YtgimgkjggaijoaaGreatDoor
open Go.RowKit Pk Lx Sv

theorem textsR_err {E : Int} : ∀ {m : Nat} {l : List Lex} {e : Int × Int}, textsR E m l = some (.error e) → e.1 = 2
  | m + 1, [], e, h => by injection h with h; injection h with h; rw [← h]
  | m + 1, x :: q, e, h => by
    unfold textsR at h
    by_cases h1 : x.k = 4
    · rw [if_pos h1] at h
      by_cases h2 : isM 44 q = true
      · rw [if_pos h2] at h
        cases ht : textsR E m q.tail with
        | none => rw [ht] at h; cases h
        | some r =>
          rw [ht] at h
          injection h with h
          cases r with
          | ok p => cases h
          | error e' => injection h with h; rw [← h]; exact textsR_err ht
      · rw [if_neg h2] at h
        injection h with h
        unfold mustR at h
        split at h
        · cases h
        · injection h with h; rw [← h]
    · rw [if_neg h1] at h
      injection h with h; injection h with h; rw [← h]
theorem textsR_len {E : Int} {m : Nat} {l : List Lex} {p} (h : textsR E m l = some (.ok p)) : p.2.length < l.length := by
  obtain ⟨r, h1, h2⟩ := textsR_end E (max m (l.length + 1)) l (Nat.le_max_right _ _)
  rw [textsR_more E m _ l _ (Nat.le_max_left _ _) h] at h1
  injection h1 with h1
  exact h2 p h1.symm
theorem Rdr.own {w w' : World} {rb : Nat} {l : List Lex} {E wr a : Int} {v : Value} (h : Rdr w rb l E wr a) (hg : w.grownBy w' v.ownBlock) (hv : ∀ k, v.ownBlock = some k → rb < k) : Rdr w' rb l E wr a := by
  have hl := h.lt
  obtain ⟨u, h1, h2⟩ := h
  exact ⟨u, (hg.block rb hl (fun e => by have := hv rb e.symm; omega)).trans h1, h2.keeps (fun g hgl hg2 => hg.block g hg2 (fun e => by have := hv g e.symm; omega)) hg.size fun _ h => h⟩
/-- how much is left -/
def mz (w : World) (rb : Nat) : Nat := match w.cell? ⟨rb, 2, none⟩ with | some (.int _ k) => (if k = 0 then (match w.cell? ⟨rb, 0, none⟩ with | some (.slice _ n _) => n + 1 | _ => 0) else 0) | _ => 0
theorem mz_good {w : World} {rb : Nat} {l : List Lex} {E a : Int} (h : Rdr w rb l E 0 a) : mz w rb = l.length + 1 := by
  obtain ⟨u, k1, p, c, rfl, -⟩ := h
  unfold mz
  rw [k1.cells.2.2.1, k1.cells.1]
  rfl
theorem mz_bad {w : World} {rb : Nat} {l : List Lex} {E wr a : Int} (h : Rdr w rb l E wr a) (hw : wr ≠ 0) : mz w rb = 0 := by
  obtain ⟨u, k1, -⟩ := h
  unfold mz
  rw [k1.cells.2.2.1]
  exact if_neg hw
/-- how far the arguments are read -/
def ArgsRun (E : Int) (m : Nat) (l : List Lex) (acc : List ArgT) (res : Res (List ArgT)) : Prop := ∃ m' r, m' ≤ m ∧ argsR E m' l = some r ∧ r.map (fun p => (acc ++ p.1, p.2)) = res
theorem ar_stop {E : Int} {m : Nat} {l : List Lex} {acc : List ArgT} {res : Res (List ArgT)} (h : ArgsRun E m l acc res) (h91 : ¬ isM 91 l = true) (hn : argOf (frontL E 0 l) = none) : res = .ok (acc, l) := by
  obtain ⟨m', r, -, h1, rfl⟩ := h
  cases m' with
  | zero => cases h1
  | succ m' =>
    cases l with
    | nil => injection h1 with h1; rw [← h1]; show Except.ok (acc ++ [], []) = _; rw [List.append_nil]
    | cons x q =>
      unfold argsR at h1
      rw [if_neg h91, show argOf x = none from hn] at h1
      injection h1 with h1; rw [← h1]; show Except.ok (acc ++ [], x :: q) = _; rw [List.append_nil]
theorem ar_one {E : Int} {m : Nat} {x : Lex} {q : List Lex} {acc : List ArgT} {res : Res (List ArgT)} {b : ArgT} (h : ArgsRun E m (x :: q) acc res) (h91 : ¬ isM 91 (x :: q) = true) (hn : argOf x = some b) : ArgsRun E m q (acc ++ [b]) res := by
  obtain ⟨m', r, h0, h1, rfl⟩ := h
  cases m' with
  | zero => cases h1
  | succ m' =>
    unfold argsR at h1
    rw [if_neg h91, hn] at h1
    cases ht : argsR E m' q with
    | none => rw [ht] at h1; cases h1
    | some r' =>
      rw [ht] at h1
      injection h1 with h1
      refine ⟨m', r', by omega, ht, ?_⟩
      rw [← h1]
      cases r' with
      | error e => rfl
      | ok p => show Except.ok (acc ++ [b] ++ p.1, p.2) = Except.ok (acc ++ (b :: p.1), p.2); rw [List.append_assoc]; rfl
/-- behind an opening bracket -/
theorem ar_list {E : Int} {m : Nat} {x : Lex} {q : List Lex} {acc : List ArgT} {res : Res (List ArgT)} (h : ArgsRun E m (x :: q) acc res) (h91 : isM 91 (x :: q) = true) : ∃ t, textsR E m q = some t ∧ (∀ ts r, t = .ok (ts, r) → ArgsRun E m r (acc ++ [⟨3, ⟨#[]⟩, 0, ts, true⟩]) res) ∧ ∀ e, t = .error e → res = .error e := by
  obtain ⟨m', r, h0, h1, rfl⟩ := h
  cases m' with
  | zero => cases h1
  | succ m' =>
    unfold argsR at h1
    rw [if_pos h91] at h1
    cases ht : textsR E m' q with
    | none => rw [ht] at h1; cases h1
    | some t =>
      rw [ht] at h1
      refine ⟨t, textsR_more E m' m q t (by omega) ht, fun ts r ht2 => ?_, fun e ht2 => ?_⟩
      · subst ht2
        simp only at h1
        cases hr : argsR E m' r with
        | none => rw [hr] at h1; cases h1
        | some r' =>
          rw [hr] at h1
          injection h1 with h1
          refine ⟨m', r', by omega, hr, ?_⟩
          rw [← h1]
          cases r' with
          | error e => rfl
          | ok p => show Except.ok (acc ++ [_] ++ p.1, p.2) = Except.ok (acc ++ (_ :: p.1), p.2); rw [List.append_assoc]; rfl
      · subst ht2
        injection h1 with h1
        rw [← h1]; rfl
/-- elements of a list that is being made: read past B, not in its own block -/
def Mine (B : Nat) (w : World) (v : Value) (g : Nat) : Prop := B ≤ g ∧ g < w.heap.size ∧ some g ≠ v.ownBlock
theorem Mine.next {B : Nat} {w w' : World} {v v' : Value} {g : Nat} (h : Mine B w v g) (hs : w.heap.size ≤ w'.heap.size) (hn : NewOwn w v v') : Mine B w' v' g := by
  refine ⟨h.1, Nat.lt_of_lt_of_le h.2.1 hs, fun e => ?_⟩
  rcases hn with hn | hn
  · exact h.2.2 (e.trans hn)
  · have := hn g e.symm; have := h.2.1; omega
def Elems {α β : Type} (At : World → (Nat → Prop) → α → β → Prop) (w : World) (X : Nat → Prop) (R : List α) (L : List β) : Prop := R.length = L.length ∧ ∀ j (h1 : j < R.length) (h2 : j < L.length), At w X R[j] L[j]
theorem Elems.nil {α β : Type} (At : World → (Nat → Prop) → α → β → Prop) (w : World) (X : Nat → Prop) : Elems At w X [] [] := ⟨rfl, fun j h => by simp at h⟩
theorem Elems.snoc {α β : Type} {At : World → (Nat → Prop) → α → β → Prop} {w : World} {X : Nat → Prop} {R : List α} {L : List β} {r : α} {b : β} (h : Elems At w X R L) (hr : At w X r b) : Elems At w X (R ++ [r]) (L ++ [b]) := by
  refine ⟨by rw [List.length_append, List.length_append, h.1]; rfl, fun j h1 h2 => ?_⟩
  have hl := h.1
  by_cases hj : j < R.length
  · rw [List.getElem_append_left hj, List.getElem_append_left (by omega)]
    exact h.2 j hj (by omega)
  · have hj2 : j = R.length := by rw [List.length_append, List.length_singleton] at h1; omega
    subst hj2
    rw [List.getElem_append_right (Nat.le_refl _), List.getElem_append_right (by omega)]
    simpa [hl] using hr
theorem Elems.keeps {α β : Type} {At : World → (Nat → Prop) → α → β → Prop} {w w' : World} {X Y : Nat → Prop} {R : List α} {L : List β} (h : Elems At w X R L) (hk : ∀ r b, At w X r b → At w' Y r b) : Elems At w' Y R L := ⟨h.1, fun j h1 h2 => hk _ _ (h.2 j h1 h2)⟩
/-- a list of arguments that is being made -/
structure ArAt (w : World) (rb : Nat) (wr : World) (v : Value) (R : List RArg) (acc : List ArgT) : Prop where
  own : ownsG argL wr w.heap.size 50 v R
  els : Elems ArgAt wr (Mine w.heap.size wr v) R acc
  grown : w.grownBy wr (some rb)
theorem ArAt.move {w wr W : World} {rb : Nat} {v : Value} {R : List RArg} {acc : List ArgT} (h : ArAt w rb wr v R acc) (hrb : rb < w.heap.size) (hg : wr.grownBy W (some rb)) : ArAt w rb W v R acc :=
  ⟨ownsG_grown h.own hg hrb, h.els.keeps fun r b hb => hb.keeps (fun g hX hg2 => hg.block g hg2 (fun e => by injection e with e; have := hX.1; omega)) hg.size fun g hX => ⟨hX.1, Nat.lt_of_lt_of_le hX.2.1 hg.size, hX.2.2⟩, grown_trans h.grown hg⟩
theorem ArAt.put {w wr W w6 : World} {rb : Nat} {v v6 : Value} {R : List RArg} {acc : List ArgT} {r : RArg} {b : ArgT} (h : ArAt w rb wr v R acc) (hrb : rb < w.heap.size) (hg : wr.grownBy W (some rb)) (hat : ArgAt W (Fresh wr W) r b)
    (h6 : ownsG argL w6 w.heap.size 50 v6 (R ++ [r])) (hg6 : W.grownBy w6 v.ownBlock) (hn : NewOwn W v v6) : ArAt w rb w6 v6 (R ++ [r]) (acc ++ [b]) := by
  have hv : ∀ k, v.ownBlock = some k → w.heap.size ≤ k ∧ k < wr.heap.size := fun k hk => World.ownsRow.lt h.own k hk
  have hm := h.move hrb hg
  have hat2 : ArgAt W (Mine w.heap.size W v) r b := hat.keeps (fun _ _ _ => rfl) (Nat.le_refl _) fun g hX => ⟨Nat.le_trans h.grown.size hX.1, hX.2, fun e => by have := (hv g e.symm).2; have := hX.1; omega⟩
  refine ⟨h6, (hm.els.snoc hat2).keeps fun r b hb => hb.keeps (fun g hX hg2 => hg6.block g hg2 hX.2.2) hg6.size fun g hX => hX.next hg6.size hn, ?_⟩
  have g1 := hm.grown
  exact ⟨hg6.os.trans g1.os, hg6.tape.trans g1.tape, hg6.output.trans g1.output, Nat.le_trans g1.size hg6.size, fun i hi hr => (hg6.block i (Nat.lt_of_lt_of_le hi g1.size) (fun e => by have := (hv i e.symm).1; omega)).trans (g1.block i hi hr)⟩
theorem ArAt.past {w wr : World} {rb : Nat} {v : Value} {R : List RArg} {acc : List ArgT} (h : ArAt w rb wr v R acc) (hrb : rb < w.heap.size) : ∀ k, v.ownBlock = some k → rb < k := fun k hk => by have := (World.ownsRow.lt h.own k hk).1; omega
theorem ArAt.done {w wr : World} {rb : Nat} {v : Value} {R : List RArg} {acc : List ArgT} (h : ArAt w rb wr v R acc) : ArgsAt wr (Fresh w wr) v acc :=
  ⟨R, h.own.reads fun g hg => World.ownsRow.lt h.own g hg, h.els.keeps fun _ _ hb => hb.keeps (fun _ _ _ => rfl) (Nat.le_refl _) fun _ hX => ⟨hX.1, hX.2.1⟩⟩
/-- the reader's words behind an append: what is read, and how it goes on -/
theorem words_at {wr w6 : World} {rb g o c0 : Nat} {x : Lex} {q : List Lex} {E a : Int} (k1 : RdrV wr rb (.slice (some ⟨g, o, none⟩) (q.length + 1) c0) E 0 a) (k2 : ReadsR lexLay wr (· < rb) (.slice (some ⟨g, o, none⟩) (q.length + 1) c0) (x :: q)) (hK : ∀ i, i ≤ rb → w6.heap[i]? = wr.heap[i]?) (hs : wr.heap.size ≤ w6.heap.size) :
    w6.cell? ⟨rb, 0, none⟩ = some (.slice (some ⟨g, o, none⟩) (q.length + 1) c0) ∧ w6.frozen? ⟨rb, 0, none⟩ = false ∧ ∀ p c', (q ≠ [] → p = some ⟨g, o + 4, none⟩) → q.length ≤ c' → Rdr (w6.setCell ⟨rb, 0, none⟩ (.slice p q.length c')) rb q E 0 a := by
  have k6 : RdrV w6 rb (.slice (some ⟨g, o, none⟩) (q.length + 1) c0) E 0 a := (hK rb (Nat.le_refl _)).trans k1
  refine ⟨k6.cells.1, k6.frz 0, fun p c' hp hc => ?_⟩
  obtain ⟨g', o', c'', e, -, -, -, -, h6⟩ := reads_cons k2
  injection e with e1 e2 e3
  injection e1 with e1
  injection e1 with e4 e5
  subst e4; subst e5
  exact Rdr.next (x := x) k6 p c' ((h6 p c' hp hc).keeps (fun i hi _ => hK i (by omega)) hs fun _ h => h)
theorem cell1 {w : World} {g : Nat} {a : Value} {t : TypeId} {f : Nat × Nat} (h : w.heap[g]? = some (.cells #[a] t f)) : w.cell? ⟨g, 0, none⟩ = some a := by
  unfold World.cell?
  simp [h]
theorem reads_one {W : World} {X : Nat → Prop} {g : Nat} {s : ByteArray} (hc : W.cell? ⟨g, 0, none⟩ = some (.string s)) (hX : X g) (hg : g < W.heap.size) : ReadsR strL W X (.slice (some ⟨g, 0, none⟩) 1 1) [s] := by
  refine ⟨_, 1, rfl, Nat.le_refl _, .inr ⟨g, 0, rfl, hX, hg, fun j hj i u hu => ?_⟩⟩
  obtain rfl : j = 0 := by simp at hj; omega
  have hi : i < 1 := (List.getElem?_eq_some_iff.1 hu).1
  obtain rfl : i = 0 := by omega
  injection hu with hu
  rw [← hu]; exact hc
/-- what args leaves -/
def ArgsPost (w : World) (rb : Nat) (E a : Int) (res : Res (List ArgT)) (e : Ending) (w' : World) : Prop :=
  w.grownBy w' (some rb) ∧ ∃ s : SlV, e = .returned s.val ∧
    ∃ us, ArgsAt w' (Fresh w w') s.val us ∧ match res with
    | .ok (ts, r) => Rdr w' rb r E 0 a ∧ ts = us
    | .error (e1, a1) => ∃ r, Rdr w' rb r E e1 a1
/-- the state that args begins in, and goes on in: good, or behind an error -/
def ArSt (E a : Int) (m : Nat) (l : List Lex) (acc : List ArgT) (res : Res (List ArgT)) (wr at_ : Int) : Prop :=
  (wr = 0 ∧ at_ = a ∧ ArgsRun E m l acc res) ∨ (wr ≠ 0 ∧ res = .error (wr, at_))
/-- one append -/
def ArNext (w : World) (rb : Nat) (E a : Int) (m : Nat) (res : Res (List ArgT)) (v : Value) (wr : World) : Prop :=
  ∃ (l : List Lex) (R : List RArg) (acc : List ArgT) (wv av : Int), ArAt w rb wr v R acc ∧ Rdr wr rb l E wv av ∧ (wv = 0 → l.length + R.length ≤ 4000000) ∧ ArSt E a m l acc res wv av
set_option maxHeartbeats 8000000 in
set_option maxRecDepth 100000 in
theorem args_any (rb : Nat) (l : List Lex) (E a wv av : Int) (m : Nat) (res : Res (List ArgT)) (w : World) (h : Rdr w rb l E wv av) (hl : wv = 0 → l.length ≤ 4000000) (hst : ArSt E a m l [] res wv av) : Calls Tryz.prog 32 #[.pointer (some ⟨rb, 0, none⟩)] w (ArgsPost w rb E a res) := by
  have hrb := h.lt
  have h0 : ArNext w rb E a m res (.slice none 0 0) w := ⟨l, [], [], wv, av, ⟨ownsG.nil _ _ _ _, Elems.nil _ _ _, below_grown (Below.refl _ _) _⟩, h, fun h => by simpa using hl h, hst⟩
  clear h hst
  go_enter Tryz.func32, Tryz.ntmps32
  go_wp2
  go_step3
  go_wp2
  go_step3
  go_wp2
  go_loopw [3] (fun v wr => ArNext w rb E a m res v wr) (fun _ wr => mz wr rb)
  case atStart => exact h0
  case round =>
    clear h0
    obtain ⟨l', R, acc, wv, av, hA, hR, hlen, hS⟩ := hrel
    rcases hS with ⟨rfl, rfl, hru⟩ | ⟨hw0, rfl⟩
    · have hlen := hlen rfl
      have hmz := mz_good hR
      by_cases h91 : isM 91 l' = true
      · cases l' with
        | nil => cases h91
        | cons x q =>
          rw [List.length_cons] at hlen hmz
          obtain ⟨t, ht, hok, herr⟩ := ar_list hru h91
          have hMk := Lib.hid (mark_yes rb x q E av ⟨#[91]⟩ 91 rfl wr hR h91)
          clear hru
          go_wp2_with fail
          refine hMk.out.mono ?_
          rintro e w1 ⟨rfl, hr1, hg1⟩
          go_wp2_with fail
          refine (texts_any rb q E av m t w1 hr1 (by omega) ht).mono ?_
          rintro e w2 ⟨hg2, ⟨p, n, c⟩, he, us, hus, hpost⟩
          dsimp only [SlV.val] at he
          subst he
          have hA2 := hA.move hrb (grown_trans hg1 hg2)
          have hal := (Below.refl w2.heap.size w2).alloc (Nat.le_refl _) (.cells #[.int .i64 3, .string ⟨#[]⟩, .int .i64 0, .slice p n c, .bool true] 50)
          have hW := grown_trans (grown_trans hg1 hg2) (below_grown hal (some rb))
          have hat : ArgAt (w2.alloc (.cells #[.int .i64 3, .string ⟨#[]⟩, .int .i64 0, .slice p n c, .bool true] 50)) (Fresh wr (w2.alloc (.cells #[.int .i64 3, .string ⟨#[]⟩, .int .i64 0, .slice p n c, .bool true] 50))) ⟨3, ⟨#[]⟩, 0, ⟨p, n, c⟩, true⟩ ⟨3, ⟨#[]⟩, 0, us, true⟩ :=
            ⟨rfl, rfl, rfl, rfl, hus.keeps (fun g _ hg => hal.block g hg) hal.size fun g hg => ⟨Nat.le_trans hg1.size hg.1, Nat.lt_of_lt_of_le hg.2 hal.size⟩⟩
          have HP := Lib.hid (fun v6 w6 h6 hg6 hn6 => hA.put (v6 := v6) (w6 := w6) hrb hW hat h6 hg6 hn6)
          have hov := hA.past hrb
          clear hat hW
          go_wp2_with (at_builtin; go_loud (refine append_n _ rfl (.tmp 7) (.tmp 10) slA rfl w.heap.size _ R rfl (ownsG.alloc hA2.own _) ⟨_, 0, none⟩ [⟨3, ⟨#[]⟩, 0, ⟨p, n, c⟩, true⟩] 1 1 rfl rfl (cells_at _ _ (by simp) _ _) (by omega) (by omega) (by have := hA2.grown.size; simp; omega) ?_; intro v6 w6 h6 hg6 hn6))
          have hA6 := HP.out v6 w6 h6 hg6 hn6
          go_roundw
          case rel =>
            cases t with
            | ok tp =>
              obtain ⟨ts, r⟩ := tp
              obtain ⟨hr2, rfl⟩ := hpost
              have := textsR_len ht
              exact ⟨r, _, _, 0, av, hA6, (hr2.below hal).own hg6 hov, fun _ => by rw [List.length_append, List.length_singleton]; simp only at this; omega, .inl ⟨rfl, rfl, hok _ _ rfl⟩⟩
            | error e =>
              obtain ⟨e1, a1⟩ := e
              obtain ⟨r, hr2⟩ := hpost
              have h2 : e1 = 2 := textsR_err ht
              exact ⟨r, _, _, e1, a1, hA6, (hr2.below hal).own hg6 hov, fun h => by omega, .inr ⟨by omega, herr _ rfl⟩⟩
          case measure =>
            cases t with
            | ok tp =>
              obtain ⟨ts, r⟩ := tp
              obtain ⟨hr2, rfl⟩ := hpost
              have := textsR_len ht
              rw [hmz, mz_good ((hr2.below hal).own hg6 hov)]
              simp only at this; omega
            | error e =>
              obtain ⟨e1, a1⟩ := e
              obtain ⟨r, hr2⟩ := hpost
              have h2 : e1 = 2 := textsR_err ht
              rw [hmz, mz_bad ((hr2.below hal).own hg6 hov) (by omega)]
              omega
      · have HM := Lib.hid (mark_no rb l' E 0 av ⟨#[91]⟩ 91 rfl wr hR (fun _ => by simpa using h91))
        have HF := Lib.hid (fun w1 (hb : Below wr.heap.size wr w1) => front_any rb l' E 0 av w1 (hR.below hb))
        by_cases hno : argOf (frontL E 0 l') = none
        · obtain rfl := ar_stop hru h91 hno
          have hA2 := fun W hg => hA.move (W := W) hrb hg
          have n2 : ((frontL E 0 l').k == 2) = false := by
            rw [beq_eq_false_iff_ne]; intro h; unfold argOf at hno; rw [if_pos h] at hno; cases hno
          have n3 : ((frontL E 0 l').k == 3) = false := by
            rw [beq_eq_false_iff_ne]; intro h; unfold argOf at hno; rw [if_neg (by omega), if_pos h] at hno; cases hno
          have n4 : ((frontL E 0 l').k == 4) = false := by
            rw [beq_eq_false_iff_ne]; intro h; unfold argOf at hno; rw [if_neg (by omega), if_neg (by omega), if_pos h] at hno; cases hno
          generalize frontL E 0 l' = x at *
          unfold lexV at HF
          clear hno hru
          go_wp2_with fail
          refine HM.out.mono ?_
          rintro e w1 ⟨rfl, hb1⟩
          go_wp2_with fail
          refine (HF.out w1 hb1).mono ?_
          rintro e w2 ⟨rfl, hb2⟩
          have hb := (hb1.trans (hb2.mono hb1.size)).trans (((Below.refl w2.heap.size w2).alloc (Nat.le_refl _) (.cells #[.int .i64 x.k, .string x.t, .int .i64 x.n, .int .i64 x.a] 41)).mono (Nat.le_trans hb1.size hb2.size))
          go_wp2
          go_ret
          have hA3 := hA2 _ (below_grown hb _)
          obtain ⟨p, n, c, rfl⟩ := own_slice hA.own
          exact ⟨hA3.grown, ⟨p, n, c⟩, rfl, _, hA3.done, hR.below hb, rfl⟩
        · cases l' with
          | nil => exact absurd rfl hno
          | cons x q =>
            have hF : frontL E 0 (x :: q) = x := rfl
            rw [hF] at HF hno
            unfold lexV at HF
            clear hF
            obtain ⟨u, k1, k2⟩ := hR
            obtain ⟨g, o, c0, rfl, hc0, -, -, -, -⟩ := reads_cons k2
            have HWd := Lib.hid (fun w6 hK hs => words_at (w6 := w6) k1 k2 hK hs)
            have hrb2 : rb < wr.heap.size := k1.lt
            have hov := hA.past hrb
            rw [List.length_cons] at hlen hmz
            have hwz := hA.grown.size
            by_cases t2 : x.k = 2
            · have hnx := ar_one hru h91 (b := ⟨1, x.t, 0, [], false⟩) (by unfold argOf; rw [if_pos t2])
              have n2 : (x.k == 2) = true := beq_iff_eq.2 t2
              clear t2
              by_cases hc : c0 = 1
              · subst hc
                have hq : q = [] := List.eq_nil_of_length_eq_zero (by omega)
                subst hq
                go_wp2_with fail
                refine HM.out.mono ?_
                rintro e w1 ⟨rfl, hb1⟩
                go_wp2_with fail
                refine (HF.out w1 hb1).mono ?_
                rintro e w2 ⟨rfl, hb2⟩
                have hb := ((hb1.trans (hb2.mono hb1.size)).trans (((Below.refl w2.heap.size w2).alloc (Nat.le_refl _) (.cells #[.int .i64 x.k, .string x.t, .int .i64 x.n, .int .i64 x.a] 41)).mono (Nat.le_trans hb1.size hb2.size)))
                have hbW := hb.alloc hb.size (.cells #[.int .i64 1, .string x.t, .int .i64 0, .slice none 0 0, .bool false] 50)
                have hA2 := hA.move hrb (below_grown hbW (some rb))
                have HP := Lib.hid (fun v6 w6 h6 hg6 hn6 => hA.put (v6 := v6) (w6 := w6) (r := ⟨1, x.t, 0, ⟨none, 0, 0⟩, false⟩) (b := ⟨1, x.t, 0, [], false⟩) hrb (below_grown hbW (some rb)) ⟨rfl, rfl, rfl, rfl, ReadsR.nil _ _ _⟩ h6 hg6 hn6)
                go_wp2_with (at_builtin; go_loud (refine append_n _ rfl (.tmp 18) (.tmp 22) slA rfl w.heap.size _ R rfl hA2.own ⟨_, 0, none⟩ [⟨1, x.t, 0, ⟨none, 0, 0⟩, false⟩] 1 1 rfl rfl (cells_at _ _ (by simp) _ _) (by omega) (by omega) (by have := hbW.size; omega) ?_; intro v6 w6 h6 hg6 hn6; obtain ⟨d0, f0, hW⟩ := HWd.out w6 (fun i hi => (hg6.block i (by have := hbW.size; omega) (fun e => by have := hov i e.symm; omega)).trans (hbW.block i (by omega))) (Nat.le_trans hbW.size hg6.size); have HW := Lib.hid hW; have HA6 := Lib.hid (HP.out v6 w6 h6 hg6 hn6); clear hW))
                go_roundw
                case rel => exact ⟨[], _, _, 0, av, HA6.out.move hrb (grownBy_set _ _ _ _), HW.out _ 0 (fun h => absurd rfl h) (Nat.le_refl _), fun _ => by rw [List.length_append, List.length_singleton]; simp only [List.length_nil] at hlen ⊢; omega, .inl ⟨rfl, rfl, hnx⟩⟩
                case measure => exact Nat.lt_of_le_of_lt (Nat.le_of_eq (mz_good (l := []) (HW.out _ 0 (fun h => absurd rfl h) (Nat.le_refl _)))) (by rw [hmz]; simp)
              · go_wp2_with fail
                refine HM.out.mono ?_
                rintro e w1 ⟨rfl, hb1⟩
                go_wp2_with fail
                refine (HF.out w1 hb1).mono ?_
                rintro e w2 ⟨rfl, hb2⟩
                have hb := ((hb1.trans (hb2.mono hb1.size)).trans (((Below.refl w2.heap.size w2).alloc (Nat.le_refl _) (.cells #[.int .i64 x.k, .string x.t, .int .i64 x.n, .int .i64 x.a] 41)).mono (Nat.le_trans hb1.size hb2.size)))
                have hbW := hb.alloc hb.size (.cells #[.int .i64 1, .string x.t, .int .i64 0, .slice none 0 0, .bool false] 50)
                have hA2 := hA.move hrb (below_grown hbW (some rb))
                have HP := Lib.hid (fun v6 w6 h6 hg6 hn6 => hA.put (v6 := v6) (w6 := w6) (r := ⟨1, x.t, 0, ⟨none, 0, 0⟩, false⟩) (b := ⟨1, x.t, 0, [], false⟩) hrb (below_grown hbW (some rb)) ⟨rfl, rfl, rfl, rfl, ReadsR.nil _ _ _⟩ h6 hg6 hn6)
                go_wp2_with (at_builtin; go_loud (refine append_n _ rfl (.tmp 18) (.tmp 22) slA rfl w.heap.size _ R rfl hA2.own ⟨_, 0, none⟩ [⟨1, x.t, 0, ⟨none, 0, 0⟩, false⟩] 1 1 rfl rfl (cells_at _ _ (by simp) _ _) (by omega) (by omega) (by have := hbW.size; omega) ?_; intro v6 w6 h6 hg6 hn6; obtain ⟨d0, f0, hW⟩ := HWd.out w6 (fun i hi => (hg6.block i (by have := hbW.size; omega) (fun e => by have := hov i e.symm; omega)).trans (hbW.block i (by omega))) (Nat.le_trans hbW.size hg6.size); have HW := Lib.hid hW; have HA6 := Lib.hid (HP.out v6 w6 h6 hg6 hn6); clear hW))
                go_roundw
                case rel => exact ⟨q, _, _, 0, av, HA6.out.move hrb (grownBy_set _ _ _ _), HW.out _ (c0 - 1) (fun _ => rfl) (by omega), fun _ => by rw [List.length_append, List.length_singleton]; omega, .inl ⟨rfl, rfl, hnx⟩⟩
                case measure => rw [hmz, mz_good (HW.out _ (c0 - 1) (fun _ => rfl) (by omega))]; omega
            · have n2 : (x.k == 2) = false := beq_eq_false_iff_ne.2 t2
              by_cases t3 : x.k = 3
              · have hnx := ar_one hru h91 (b := ⟨2, ⟨#[]⟩, x.n, [], false⟩) (by unfold argOf; rw [if_neg t2, if_pos t3])
                have n3 : (x.k == 3) = true := beq_iff_eq.2 t3
                clear t3
                by_cases hc : c0 = 1
                · subst hc
                  have hq : q = [] := List.eq_nil_of_length_eq_zero (by omega)
                  subst hq
                  go_wp2_with fail
                  refine HM.out.mono ?_
                  rintro e w1 ⟨rfl, hb1⟩
                  go_wp2_with fail
                  refine (HF.out w1 hb1).mono ?_
                  rintro e w2 ⟨rfl, hb2⟩
                  have hb := ((hb1.trans (hb2.mono hb1.size)).trans (((Below.refl w2.heap.size w2).alloc (Nat.le_refl _) (.cells #[.int .i64 x.k, .string x.t, .int .i64 x.n, .int .i64 x.a] 41)).mono (Nat.le_trans hb1.size hb2.size)))
                  have hbW := hb.alloc hb.size (.cells #[.int .i64 2, .string ⟨#[]⟩, .int .i64 x.n, .slice none 0 0, .bool false] 50)
                  have hA2 := hA.move hrb (below_grown hbW (some rb))
                  have HP := Lib.hid (fun v6 w6 h6 hg6 hn6 => hA.put (v6 := v6) (w6 := w6) (r := ⟨2, ⟨#[]⟩, x.n, ⟨none, 0, 0⟩, false⟩) (b := ⟨2, ⟨#[]⟩, x.n, [], false⟩) hrb (below_grown hbW (some rb)) ⟨rfl, rfl, rfl, rfl, ReadsR.nil _ _ _⟩ h6 hg6 hn6)
                  go_wp2_with (at_builtin; go_loud (refine append_n _ rfl (.tmp 26) (.tmp 30) slA rfl w.heap.size _ R rfl hA2.own ⟨_, 0, none⟩ [⟨2, ⟨#[]⟩, x.n, ⟨none, 0, 0⟩, false⟩] 1 1 rfl rfl (cells_at _ _ (by simp) _ _) (by omega) (by omega) (by have := hbW.size; omega) ?_; intro v6 w6 h6 hg6 hn6; obtain ⟨d0, f0, hW⟩ := HWd.out w6 (fun i hi => (hg6.block i (by have := hbW.size; omega) (fun e => by have := hov i e.symm; omega)).trans (hbW.block i (by omega))) (Nat.le_trans hbW.size hg6.size); have HW := Lib.hid hW; have HA6 := Lib.hid (HP.out v6 w6 h6 hg6 hn6); clear hW))
                  go_roundw
                  case rel => exact ⟨[], _, _, 0, av, HA6.out.move hrb (grownBy_set _ _ _ _), HW.out _ 0 (fun h => absurd rfl h) (Nat.le_refl _), fun _ => by rw [List.length_append, List.length_singleton]; simp only [List.length_nil] at hlen ⊢; omega, .inl ⟨rfl, rfl, hnx⟩⟩
                  case measure => exact Nat.lt_of_le_of_lt (Nat.le_of_eq (mz_good (l := []) (HW.out _ 0 (fun h => absurd rfl h) (Nat.le_refl _)))) (by rw [hmz]; simp)
                · go_wp2_with fail
                  refine HM.out.mono ?_
                  rintro e w1 ⟨rfl, hb1⟩
                  go_wp2_with fail
                  refine (HF.out w1 hb1).mono ?_
                  rintro e w2 ⟨rfl, hb2⟩
                  have hb := ((hb1.trans (hb2.mono hb1.size)).trans (((Below.refl w2.heap.size w2).alloc (Nat.le_refl _) (.cells #[.int .i64 x.k, .string x.t, .int .i64 x.n, .int .i64 x.a] 41)).mono (Nat.le_trans hb1.size hb2.size)))
                  have hbW := hb.alloc hb.size (.cells #[.int .i64 2, .string ⟨#[]⟩, .int .i64 x.n, .slice none 0 0, .bool false] 50)
                  have hA2 := hA.move hrb (below_grown hbW (some rb))
                  have HP := Lib.hid (fun v6 w6 h6 hg6 hn6 => hA.put (v6 := v6) (w6 := w6) (r := ⟨2, ⟨#[]⟩, x.n, ⟨none, 0, 0⟩, false⟩) (b := ⟨2, ⟨#[]⟩, x.n, [], false⟩) hrb (below_grown hbW (some rb)) ⟨rfl, rfl, rfl, rfl, ReadsR.nil _ _ _⟩ h6 hg6 hn6)
                  go_wp2_with (at_builtin; go_loud (refine append_n _ rfl (.tmp 26) (.tmp 30) slA rfl w.heap.size _ R rfl hA2.own ⟨_, 0, none⟩ [⟨2, ⟨#[]⟩, x.n, ⟨none, 0, 0⟩, false⟩] 1 1 rfl rfl (cells_at _ _ (by simp) _ _) (by omega) (by omega) (by have := hbW.size; omega) ?_; intro v6 w6 h6 hg6 hn6; obtain ⟨d0, f0, hW⟩ := HWd.out w6 (fun i hi => (hg6.block i (by have := hbW.size; omega) (fun e => by have := hov i e.symm; omega)).trans (hbW.block i (by omega))) (Nat.le_trans hbW.size hg6.size); have HW := Lib.hid hW; have HA6 := Lib.hid (HP.out v6 w6 h6 hg6 hn6); clear hW))
                  go_roundw
                  case rel => exact ⟨q, _, _, 0, av, HA6.out.move hrb (grownBy_set _ _ _ _), HW.out _ (c0 - 1) (fun _ => rfl) (by omega), fun _ => by rw [List.length_append, List.length_singleton]; omega, .inl ⟨rfl, rfl, hnx⟩⟩
                  case measure => rw [hmz, mz_good (HW.out _ (c0 - 1) (fun _ => rfl) (by omega))]; omega
              · have n3 : (x.k == 3) = false := beq_eq_false_iff_ne.2 t3
                by_cases t4 : x.k = 4
                · have hnx := ar_one hru h91 (b := ⟨3, ⟨#[]⟩, 0, [x.t], false⟩) (by unfold argOf; rw [if_neg t2, if_neg t3, if_pos t4])
                  have n4 : (x.k == 4) = true := beq_iff_eq.2 t4
                  clear t4
                  by_cases hc : c0 = 1
                  · subst hc
                    have hq : q = [] := List.eq_nil_of_length_eq_zero (by omega)
                    subst hq
                    go_wp2_with fail
                    refine HM.out.mono ?_
                    rintro e w1 ⟨rfl, hb1⟩
                    go_wp2_with fail
                    refine (HF.out w1 hb1).mono ?_
                    rintro e w2 ⟨rfl, hb2⟩
                    have hb := ((hb1.trans (hb2.mono hb1.size)).trans (((Below.refl w2.heap.size w2).alloc (Nat.le_refl _) (.cells #[.int .i64 x.k, .string x.t, .int .i64 x.n, .int .i64 x.a] 41)).mono (Nat.le_trans hb1.size hb2.size)))
                    have hbS := hb.alloc hb.size (.cells #[.string x.t] 9)
                    have hbW := hbS.alloc hbS.size (.cells #[.int .i64 3, .string ⟨#[]⟩, .int .i64 0, .slice (some ⟨w2.heap.size + 1, 0, none⟩) 1 1, .bool false] 50)
                    have hs12 := Nat.le_trans hb1.size hb2.size
                    have hA2 := hA.move hrb (below_grown hbW (some rb))
                    have HP := Lib.hid (fun v6 w6 h6 hg6 hn6 => hA.put (v6 := v6) (w6 := w6) (r := ⟨3, ⟨#[]⟩, 0, ⟨some ⟨w2.heap.size + 1, 0, none⟩, 1, 1⟩, false⟩) (b := ⟨3, ⟨#[]⟩, 0, [x.t], false⟩) hrb (below_grown hbW (some rb)) ⟨rfl, rfl, rfl, rfl, reads_one (by rw [World.cell?_of_block (heap_alloc_old _ _ (by simp))]; exact (cell1 (by have := heap_alloc_new (w2.alloc (.cells #[.int .i64 x.k, .string x.t, .int .i64 x.n, .int .i64 x.a] 41)) (.cells #[.string x.t] 9); simpa using this))) ⟨by omega, by simp⟩ (by simp)⟩ h6 hg6 hn6)
                    go_wp2_with (at_builtin; go_loud (refine append_n _ rfl (.tmp 34) (.tmp 39) slA rfl w.heap.size _ R rfl hA2.own ⟨_, 0, none⟩ [⟨3, ⟨#[]⟩, 0, ⟨some ⟨w2.heap.size + 1, 0, none⟩, 1, 1⟩, false⟩] 1 1 rfl rfl (cells_at _ _ (by simp) _ _) (by omega) (by omega) (by have := hbW.size; omega) ?_; intro v6 w6 h6 hg6 hn6; obtain ⟨d0, f0, hW⟩ := HWd.out w6 (fun i hi => (hg6.block i (by have := hbW.size; omega) (fun e => by have := hov i e.symm; omega)).trans (hbW.block i (by omega))) (Nat.le_trans hbW.size hg6.size); have HW := Lib.hid hW; have HA6 := Lib.hid (HP.out v6 w6 h6 hg6 hn6); clear hW))
                    go_roundw
                    case rel => exact ⟨[], _, _, 0, av, HA6.out.move hrb (grownBy_set _ _ _ _), HW.out _ 0 (fun h => absurd rfl h) (Nat.le_refl _), fun _ => by rw [List.length_append, List.length_singleton]; simp only [List.length_nil] at hlen ⊢; omega, .inl ⟨rfl, rfl, hnx⟩⟩
                    case measure => exact Nat.lt_of_le_of_lt (Nat.le_of_eq (mz_good (l := []) (HW.out _ 0 (fun h => absurd rfl h) (Nat.le_refl _)))) (by rw [hmz]; simp)
                  · go_wp2_with fail
                    refine HM.out.mono ?_
                    rintro e w1 ⟨rfl, hb1⟩
                    go_wp2_with fail
                    refine (HF.out w1 hb1).mono ?_
                    rintro e w2 ⟨rfl, hb2⟩
                    have hb := ((hb1.trans (hb2.mono hb1.size)).trans (((Below.refl w2.heap.size w2).alloc (Nat.le_refl _) (.cells #[.int .i64 x.k, .string x.t, .int .i64 x.n, .int .i64 x.a] 41)).mono (Nat.le_trans hb1.size hb2.size)))
                    have hbS := hb.alloc hb.size (.cells #[.string x.t] 9)
                    have hbW := hbS.alloc hbS.size (.cells #[.int .i64 3, .string ⟨#[]⟩, .int .i64 0, .slice (some ⟨w2.heap.size + 1, 0, none⟩) 1 1, .bool false] 50)
                    have hs12 := Nat.le_trans hb1.size hb2.size
                    have hA2 := hA.move hrb (below_grown hbW (some rb))
                    have HP := Lib.hid (fun v6 w6 h6 hg6 hn6 => hA.put (v6 := v6) (w6 := w6) (r := ⟨3, ⟨#[]⟩, 0, ⟨some ⟨w2.heap.size + 1, 0, none⟩, 1, 1⟩, false⟩) (b := ⟨3, ⟨#[]⟩, 0, [x.t], false⟩) hrb (below_grown hbW (some rb)) ⟨rfl, rfl, rfl, rfl, reads_one (by rw [World.cell?_of_block (heap_alloc_old _ _ (by simp))]; exact (cell1 (by have := heap_alloc_new (w2.alloc (.cells #[.int .i64 x.k, .string x.t, .int .i64 x.n, .int .i64 x.a] 41)) (.cells #[.string x.t] 9); simpa using this))) ⟨by omega, by simp⟩ (by simp)⟩ h6 hg6 hn6)
                    go_wp2_with (at_builtin; go_loud (refine append_n _ rfl (.tmp 34) (.tmp 39) slA rfl w.heap.size _ R rfl hA2.own ⟨_, 0, none⟩ [⟨3, ⟨#[]⟩, 0, ⟨some ⟨w2.heap.size + 1, 0, none⟩, 1, 1⟩, false⟩] 1 1 rfl rfl (cells_at _ _ (by simp) _ _) (by omega) (by omega) (by have := hbW.size; omega) ?_; intro v6 w6 h6 hg6 hn6; obtain ⟨d0, f0, hW⟩ := HWd.out w6 (fun i hi => (hg6.block i (by have := hbW.size; omega) (fun e => by have := hov i e.symm; omega)).trans (hbW.block i (by omega))) (Nat.le_trans hbW.size hg6.size); have HW := Lib.hid hW; have HA6 := Lib.hid (HP.out v6 w6 h6 hg6 hn6); clear hW))
                    go_roundw
                    case rel => exact ⟨q, _, _, 0, av, HA6.out.move hrb (grownBy_set _ _ _ _), HW.out _ (c0 - 1) (fun _ => rfl) (by omega), fun _ => by rw [List.length_append, List.length_singleton]; omega, .inl ⟨rfl, rfl, hnx⟩⟩
                    case measure => rw [hmz, mz_good (HW.out _ (c0 - 1) (fun _ => rfl) (by omega))]; omega
                · exact absurd (by unfold argOf; rw [if_neg t2, if_neg t3, if_neg t4]) hno
    · have HM := Lib.hid (mark_no rb l' E wv av ⟨#[91]⟩ 91 rfl wr hR (fun h => absurd h hw0))
      have hF : frontL E wv l' = zeroL E := by unfold frontL; rw [if_neg hw0]
      have HF := Lib.hid (fun w1 (hb : Below wr.heap.size wr w1) => front_any rb l' E wv av w1 (hR.below hb))
      rw [hF] at HF
      unfold lexV zeroL at HF
      clear hF
      go_wp2_with fail
      refine HM.out.mono ?_
      rintro e w1 ⟨rfl, hb1⟩
      go_wp2_with fail
      refine (HF.out w1 hb1).mono ?_
      rintro e w2 ⟨rfl, hb2⟩
      have hb := (hb1.trans (hb2.mono hb1.size)).trans (((Below.refl w2.heap.size w2).alloc (Nat.le_refl _) (.cells #[.int .i64 0, .string ⟨#[]⟩, .int .i64 0, .int .i64 E] 41)).mono (Nat.le_trans hb1.size hb2.size))
      go_wp2
      go_ret
      have hA3 := hA.move hrb (below_grown hb _)
      obtain ⟨p, n, c, rfl⟩ := own_slice hA.own
      exact ⟨hA3.grown, ⟨p, n, c⟩, rfl, _, hA3.done, l', hR.below hb⟩
end Go.Proofs.YtgimgkjggaijoaaGreatDoor
namespace Go.Proofs.YtgimgkjggaijoaaGreatDoor
open Go.RowKit Pk Lx Sv

/-- a test ag it lies -/
structure RTest where
  name : ByteArray
  ag : SlV
  ks : SlV
  at_ : Int
def testL : Lay RTest where
  enc := fun x => [.string x.name, x.ag.val, x.ks.val, .int .i64 x.at_]
  k := 4
  hk := fun _ => rfl
  h0 := by decide
  one := fun x u hu => by
    simp only [List.mem_cons, List.not_mem_nil, or_false] at hu
    rcases hu with rfl | rfl | rfl | rfl <;> rfl
theorem slT : GSl testL 72 Tryz.prog 44 48 := GSl.of Tryz.underlying44 (by kernel_rfl)
def tName : TestT → ByteArray | .mk n _ _ _ => n
def tArgs : TestT → List ArgT | .mk _ a _ _ => a
def tKids : TestT → List TestT | .mk _ _ k _ => k
def tAt : TestT → Int | .mk _ _ _ p => p
/-- a list of tests, read in blocks of a set -/
inductive TestsAt (w : World) (X : Nat → Prop) : Value → List TestT → Prop
  | mk (v : Value) (R : List RTest) (L : List TestT) (hr : ReadsR testL w X v R) (hl : R.length = L.length)
      (hn : ∀ j (h1 : j < R.length) (h2 : j < L.length), R[j].name = tName L[j] ∧ R[j].at_ = tAt L[j])
      (ha : ∀ j (h1 : j < R.length) (h2 : j < L.length), ArgsAt w X R[j].ag.val (tArgs L[j]))
      (hk : ∀ j (h1 : j < R.length) (h2 : j < L.length), TestsAt w X R[j].ks.val (tKids L[j])) : TestsAt w X v L
def TestAt (w : World) (X : Nat → Prop) (r : RTest) (t : TestT) : Prop := r.name = tName t ∧ r.at_ = tAt t ∧ ArgsAt w X r.ag.val (tArgs t) ∧ TestsAt w X r.ks.val (tKids t)
theorem TestsAt.of {w : World} {X : Nat → Prop} {v : Value} {R : List RTest} {L : List TestT} (hr : ReadsR testL w X v R) (he : Elems TestAt w X R L) : TestsAt w X v L :=
  .mk v R L hr he.1 (fun j a b => ⟨(he.2 j a b).1, (he.2 j a b).2.1⟩) (fun j a b => (he.2 j a b).2.2.1) (fun j a b => (he.2 j a b).2.2.2)
theorem TestsAt.out {w : World} {X : Nat → Prop} {v : Value} {L : List TestT} (h : TestsAt w X v L) : ∃ R, ReadsR testL w X v R ∧ Elems TestAt w X R L := by
  cases h with
  | mk v R L hr hl hn ha hk => exact ⟨R, hr, hl, fun j a b => ⟨(hn j a b).1, (hn j a b).2, ha j a b, hk j a b⟩⟩
theorem TestsAt.keeps {w w' : World} {X Y : Nat → Prop} {v : Value} {L : List TestT} (h : TestsAt w X v L) (hK : ∀ g, X g → g < w.heap.size → w'.heap[g]? = w.heap[g]?) (hs : w.heap.size ≤ w'.heap.size) (hY : ∀ g, X g → Y g) : TestsAt w' Y v L := by
  induction h with
  | mk v R L hr hl hn ha hk ih => exact .mk v R L (hr.keeps hK hs hY) hl hn (fun j a b => (ha j a b).keeps hK hs hY) ih
theorem TestAt.keeps {w w' : World} {X Y : Nat → Prop} {r : RTest} {t : TestT} (h : TestAt w X r t) (hK : ∀ g, X g → g < w.heap.size → w'.heap[g]? = w.heap[g]?) (hs : w.heap.size ≤ w'.heap.size) (hY : ∀ g, X g → Y g) : TestAt w' Y r t :=
  ⟨h.1, h.2.1, h.2.2.1.keeps hK hs hY, h.2.2.2.keeps hK hs hY⟩
theorem TestsAt.nil (w : World) (X : Nat → Prop) : TestsAt w X (.slice none 0 0) [] := .of (ReadsR.nil _ _ _) (Elems.nil _ _ _)

/-! a list that is being made, of any elements -/
def Keeps {α β : Type} (At : World → (Nat → Prop) → α → β → Prop) : Prop := ∀ (w w' : World) (X Y : Nat → Prop) (r : α) (b : β), At w X r b → (∀ g, X g → g < w.heap.size → w'.heap[g]? = w.heap[g]?) → w.heap.size ≤ w'.heap.size → (∀ g, X g → Y g) → At w' Y r b
theorem testAt_keeps : Keeps TestAt := fun _ _ _ _ _ _ h h1 h2 h3 => h.keeps h1 h2 h3
structure LsAt {α β : Type} (L : Lay α) (e : TypeId) (At : World → (Nat → Prop) → α → β → Prop) (w : World) (rb : Nat) (wr : World) (v : Value) (R : List α) (acc : List β) : Prop where
  own : ownsG L wr w.heap.size e v R
  els : Elems At wr (Mine w.heap.size wr v) R acc
  grown : w.grownBy wr (some rb)
theorem LsAt.move {α β : Type} {L : Lay α} {e : TypeId} {At : World → (Nat → Prop) → α → β → Prop} (hAt : Keeps At) {w wr W : World} {rb : Nat} {v : Value} {R : List α} {acc : List β} (h : LsAt L e At w rb wr v R acc) (hrb : rb < w.heap.size) (hg : wr.grownBy W (some rb)) : LsAt L e At w rb W v R acc :=
  ⟨ownsG_grown h.own hg hrb, h.els.keeps fun _ _ hb => hAt _ _ _ _ _ _ hb (fun g hX hg2 => hg.block g hg2 (fun e => by injection e with e; have := hX.1; omega)) hg.size fun g hX => ⟨hX.1, Nat.lt_of_lt_of_le hX.2.1 hg.size, hX.2.2⟩, grown_trans h.grown hg⟩
theorem LsAt.put {α β : Type} {L : Lay α} {e : TypeId} {At : World → (Nat → Prop) → α → β → Prop} (hAt : Keeps At) {w wr W w6 : World} {rb : Nat} {v v6 : Value} {R : List α} {acc : List β} {r : α} {b : β} (h : LsAt L e At w rb wr v R acc) (hrb : rb < w.heap.size) (hg : wr.grownBy W (some rb)) (hat : At W (Fresh wr W) r b)
    (h6 : ownsG L w6 w.heap.size e v6 (R ++ [r])) (hg6 : W.grownBy w6 v.ownBlock) (hn : NewOwn W v v6) : LsAt L e At w rb w6 v6 (R ++ [r]) (acc ++ [b]) := by
  have hv : ∀ k, v.ownBlock = some k → w.heap.size ≤ k ∧ k < wr.heap.size := fun k hk => World.ownsRow.lt h.own k hk
  have hm := h.move hAt hrb hg
  have hat2 : At W (Mine w.heap.size W v) r b := hAt _ _ _ _ _ _ hat (fun _ _ _ => rfl) (Nat.le_refl _) fun g hX => ⟨Nat.le_trans h.grown.size hX.1, hX.2, fun e => by have := (hv g e.symm).2; have := hX.1; omega⟩
  refine ⟨h6, (hm.els.snoc hat2).keeps fun _ _ hb => hAt _ _ _ _ _ _ hb (fun g hX hg2 => hg6.block g hg2 hX.2.2) hg6.size fun g hX => hX.next hg6.size hn, ?_⟩
  have g1 := hm.grown
  exact ⟨hg6.os.trans g1.os, hg6.tape.trans g1.tape, hg6.output.trans g1.output, Nat.le_trans g1.size hg6.size, fun i hi hr => (hg6.block i (Nat.lt_of_lt_of_le hi g1.size) (fun e => by have := (hv i e.symm).1; omega)).trans (g1.block i hi hr)⟩
theorem LsAt.past {α β : Type} {L : Lay α} {e : TypeId} {At : World → (Nat → Prop) → α → β → Prop} {w wr : World} {rb : Nat} {v : Value} {R : List α} {acc : List β} (h : LsAt L e At w rb wr v R acc) (hrb : rb < w.heap.size) : ∀ k, v.ownBlock = some k → rb < k := fun k hk => by have := (World.ownsRow.lt h.own k hk).1; omega
theorem LsAt.done {α β : Type} {L : Lay α} {e : TypeId} {At : World → (Nat → Prop) → α → β → Prop} (hAt : Keeps At) {w wr : World} {rb : Nat} {v : Value} {R : List α} {acc : List β} (h : LsAt L e At w rb wr v R acc) : ReadsR L wr (Fresh w wr) v R ∧ Elems At wr (Fresh w wr) R acc :=
  ⟨h.own.reads fun g hg => World.ownsRow.lt h.own g hg, h.els.keeps fun _ _ hb => hAt _ _ _ _ _ _ hb (fun _ _ _ => rfl) (Nat.le_refl _) fun _ hX => ⟨hX.1, hX.2.1⟩⟩
/-- a literal of one element -/
theorem ownsG_lit {α : Type} (L : Lay α) (e : TypeId) (W : World) (B : Nat) (r : α) (hB : B ≤ W.heap.size) : ownsG L (W.alloc (.cells (L.enc r).toArray e)) B e (.slice (some ⟨W.heap.size, 0, none⟩) 1 1) [r] := by
  refine ⟨by rw [List.flatMap_singleton, L.hk]; simp, .inr ⟨W.heap.size, 1, _, rfl, hB, heap_alloc_new W _, Nat.le_refl _, by unfold maxLen; omega, ?_, ?_⟩⟩
  · rw [List.size_toArray, L.hk]; omega
  · rw [List.flatMap_singleton]
    show List.take (1 * L.k) (L.enc r) = _
    rw [Nat.one_mul, List.take_of_length_le (by rw [L.hk]; omega)]
theorem LsAt.lit {α β : Type} {L : Lay α} {e : TypeId} {At : World → (Nat → Prop) → α → β → Prop} (hAt : Keeps At) {w wr : World} {rb : Nat} {r : α} {b : β} (hg : w.grownBy wr (some rb)) (hat : At wr (Fresh w wr) r b) : LsAt L e At w rb (wr.alloc (.cells (L.enc r).toArray e)) (.slice (some ⟨wr.heap.size, 0, none⟩) 1 1) [r] [b] := by
  have hb := (Below.refl wr.heap.size wr).alloc (Nat.le_refl _) (.cells (L.enc r).toArray e)
  refine ⟨ownsG_lit L e wr _ r hg.size, (Elems.nil At _ _).snoc (hAt _ _ _ _ _ _ hat (fun g _ h2 => hb.block g h2) hb.size fun g hX => ⟨hX.1, Nat.lt_of_lt_of_le hX.2 hb.size, fun e => by injection e with e; exact Nat.lt_irrefl _ (Nat.lt_of_lt_of_le hX.2 (Nat.le_of_eq e.symm))⟩), grown_trans hg (below_grown hb _)⟩

/-! error codes -/
theorem nameR_err {E : Int} {d : Nat} {l : List Lex} {e : Int × Int} (h : nameR E d l = .error e) : e.1 ≠ 0 := by
  cases l with
  | nil => injection h with h; rw [← h]; show (2 : Int) ≠ 0; decide
  | cons x r =>
    rw [nameR_cons] at h
    split at h
    · split at h
      · injection h with h; rw [← h]; show (10 : Int) ≠ 0; decide
      · cases h
    · injection h with h; rw [← h]; show (2 : Int) ≠ 0; decide
theorem mustR_err {E : Int} {c : UInt8} {l : List Lex} {e : Int × Int} (h : mustR E c l = .error e) : e = (2, atL E l) ∧ ¬ isM c l = true := by
  unfold mustR at h
  split at h
  · cases h
  · rename_i hm
    injection h with h
    exact ⟨h.symm, hm⟩
theorem emap_err {α β : Type} {e : Except (Int × Int) α} {f : α → β} {b : Int × Int} (h : e.map f = .error b) : e = .error b := by
  cases e with
  | error x => injection h with h; rw [h]
  | ok a => cases h
theorem argsR_err {E : Int} : ∀ {m : Nat} {l : List Lex} {e : Int × Int}, argsR E m l = some (.error e) → e.1 ≠ 0
  | m + 1, [], e, h => by injection h with h; cases h
  | m + 1, x :: q, e, h => by
    unfold argsR at h
    split at h
    · split at h
      · cases h
      · rename_i e' ht
        injection h with h; injection h with h
        rw [← h, textsR_err ht]; decide
      · rename_i ts r ht
        cases hr : argsR E m r with
        | none => rw [hr] at h; cases h
        | some r' =>
          rw [hr] at h
          injection h with h
          exact argsR_err (by rw [hr, emap_err h])
    · split at h
      · injection h with h; cases h
      · cases hr : argsR E m q with
        | none => rw [hr] at h; cases h
        | some r' =>
          rw [hr] at h
          injection h with h
          exact argsR_err (by rw [hr, emap_err h])
theorem tests_err {E : Int} : ∀ (m : Nat), (∀ d l e, testR E m d l = some (.error e) → e.1 ≠ 0) ∧ (∀ d l e, testsR E m d l = some (.error e) → e.1 ≠ 0) ∧ (∀ d l e, moreR E m d l = some (.error e) → e.1 ≠ 0)
  | 0 => ⟨fun d l e h => by (unfold testR at h; cases h), fun d l e h => by (unfold testsR at h; cases h), fun d l e h => by (unfold moreR at h; cases h)⟩
  | m + 1 => by
    obtain ⟨h1, h2, h3⟩ := tests_err (E := E) m
    refine ⟨fun d l e h => ?_, fun d l e h => ?_, fun d l e h => ?_⟩
    · unfold testR at h
      cases hn : nameR E d l with
      | error e' => rw [hn] at h; injection h with h; injection h with h; rw [← h]; exact nameR_err hn
      | ok p =>
        rw [hn] at h
        simp only at h
        cases ha : argsR E m p.2 with
        | none => rw [ha] at h; cases h
        | some a =>
          rw [ha] at h
          cases a with
          | error e' => injection h with h; injection h with h; rw [← h]; exact argsR_err ha
          | ok q =>
            simp only at h
            cases ht : testsR E m (d + 1) q.2 with
            | none => rw [ht] at h; cases h
            | some r => rw [ht] at h; injection h with h; exact h2 _ _ _ (by rw [ht, emap_err h])
    · unfold testsR at h
      split at h
      · cases ht : testR E m d l with
        | none => rw [ht] at h; cases h
        | some r => rw [ht] at h; injection h with h; exact h1 _ _ _ (by rw [ht, emap_err h])
      · split at h
        · cases ht : testR E m d l.tail with
          | none => rw [ht] at h; cases h
          | some r =>
            rw [ht] at h
            cases r with
            | error e' => injection h with h; injection h with h; rw [← h]; exact h1 _ _ _ ht
            | ok q =>
              simp only at h
              cases hm : moreR E m d q.2 with
              | none => rw [hm] at h; cases h
              | some r => rw [hm] at h; injection h with h; exact h3 _ _ _ (by rw [hm, emap_err h])
        · injection h with h; cases h
    · unfold moreR at h
      split at h
      · cases ht : testR E m d l.tail with
        | none => rw [ht] at h; cases h
        | some r =>
          rw [ht] at h
          cases r with
          | error e' => injection h with h; injection h with h; rw [← h]; exact h1 _ _ _ ht
          | ok q =>
            simp only at h
            cases hm : moreR E m d q.2 with
            | none => rw [hm] at h; cases h
            | some r => rw [hm] at h; injection h with h; exact h3 _ _ _ (by rw [hm, emap_err h])
      · injection h with h
        have := (mustR_err (emap_err h)).1
        rw [this]; show (2 : Int) ≠ 0; decide
/-- what test leaves -/
def TestPost (w : World) (rb : Nat) (E a : Int) (res : Res TestT) (e : Ending) (w' : World) : Prop :=
  w.grownBy w' (some rb) ∧ ∃ r : RTest, e = .returned (.agg #[.string r.name, r.ag.val, r.ks.val, .int .i64 r.at_]) ∧
    ∃ t, TestAt w' (Fresh w w') r t ∧ match res with
    | .ok (t', q) => Rdr w' rb q E 0 a ∧ t' = t
    | .error (e1, a1) => ∃ q, Rdr w' rb q E e1 a1
/-- what tests leaves -/
def TestsPost (w : World) (rb : Nat) (E a : Int) (res : Res (List TestT)) (e : Ending) (w' : World) : Prop :=
  w.grownBy w' (some rb) ∧ ∃ s : SlV, e = .returned s.val ∧
    ∃ ts, TestsAt w' (Fresh w w') s.val ts ∧ match res with
    | .ok (ts', q) => Rdr w' rb q E 0 a ∧ ts' = ts
    | .error (e1, a1) => ∃ q, Rdr w' rb q E e1 a1
end Go.Proofs.YtgimgkjggaijoaaGreatDoor
