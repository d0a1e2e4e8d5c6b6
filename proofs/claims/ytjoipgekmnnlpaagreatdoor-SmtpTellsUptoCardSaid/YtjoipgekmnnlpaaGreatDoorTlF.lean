/- Walks: the reference of layer 22: Feed. -/
import Derived.Test.YtjoipgekmnnlpaaGreatDoorTlO
import Derived.Test.YtjoipgekmnnlpaaGreatDoorSmZ
namespace Go.Proofs.YtjoipgekmnnlpaaGreatDoor
open Go.RowKit Go.Shelf Go.Lib Pk Hx C1 Sm

section
variable {Z : Nat → Prop} {w w' : World} {rb most fb N : Nat} {kv tv : Value} {B L : ByteArray} {s : Whl}
/-- a list of texts is no block of the session's, and so on -/
theorem qs_ne {w : World} {v : Value} {l : List ByteArray} {b : Nat} {cs : Array Value} {t : TypeId} {fz : Nat × Nat} (h : Qs txL True w 9 v l) (hb : w.heap[b]? = some (.cells cs t fz)) (ht : t ≠ 9) : v.ownBlock ≠ some b := by
  intro e
  obtain ⟨cs2, fz2, hc⟩ := h.ty e
  rw [hb] at hc
  injection hc with hc
  injection hc with _ hc
  exact ht hc
/-- the lines kept, and those that the chunk completes -/
theorem RfR.fed (h : RfR Z w rb most fb kv tv B L s) (hZ : ∀ k, w.heap.size ≤ k → Z k) {w2 w3 w4 : World} {v1 v4 : Value} {LV : ByteArray} {lines : List (List UInt8)} {rest' : List UInt8}
    (hb2 : Below w.heap.size w w2) (ho1 : ∀ k, v1.ownBlock = some k → w.heap.size ≤ k) (hq1 : Qs txL True w2 9 v1 (s.kept.map bt))
    (hfd : w3.heap[fb]? = some (.cells #[.int .i64 1000, .string LV] 84 (0, 0))) (hno : LV.data.toList.contains 10 = false) (hrs : LV.data.toList.take 1000 = rest') (f3 : Fr (Bk fb) w2 w3)
    (hq4 : Qs txL True w4 9 v4 ((s.kept ++ lines).map bt)) (hg4 : w3.grownBy w4 v1.ownBlock) (hn4 : NewOwn w3 v1 v4) :
    RfR Z (w4.setCell ⟨rb, 2, none⟩ v4) rb most fb v4 tv B LV ⟨s.st, rest', s.kept ++ lines⟩ ∧ Fr Z w (w4.setCell ⟨rb, 2, none⟩ v4) := by
  have hrl := h.raw.lt
  have hfl := lt_of_block h.feed
  have hs2 := hb2.size
  have hs3 := f3.size
  have hs4 := hg4.size
  have far : ∀ k, k ≠ rb → (w4.setCell ⟨rb, 2, none⟩ v4).heap[k]? = w4.heap[k]? := fun k hk => Below.heap_setCell w4 ⟨rb, 2, none⟩ v4 k hk
  have hv1 : ∀ k, k < w.heap.size → v1.ownBlock ≠ some k := fun k hk e => by have := ho1 k e; omega
  have st4 : ∀ k, k < w.heap.size → k ≠ fb → w4.heap[k]? = w.heap[k]? := fun k hk hne => (hg4.block k (by omega) (fun e => hv1 k hk e.symm)).trans ((f3.block k (by omega) (fun e => hne e)).trans (hb2.block k hk))
  have hr4 : RawR w4 rb most fb kv s.st.greeted s.st.sender.isSome (bt (s.st.sender.getD [])) tv (s.st.body.isSome && !s.st.waits) s.st.long B s.st.waits s.st.over := (st4 rb hrl (fun e => h.ne_fb e.symm)).trans h.raw
  have hf4 : w4.heap[fb]? = some (.cells #[.int .i64 1000, .string LV] 84 (0, 0)) := (hg4.block fb (by omega) (fun e => hv1 fb hfl e.symm)).trans hfd
  have ho4 : ∀ k, v4.ownBlock = some k → w.heap.size ≤ k := fun k e => by
    rcases hn4 with e' | e'
    · exact ho1 k (by rw [← e']; exact e)
    · have := e' k e; omega
  refine ⟨⟨hr4.set2 v4, h.bod, (far fb h.ne_fb).trans hf4, hrs.symm, hno, hq4.kept fun g e => far g (fun e' => by have := ho4 g e; omega), h.rcp.kept fun g e => ?_, h.zr, h.zf, fun k e => hZ k (ho4 k e), h.zt⟩, ?_⟩
  · have hg := h.rcp.lt e
    exact (far g (fun e' => h.ne_rb h.rcp (by decide) (by rw [e, e']))).trans (st4 g hg (fun e' => qs_ne h.rcp h.feed (by decide) (by rw [e, e'])))
  · have f1 : Fr Z w w3 := (Fr.of_below (X := Z) hb2).trans f3 (fun g e => .inl (by rw [show g = fb from e]; exact h.zf))
    have f2 : Fr Z w w4 := f1.trans (Y := fun k => v1.ownBlock = some k) ⟨hg4.os, hg4.tape, hg4.output, hg4.size, fun k hk hx => hg4.block k hk fun e => hx e.symm⟩ fun g e => .inr (ho1 g e)
    exact f2.setCell h.zr _
theorem RfR.pop {st : Ses} {rest l : List UInt8} {r : List (List UInt8)} (h : RfR Z w rb most fb kv tv B L ⟨st, rest, l :: r⟩) {v : Value} (hv : Qs txL True w 9 v (r.map bt)) (ho : ∀ k, v.ownBlock = some k → kv.ownBlock = some k) :
    RfR Z (w.setCell ⟨rb, 2, none⟩ v) rb most fb v tv B L ⟨st, rest, r⟩ ∧ Fr Z w (w.setCell ⟨rb, 2, none⟩ v) := by
  have far : ∀ k, k ≠ rb → (w.setCell ⟨rb, 2, none⟩ v).heap[k]? = w.heap[k]? := fun k hk => Below.heap_setCell w ⟨rb, 2, none⟩ v k hk
  exact ⟨⟨h.raw.set2 v, h.bod, (far fb h.ne_fb).trans h.feed, h.rst, h.no, hv.kept fun g e => far g (fun e' => h.ne_rb hv (by decide) (by rw [e, e'])), h.rcp.kept fun g e => far g (fun e' => h.ne_rb h.rcp (by decide) (by rw [e, e'])), h.zr, h.zf, fun k e => h.zk k (ho k e), h.zt⟩, (Fr.refl Z w).setCell h.zr _⟩
/-- within Feed -/
structure FdR (Z : Nat → Prop) (w wr : World) (rb most N : Nat) (rest : List UInt8) (F : Ses × List UInt8 × List (List UInt8)) (st : Ses) (kept : List (List UInt8)) (out : ByteArray) : Prop where
  ref : RefAt Z wr rb most N ⟨st, rest, kept⟩
  frm : Fr Z w wr
  run : ((runW most st kept).1, out.data.toList ++ (runW most st kept).2.1, (runW most st kept).2.2) = F
  inv : Inv most st
  kl : ∀ l ∈ kept, l.length ≤ 1000
  wt : out.size + (2000 * kept.length + wtS st) ≤ 100000000
theorem FdR.next {wr w2 : World} {rest : List UInt8} {F : Ses × List UInt8 × List (List UInt8)} {st : Ses} {l : List UInt8} {r : List (List UInt8)} {out T : ByteArray} (h : FdR Z w wr rb most N rest F st (l :: r) out) (hm : most ≤ 65536) (hw : st.waits = false) (ho : st.over = false)
    (hr : RefAt Z w2 rb most N ⟨(stepW most st l).1, rest, r⟩) (f : Fr Z wr w2) (hT : T = bt (stepW most st l).2) : FdR Z w w2 rb most N rest F (stepW most st l).1 r (out ++ T) := by
  refine ⟨hr, h.frm.trans f (fun g hg => .inl hg), ?_, (step_ok l h.inv hw ho).1, fun x hx => h.kl x (by simp [hx]), ?_⟩
  · rw [← h.run, runW_cons, if_neg (by rw [hw, ho]; decide), hT]
    have e : (out ++ bt (stepW most st l).2).data.toList = out.data.toList ++ (stepW most st l).2 := by simp [bt]
    rw [e]
    simp
  · have h1 := h.wt
    have h2 := step_wt (st := st) hm l (h.kl l (by simp)) hw
    rw [ByteArray.size_append, hT]
    obtain ⟨A, e1, -, e3⟩ := bt_ex (stepW most st l).2
    rw [← e1, e3]
    rw [List.length_cons] at h1
    omega
theorem FdR.fin {wr : World} {rest : List UInt8} {F : Ses × List UInt8 × List (List UInt8)} {st : Ses} {kept : List (List UInt8)} {out : ByteArray} (h : FdR Z w wr rb most N rest F st kept out) (he : kept = [] ∨ st.waits = true ∨ st.over = true) : F = (st, out.data.toList, kept) := by
  rw [← h.run]
  cases kept with
  | nil => show (st, out.data.toList ++ [], []) = _; rw [List.append_nil]
  | cons l r =>
    rw [runW_cons, if_pos (by
      rcases he with he | he | he
      · cases he
      · rw [he]; rfl
      · rw [he]; simp)]
    show (st, out.data.toList ++ [], l :: r) = _
    rw [List.append_nil]
/-- what Feed leaves -/
def FedR (Z : Nat → Prop) (w : World) (rb most N : Nat) (p : Whl × List UInt8) (e : Ending) (w' : World) : Prop := e = .returned (.tuple #[.string (bt p.2), .bool p.1.st.waits]) ∧ RefAt Z w' rb most N p.1 ∧ Fr Z w w'
set_option maxHeartbeats 8000000 in
set_option maxRecDepth 100000 in
theorem refFeed (h : RefAt Z w rb most N s) (hZ : ∀ k, w.heap.size ≤ k → Z k) (hm : most ≤ 65536) (hg : Gd most s) (chunk : ByteArray) (hs : chunk.size ≤ 1000000) (hN : N ≤ 1000000) (hw : Sm.wt s + 2000 * chunk.size ≤ 100000000) :
    Calls Tryz.prog 15 #[.pointer (some ⟨rb, 0, none⟩), .string chunk] w (FedR Z w rb most (N + chunk.size) (feedW most s chunk.data.toList)) := by
  obtain ⟨fb, kv, tv, B, L, h, hL⟩ := h
  have hd : RfR Z w.drew rb most fb kv tv B L s := h.keep (fun _ _ _ => rfl)
  have c1 : w.drew.cell? ⟨rb, 1, none⟩ = some (.pointer (some ⟨fb, 0, none⟩)) := hd.raw.cells.c1
  have c2 : w.drew.cell? ⟨rb, 2, none⟩ = some kv := hd.raw.cells.c2
  have hbA : Below w.heap.size w (w.drew.alloc (.cells #[] 9)) := (Below.refl _ w).drew.alloc (Nat.le_refl _) _
  have a1 : (w.drew.alloc (.cells #[] 9)).cell? ⟨rb, 1, none⟩ = some (.pointer (some ⟨fb, 0, none⟩)) := cell_later hbA h.raw.cells.c1
  have a2 : (w.drew.alloc (.cells #[] 9)).cell? ⟨rb, 2, none⟩ = some kv := cell_later hbA h.raw.cells.c2
  have a2' : (w.alloc (.cells #[] 9)).cell? ⟨rb, 2, none⟩ = some kv := a2
  have hcnt := pushW_count chunk.data.toList s.rest
  have hkl : s.kept.length ≤ 100000 := by unfold Sm.wt at hw; omega
  have hcl : chunk.data.toList.length = chunk.size := rfl
  have HZz := Lib.hid (show ((s.kept.map bt).length + ((pushW s.rest chunk.data.toList).1.map bt).length) * 16 ≤ 140737488355328 ∧ (s.kept.map bt).length + ((pushW s.rest chunk.data.toList).1.map bt).length ≤ 140737488355328 by rw [List.length_map, List.length_map]; omega)
  obtain ⟨v1, w2, hap1, hq1, hb2, ho1⟩ : ∃ v1 w2, (∀ ty, (Builtin.append_ #[22, 22] ty #[.slice (some ⟨w.heap.size, 0, none⟩) 0 0, kv]).run Tryz.prog (w.drew.alloc (.cells #[] 9)) = .ok v1 w2) ∧
      Qs txL True w2 9 v1 (s.kept.map bt) ∧ Below w.heap.size w w2 ∧ (∀ k, v1.ownBlock = some k → w.heap.size ≤ k) := by
    obtain ⟨v1, w2, hr, h1, h2, h3⟩ := copy_list hd.kept (by rw [List.length_map]; omega) 22
    exact ⟨v1, w2, fun ty => hr, h1, (Below.refl w.heap.size w).drew.trans h2, h3⟩
  have k12 : w2.cell? ⟨rb, 1, none⟩ = some (.pointer (some ⟨fb, 0, none⟩)) := cell_later hb2 h.raw.cells.c1
  have hf2 : w2.heap[fb]? = some (.cells #[.int .i64 1000, .string L] 84 (0, 0)) := (hb2.block fb (lt_of_block h.feed)).trans h.feed
  have hPu := pushR_any fb L chunk w2 (by omega) hs hf2 h.no
  have HPu := Lib.hid hPu
  have HRS := Lib.hid h.rst
  have HK1 := Lib.hid (And.intro hq1 (And.intro hb2 (And.intro ho1 hf2)))
  have HSR := Lib.hid h
  have HZ := Lib.hid hZ
  have HG := Lib.hid (And.intro hm (And.intro hg (And.intro hw hL)))
  clear hPu hd h hL hm hg hw hcnt hkl hcl hq1 hb2 ho1 hf2 hbA hZ hN hs
  go_enter Tryz.func15, Tryz.ntmps15
  go_wp2
  refine wp_region_heldO (fun W => W.cell? ⟨rb, 1, none⟩ = some (.pointer (some ⟨fb, 0, none⟩))) 17 (by kernel_rfl) rfl c1 (fun hHeld => ?_)
  refine takeO (v := ?_) 0 rfl (by kernel_rfl) (by kernel_rfl) (by kernel_rfl) (by rfl) ?_ hHeld ?_
  rotate_left
  · intro w hSw
    (try dsimp only at hSw)
    go_simp
    first | done | with_reducible rfl
  simp only [Act.put, List.setIfInBounds_toArray, List.set_cons_zero, List.set_cons_succ]
  refine takeO (v := ?_) 2 rfl (by kernel_rfl) (by kernel_rfl) (by kernel_rfl) (by rfl) ?_ hHeld ?_
  rotate_left
  · intro w hSw
    (try dsimp only at hSw)
    go_simp
    first | done | with_reducible rfl
  simp only [Act.put, List.setIfInBounds_toArray, List.set_cons_zero, List.set_cons_succ]
  refine takeO (v := ?_) 3 rfl (by kernel_rfl) (by kernel_rfl) (by kernel_rfl) (by rfl) ?_ hHeld ?_
  rotate_left
  · intro w hSw
    (try dsimp only at hSw)
    go_simp
    first | done | with_reducible rfl
  simp only [Act.put, List.setIfInBounds_toArray, List.set_cons_zero, List.set_cons_succ]
  refine takeO (v := ?_) 4 rfl (by kernel_rfl) (by kernel_rfl) (by kernel_rfl) (by rfl) ?_ hHeld ?_
  rotate_left
  · intro w hSw
    (try dsimp only at hSw)
    go_simp
    first | done | with_reducible rfl
  simp only [Act.put, List.setIfInBounds_toArray, List.set_cons_zero, List.set_cons_succ]
  refine takeO (v := ?_) 7 rfl (by kernel_rfl) (by kernel_rfl) (by kernel_rfl) (by rfl) ?_ hHeld ?_
  rotate_left
  · intro w hSw
    (try dsimp only at hSw)
    go_simp
    first | done | with_reducible rfl
  simp only [Act.put, List.setIfInBounds_toArray, List.set_cons_zero, List.set_cons_succ]
  refine takeO (v := ?_) 8 rfl (by kernel_rfl) (by kernel_rfl) (by kernel_rfl) (by rfl) ?_ hHeld ?_
  rotate_left
  · intro w hSw
    (try dsimp only at hSw)
    go_simp
    first | done | with_reducible rfl
  simp only [Act.put, List.setIfInBounds_toArray, List.set_cons_zero, List.set_cons_succ]
  refine takeO (v := ?_) 9 rfl (by kernel_rfl) (by kernel_rfl) (by kernel_rfl) (by rfl) ?_ hHeld ?_
  rotate_left
  · intro w hSw
    (try dsimp only at hSw)
    go_simp
    first | done | with_reducible rfl
  simp only [Act.put, List.setIfInBounds_toArray, List.set_cons_zero, List.set_cons_succ]
  refine takeO (v := ?_) 10 rfl (by kernel_rfl) (by kernel_rfl) (by kernel_rfl) (by rfl) ?_ hHeld ?_
  rotate_left
  · intro w hSw
    (try dsimp only at hSw)
    go_simp
    first | done | with_reducible rfl
  simp only [Act.put, List.setIfInBounds_toArray, List.set_cons_zero, List.set_cons_succ]
  refine takeO (v := ?_) 11 rfl (by kernel_rfl) (by kernel_rfl) (by kernel_rfl) (by rfl) ?_ hHeld ?_
  rotate_left
  · intro w hSw
    (try dsimp only at hSw)
    go_simp
    first | done | with_reducible rfl
  simp only [Act.put, List.setIfInBounds_toArray, List.set_cons_zero, List.set_cons_succ]
  refine orG (vi := .slice (some ⟨w.heap.size, 0, none⟩) 0 0) (vj := kv) (wi := w.drew.alloc (.cells #[] 9)) (wj := w.drew) 1 5 rfl rfl (by kernel_rfl) (by rfl) (by rfl) (by go_simp) (by go_simp) a1 hHeld ?_ ?_
  · --USE nrm
    refine stepO (v := kv) (w' := w.drew.alloc (.cells #[] 9)) 5 rfl (by kernel_rfl) (by rfl) (by go_simp) a1 ?_
    simp only [Act.put, List.setIfInBounds_toArray, List.set_cons_zero, List.set_cons_succ]
    refine stepO (v := v1) (w' := w2) 6 rfl (by kernel_rfl) (by rfl) (run_appO rfl rfl rfl (hap1 _)) k12 ?_
    simp only [Act.put, List.setIfInBounds_toArray, List.set_cons_zero, List.set_cons_succ]
    refine callO (f := 40) (args := #[.pointer (some ⟨fb, 0, none⟩), .string chunk]) 12 rfl (by kernel_rfl) (by rfl) (by go_simp) (HPu.out.mono ?_)
    rintro e w3 ⟨v3, LV, rfl, hq3, ho3, hfd3, hno3, hrs3, hLV3, f3⟩
    rw [← HRS.out] at hq3 hrs3
    have hq13 : Qs txL True w3 9 v1 (s.kept.map bt) := HK1.out.1.kept fun g e => f3.block g (HK1.out.1.lt e) (fun e' => by
      have e' : g = fb := e'
      exact qs_ne HK1.out.1 HK1.out.2.2.2 (by decide) (by rw [e, e']))
    obtain ⟨v4, w4, hap4, hq4, hg4, hn4, -⟩ := run_append_q (P := Tryz.prog) txGR hq13 22 22 v3 ((pushW s.rest chunk.data.toList).1.map bt) (Qs.srcR Tryz.underlying22 hq3) HZz.out.1 HZz.out.2
    have hfin := HSR.out.fed HZ.out HK1.out.2.1 HK1.out.2.2.1 HK1.out.1 hfd3 hno3 hrs3 f3 (by rw [List.map_append]; exact hq4) hg4 hn4
    have hsb : w3.cell? ⟨rb, 1, none⟩ = some (.pointer (some ⟨fb, 0, none⟩)) ∧ w4.cell? ⟨rb, 1, none⟩ = some (.pointer (some ⟨fb, 0, none⟩)) ∧ w4.cell? ⟨rb, 2, none⟩ = some kv ∧ w4.frozen? ⟨rb, 2, none⟩ = false := by
      have hrl := HSR.out.raw.lt
      have hr3 : RawR w3 rb most fb kv s.st.greeted s.st.sender.isSome (bt (s.st.sender.getD [])) tv (s.st.body.isSome && !s.st.waits) s.st.long B s.st.waits s.st.over := (f3.block rb (Nat.lt_of_lt_of_le hrl HK1.out.2.1.size) (fun e => HSR.out.ne_fb e.symm)).trans ((HK1.out.2.1.block rb hrl).trans HSR.out.raw)
      have hr4 : RawR w4 rb most fb kv s.st.greeted s.st.sender.isSome (bt (s.st.sender.getD [])) tv (s.st.body.isSome && !s.st.waits) s.st.long B s.st.waits s.st.over := (hg4.block rb hr3.lt (fun e => by have := HK1.out.2.2.1 rb e.symm; omega)).trans hr3
      exact ⟨hr3.cells.c1, hr4.cells.c1, hr4.cells.c2, hr4.frz 2⟩
    obtain ⟨k3, k4, k42, kz4⟩ := hsb
    obtain ⟨p4, c4, hv4, -⟩ := hq4.form
    obtain ⟨n4, hn9⟩ : ∃ n, n = (s.kept.map bt ++ (pushW s.rest chunk.data.toList).1.map bt).length := ⟨_, rfl⟩
    rw [← hn9] at hv4
    subst hv4
    have HY := Lib.hid hfin
    have HLV := Lib.hid (show LV.size ≤ N + chunk.size by have h1 : LV.size ≤ L.data.toList.length + chunk.data.toList.length := hLV3; have h2 : L.data.toList.length = L.size := rfl; have h3 : chunk.data.toList.length = chunk.size := rfl; have := HG.out.2.2.2; omega)
    refine ⟨_, rfl, k3, ?_⟩
    clear hq3 ho3 hfd3 hno3 hrs3 hLV3 f3 hq13 hq4 hg4 hn4 hfin hn9
    simp only [Act.put, List.setIfInBounds_toArray, List.set_cons_zero, List.set_cons_succ]
    refine stepO (v := .slice p4 n4 c4) (w' := w4) 13 rfl (by kernel_rfl) (by rfl) (run_appO rfl rfl rfl hap4) k4 ?_
    simp only [Act.put, List.setIfInBounds_toArray, List.set_cons_zero, List.set_cons_succ]
    have hHeld := k4
    refine takeO (v := ?_) 14 rfl (by kernel_rfl) (by kernel_rfl) (by kernel_rfl) (by rfl) ?_ hHeld ?_
    rotate_left
    · intro w hSw
      (try dsimp only at hSw)
      go_simp
      first | done | with_reducible rfl
    simp only [Act.put, List.setIfInBounds_toArray, List.set_cons_zero, List.set_cons_succ]
    refine takeO (v := ?_) 15 rfl (by kernel_rfl) (by kernel_rfl) (by kernel_rfl) (by rfl) ?_ hHeld ?_
    rotate_left
    · intro w hSw
      (try dsimp only at hSw)
      go_simp
      first | done | with_reducible rfl
    simp only [Act.put, List.setIfInBounds_toArray, List.set_cons_zero, List.set_cons_succ]
    refine skipO (w' := w4.setCell ⟨rb, 2, none⟩ (.slice p4 n4 c4)) 16 rfl (by kernel_rfl) (by rfl) (by go_simp) HY.out.1.raw.cells.c1 ?_
    simp only [Act.put, List.setIfInBounds_toArray, List.set_cons_zero, List.set_cons_succ]
    refine doneO (by kernel_rfl) ?_
    obtain ⟨W3, hW3⟩ : ∃ W3, W3 = w4.setCell ⟨rb, 2, none⟩ (.slice p4 n4 c4) := ⟨_, rfl⟩
    have HY := HY
    rw [← hW3] at HY ⊢
    clear hHeld hW3
    go_wp2_with fail
    have hst : Hid (FdR Z w W3 rb most (N + chunk.size) (pushW s.rest chunk.data.toList).2 (runW most s.st (s.kept ++ (pushW s.rest chunk.data.toList).1)) s.st (s.kept ++ (pushW s.rest chunk.data.toList).1) ⟨#[]⟩) :=
      ⟨⟨_, _, _, _, _, HY.out.1, HLV.out⟩, HY.out.2, by rfl, HG.out.2.1.inv, fed_kl HG.out.2.1 _, by have := fed_wt chunk HG.out.2.2.1; show 0 + _ ≤ _; omega⟩
    go_loopg [6] ((s.kept ++ (pushW s.rest chunk.data.toList).1).length) (fun g ov wr => ∃ (st : Ses) (kept : List (List UInt8)) (out : ByteArray), kept.length = g ∧ ov = .string out ∧ Hid (FdR Z w wr rb most (N + chunk.size) (pushW s.rest chunk.data.toList).2 (runW most s.st (s.kept ++ (pushW s.rest chunk.data.toList).1)) st kept out))
    case atStart => exact ⟨_, _, _, rfl, rfl, hst⟩
    case round =>
      clear hst
      obtain ⟨st, kept, out, hgk, rfl, hI⟩ := hrel
      obtain ⟨fb2, kv2, tv2, B2, L2, hS, hLN⟩ := hI.out.ref
      have x2 := hS.raw.cells.c2
      have x7 := hS.raw.cells.c7
      have x10 := hS.raw.cells.c10
      have x11 := hS.raw.cells.c11
      have z2 := hS.raw.frz 2
      have HX10 := Lib.hid (show wr.drew.cell? ⟨rb, 10, none⟩ = some (.bool st.waits) from x10)
      have hkf := hS.kept
      have HS := Lib.hid hS
      clear hS
      cases kept with
      | nil =>
        obtain ⟨p5, c5, rfl, -⟩ := hkf.form
        clear hkf
        have HF := Lib.hid (hI.out.fin (.inl rfl))
        go_wp2_with fail
        refine wp_region_heldO (fun V => V.cell? ⟨rb, 10, none⟩ = some (.bool st.waits)) 7 (by kernel_rfl) rfl HX10.out (fun hHeld => ?_)
        refine takeO (v := ?_) 0 rfl (by kernel_rfl) (by kernel_rfl) (by kernel_rfl) (by rfl) ?_ hHeld ?_
        rotate_left
        · intro w hSw
          (try dsimp only at hSw)
          go_simp
          first | done | with_reducible rfl
        simp only [Act.put, List.setIfInBounds_toArray, List.set_cons_zero, List.set_cons_succ]
        refine takeO (v := ?_) 1 rfl (by kernel_rfl) (by kernel_rfl) (by kernel_rfl) (by rfl) ?_ hHeld ?_
        rotate_left
        · intro w hSw
          (try dsimp only at hSw)
          go_simp
          first | done | with_reducible rfl
        simp only [Act.put, List.setIfInBounds_toArray, List.set_cons_zero, List.set_cons_succ]
        refine takeO (v := ?_) 2 rfl (by kernel_rfl) (by kernel_rfl) (by kernel_rfl) (by rfl) ?_ hHeld ?_
        rotate_left
        · intro w hSw
          (try dsimp only at hSw)
          go_simp
          first | done | with_reducible rfl
        simp only [Act.put, List.setIfInBounds_toArray, List.set_cons_zero, List.set_cons_succ]
        refine takeO (v := ?_) 3 rfl (by kernel_rfl) (by kernel_rfl) (by kernel_rfl) (by rfl) ?_ hHeld ?_
        rotate_left
        · intro w hSw
          (try dsimp only at hSw)
          go_simp
          first | done | with_reducible rfl
        simp only [Act.put, List.setIfInBounds_toArray, List.set_cons_zero, List.set_cons_succ]
        refine takeO (v := ?_) 4 rfl (by kernel_rfl) (by kernel_rfl) (by kernel_rfl) (by rfl) ?_ hHeld ?_
        rotate_left
        · intro w hSw
          (try dsimp only at hSw)
          go_simp
          first | done | with_reducible rfl
        simp only [Act.put, List.setIfInBounds_toArray, List.set_cons_zero, List.set_cons_succ]
        refine takeO (v := ?_) 5 rfl (by kernel_rfl) (by kernel_rfl) (by kernel_rfl) (by rfl) ?_ hHeld ?_
        rotate_left
        · intro w hSw
          (try dsimp only at hSw)
          go_simp
          first | done | with_reducible rfl
        simp only [Act.put, List.setIfInBounds_toArray, List.set_cons_zero, List.set_cons_succ]
        refine takeO (v := ?_) 6 rfl (by kernel_rfl) (by kernel_rfl) (by kernel_rfl) (by rfl) ?_ hHeld ?_
        rotate_left
        · intro w hSw
          (try dsimp only at hSw)
          go_simp
          first | done | with_reducible rfl
        simp only [Act.put, List.setIfInBounds_toArray, List.set_cons_zero, List.set_cons_succ]
        refine doneO (by kernel_rfl) ?_
        go_wp2
        go_ret2
        have e9 : feedW most s chunk.data.toList = (⟨st, (pushW s.rest chunk.data.toList).2, []⟩, out.data.toList) := by
          unfold feedW
          simp only
          rw [HF.out]
        show FedR Z w rb most (N + chunk.size) (feedW most s chunk.data.toList) _ _
        rw [e9]
        exact ⟨by rw [bt_back]; rfl, hI.out.ref.keep (fun _ _ _ => rfl), hI.out.frm.drew⟩
      | cons l r =>
        cases hwt : st.waits with
        | true =>
          rw [hwt] at x10 HX10
          obtain ⟨p5, c5, rfl, -⟩ := hkf.form
          clear hkf
          have HF := Lib.hid (hI.out.fin (.inr (.inl hwt)))
          have q1 : (0 : Int) < (r.length : Int) + 1 := by omega
          rw [← hwt] at HX10
          clear hwt
          go_wp2_with fail
          refine wp_region_heldO (fun V => V.cell? ⟨rb, 10, none⟩ = some (.bool st.waits)) 7 (by kernel_rfl) rfl HX10.out (fun hHeld => ?_)
          refine takeO (v := ?_) 0 rfl (by kernel_rfl) (by kernel_rfl) (by kernel_rfl) (by rfl) ?_ hHeld ?_
          rotate_left
          · intro w hSw
            (try dsimp only at hSw)
            go_simp
            first | done | with_reducible rfl
          simp only [Act.put, List.setIfInBounds_toArray, List.set_cons_zero, List.set_cons_succ]
          refine takeO (v := ?_) 1 rfl (by kernel_rfl) (by kernel_rfl) (by kernel_rfl) (by rfl) ?_ hHeld ?_
          rotate_left
          · intro w hSw
            (try dsimp only at hSw)
            go_simp
            first | done | with_reducible rfl
          simp only [Act.put, List.setIfInBounds_toArray, List.set_cons_zero, List.set_cons_succ]
          refine takeO (v := ?_) 2 rfl (by kernel_rfl) (by kernel_rfl) (by kernel_rfl) (by rfl) ?_ hHeld ?_
          rotate_left
          · intro w hSw
            (try dsimp only at hSw)
            go_simp
            first | done | with_reducible rfl
          simp only [Act.put, List.setIfInBounds_toArray, List.set_cons_zero, List.set_cons_succ]
          refine takeO (v := ?_) 3 rfl (by kernel_rfl) (by kernel_rfl) (by kernel_rfl) (by rfl) ?_ hHeld ?_
          rotate_left
          · intro w hSw
            (try dsimp only at hSw)
            go_simp
            first | done | with_reducible rfl
          simp only [Act.put, List.setIfInBounds_toArray, List.set_cons_zero, List.set_cons_succ]
          refine takeO (v := ?_) 4 rfl (by kernel_rfl) (by kernel_rfl) (by kernel_rfl) (by rfl) ?_ hHeld ?_
          rotate_left
          · intro w hSw
            (try dsimp only at hSw)
            go_simp
            first | done | with_reducible rfl
          simp only [Act.put, List.setIfInBounds_toArray, List.set_cons_zero, List.set_cons_succ]
          refine takeO (v := ?_) 5 rfl (by kernel_rfl) (by kernel_rfl) (by kernel_rfl) (by rfl) ?_ hHeld ?_
          rotate_left
          · intro w hSw
            (try dsimp only at hSw)
            go_simp
            first | done | with_reducible rfl
          simp only [Act.put, List.setIfInBounds_toArray, List.set_cons_zero, List.set_cons_succ]
          refine takeO (v := ?_) 6 rfl (by kernel_rfl) (by kernel_rfl) (by kernel_rfl) (by rfl) ?_ hHeld ?_
          rotate_left
          · intro w hSw
            (try dsimp only at hSw)
            go_simp
            first | done | with_reducible rfl
          simp only [Act.put, List.setIfInBounds_toArray, List.set_cons_zero, List.set_cons_succ]
          refine doneO (by kernel_rfl) ?_
          go_wp2
          go_ret2
          have e9 : feedW most s chunk.data.toList = (⟨st, (pushW s.rest chunk.data.toList).2, (l :: r)⟩, out.data.toList) := by
            unfold feedW
            simp only
            rw [HF.out]
          show FedR Z w rb most (N + chunk.size) (feedW most s chunk.data.toList) _ _
          rw [e9]
          exact ⟨by rw [bt_back]; rfl, hI.out.ref.keep (fun _ _ _ => rfl), hI.out.frm.drew⟩
        | false =>
          rw [hwt] at x10
          cases hov : st.over with
          | true =>
            rw [hov] at x11
            obtain ⟨p5, c5, rfl, -⟩ := hkf.form
            clear hkf
            have HF := Lib.hid (hI.out.fin (.inr (.inr hov)))
            have q1 : (0 : Int) < (r.length : Int) + 1 := by omega
            clear hwt hov
            go_wp2_with fail
            refine wp_region_heldO (fun V => V.cell? ⟨rb, 10, none⟩ = some (.bool st.waits)) 7 (by kernel_rfl) rfl HX10.out (fun hHeld => ?_)
            refine takeO (v := ?_) 0 rfl (by kernel_rfl) (by kernel_rfl) (by kernel_rfl) (by rfl) ?_ hHeld ?_
            rotate_left
            · intro w hSw
              (try dsimp only at hSw)
              go_simp
              first | done | with_reducible rfl
            simp only [Act.put, List.setIfInBounds_toArray, List.set_cons_zero, List.set_cons_succ]
            refine takeO (v := ?_) 1 rfl (by kernel_rfl) (by kernel_rfl) (by kernel_rfl) (by rfl) ?_ hHeld ?_
            rotate_left
            · intro w hSw
              (try dsimp only at hSw)
              go_simp
              first | done | with_reducible rfl
            simp only [Act.put, List.setIfInBounds_toArray, List.set_cons_zero, List.set_cons_succ]
            refine takeO (v := ?_) 2 rfl (by kernel_rfl) (by kernel_rfl) (by kernel_rfl) (by rfl) ?_ hHeld ?_
            rotate_left
            · intro w hSw
              (try dsimp only at hSw)
              go_simp
              first | done | with_reducible rfl
            simp only [Act.put, List.setIfInBounds_toArray, List.set_cons_zero, List.set_cons_succ]
            refine takeO (v := ?_) 3 rfl (by kernel_rfl) (by kernel_rfl) (by kernel_rfl) (by rfl) ?_ hHeld ?_
            rotate_left
            · intro w hSw
              (try dsimp only at hSw)
              go_simp
              first | done | with_reducible rfl
            simp only [Act.put, List.setIfInBounds_toArray, List.set_cons_zero, List.set_cons_succ]
            refine takeO (v := ?_) 4 rfl (by kernel_rfl) (by kernel_rfl) (by kernel_rfl) (by rfl) ?_ hHeld ?_
            rotate_left
            · intro w hSw
              (try dsimp only at hSw)
              go_simp
              first | done | with_reducible rfl
            simp only [Act.put, List.setIfInBounds_toArray, List.set_cons_zero, List.set_cons_succ]
            refine takeO (v := ?_) 5 rfl (by kernel_rfl) (by kernel_rfl) (by kernel_rfl) (by rfl) ?_ hHeld ?_
            rotate_left
            · intro w hSw
              (try dsimp only at hSw)
              go_simp
              first | done | with_reducible rfl
            simp only [Act.put, List.setIfInBounds_toArray, List.set_cons_zero, List.set_cons_succ]
            refine takeO (v := ?_) 6 rfl (by kernel_rfl) (by kernel_rfl) (by kernel_rfl) (by rfl) ?_ hHeld ?_
            rotate_left
            · intro w hSw
              (try dsimp only at hSw)
              go_simp
              first | done | with_reducible rfl
            simp only [Act.put, List.setIfInBounds_toArray, List.set_cons_zero, List.set_cons_succ]
            refine doneO (by kernel_rfl) ?_
            go_wp2
            go_ret2
            have e9 : feedW most s chunk.data.toList = (⟨st, (pushW s.rest chunk.data.toList).2, (l :: r)⟩, out.data.toList) := by
              unfold feedW
              simp only
              rw [HF.out]
            show FedR Z w rb most (N + chunk.size) (feedW most s chunk.data.toList) _ _
            rw [e9]
            exact ⟨by rw [bt_back]; rfl, hI.out.ref.keep (fun _ _ _ => rfl), hI.out.frm.drew⟩
          | false =>
            rw [hov] at x11
            obtain ⟨p5, c5, rfl, -⟩ := hkf.form
            obtain ⟨gq, oq, rfl, hnq, hcq, hcell, hrest, hone⟩ := Qs.rest (show Qs txL True wr 9 (.slice p5 ((l :: r).map bt).length c5) (bt l :: r.map bt) from hkf)
            rw [List.length_map] at hnq hcq hrest
            replace x2 : wr.cell? ⟨rb, 2, none⟩ = some (.slice (some ⟨gq, oq, none⟩) (r.length + 1) c5) := by rw [x2]; simp
            obtain ⟨LB, hLB, hLBd, hLBs⟩ := bt_ex l
            have hlz := hI.out.kl l (by simp)
            have x3 : wr.cell? ⟨gq, oq, none⟩ = some (.string LB) := by rw [hLB]; exact hcell 0 _ rfl
            have q1 : (0 : Int) < (r.length : Int) + 1 := by omega
            have HHS := Lib.hid (And.intro hwt hov)
            by_cases hc1 : c5 = 1
            · subst hc1
              obtain rfl : r = [] := List.eq_nil_of_length_eq_zero (by omega)
              have hpop := HS.out.pop (v := .slice (some ⟨gq, oq, none⟩) 0 0) (hone rfl) (fun k e => e)
              have HP := Lib.hid hpop
              have HLB := Lib.hid (And.intro hLBd (And.intro hLBs hlz))
              clear hpop hkf hrest hone hcell hnq hcq hwt hov hLB hLBd hLBs hlz
              cases hbd : st.body with
              | none =>
                rw [hbd] at x7
                have x7 : (wr.setCell ⟨rb, 2, none⟩ (.slice (some ⟨gq, oq, none⟩) 0 0)).cell? ⟨rb, 7, none⟩ = some (.bool false) := by
                  have := HP.out.1.raw.cells.c7
                  rw [hbd] at this; exact this
                have es : stepW most st l = commandW most st l := by unfold stepW; rw [hbd]
                have hc := refCommand HP.out.1 hLN (fun k hk => HZ.out k (Nat.le_trans hI.out.frm.size (by simpa [World.setCell] using hk))) LB (by have := HLB.out; omega) HG.out.1 (by have := hI.out.inv.few; show st.to.length ≤ 1000; omega) hbd HHS.out.1
                clear hbd
                have hsz := step_wt HG.out.1 l HLB.out.2.2 HHS.out.1
                obtain ⟨T2, hT2, hT2d, hT2s⟩ := bt_ex (stepW most st l).2
                have HT2 := Lib.hid (And.intro hT2 (And.intro hT2s hsz))
                have u8 : ¬ 9223372036854775807 < out.size + T2.size := by have := hI.out.wt; omega
                have hHC : Calls Tryz.prog 42 #[.pointer (some ⟨rb, 0, none⟩), .string LB] (wr.setCell ⟨rb, 2, none⟩ (.slice (some ⟨gq, oq, none⟩) 0 0)) fun e w' => e = .returned (.string T2) ∧ RefAt Z w' rb most (N + chunk.size) ⟨(stepW most st l).1, (pushW s.rest chunk.data.toList).2, ([] : List (List UInt8))⟩ ∧ Fr Z (wr.setCell ⟨rb, 2, none⟩ (.slice (some ⟨gq, oq, none⟩) 0 0)) w' := by
                  rw [hT2, es, ← HLB.out.1]; exact hc
                have HCC := Lib.hid hHC
                clear hc hsz hT2 hT2d hT2s hHC es
                go_wp2_with fail
                refine HCC.out.mono ?_
                rintro e w2 ⟨rfl, hr2, hf2⟩
                have HN2 := Lib.hid (hI.out.next HG.out.1 HHS.out.1 HHS.out.2 hr2 (HP.out.2.trans hf2 (fun g hg => .inl hg)) HT2.out.1)
                clear hr2 hf2
                go_wp2
                go_roundg (([] : List (List UInt8)).length)
                case rel => exact ⟨_, _, _, rfl, rfl, HN2⟩
                case measure => rw [← hgk]; simp
              | some b =>
                have x7 : (wr.setCell ⟨rb, 2, none⟩ (.slice (some ⟨gq, oq, none⟩) 0 0)).cell? ⟨rb, 7, none⟩ = some (.bool true) := by
                  have := HP.out.1.raw.cells.c7
                  rw [hbd, HHS.out.1] at this; exact this
                have es : stepW most st l = lineW most st b l := by unfold stepW; rw [hbd]
                have hc := refLine HP.out.1 hLN b hbd HHS.out.1 LB (by have := HLB.out; omega) (by have h1 := hI.out.wt; unfold wtS at h1; rw [hbd] at h1; simp at h1; omega)
                clear hbd
                have hsz := step_wt HG.out.1 l HLB.out.2.2 HHS.out.1
                obtain ⟨T2, hT2, hT2d, hT2s⟩ := bt_ex (stepW most st l).2
                have HT2 := Lib.hid (And.intro hT2 (And.intro hT2s hsz))
                have u8 : ¬ 9223372036854775807 < out.size + T2.size := by have := hI.out.wt; omega
                have hHC : Calls Tryz.prog 41 #[.pointer (some ⟨rb, 0, none⟩), .string LB] (wr.setCell ⟨rb, 2, none⟩ (.slice (some ⟨gq, oq, none⟩) 0 0)) fun e w' => e = .returned (.string T2) ∧ RefAt Z w' rb most (N + chunk.size) ⟨(stepW most st l).1, (pushW s.rest chunk.data.toList).2, ([] : List (List UInt8))⟩ ∧ Fr Z (wr.setCell ⟨rb, 2, none⟩ (.slice (some ⟨gq, oq, none⟩) 0 0)) w' := by
                  rw [hT2, es, ← HLB.out.1]; exact hc
                have HCC := Lib.hid hHC
                clear hc hsz hT2 hT2d hT2s hHC es
                go_wp2_with fail
                refine HCC.out.mono ?_
                rintro e w2 ⟨rfl, hr2, hf2⟩
                have HN2 := Lib.hid (hI.out.next HG.out.1 HHS.out.1 HHS.out.2 hr2 (HP.out.2.trans hf2 (fun g hg => .inl hg)) HT2.out.1)
                clear hr2 hf2
                go_wp2
                go_roundg (([] : List (List UInt8)).length)
                case rel => exact ⟨_, _, _, rfl, rfl, HN2⟩
                case measure => rw [← hgk]; simp
            · have hpop := HS.out.pop (v := .slice (some ⟨gq, oq + 1, none⟩) r.length (c5 - 1)) hrest (fun k e => e)
              have q2 : (1 : Int) ≤ (c5 : Int) := by omega
              have q3 : (1 : Int) ≤ (r.length : Int) + 1 := by omega
              have q4 : (r.length : Int) + 1 ≤ (c5 : Int) := by omega
              have HP := Lib.hid hpop
              have HLB := Lib.hid (And.intro hLBd (And.intro hLBs hlz))
              clear hpop hkf hrest hone hcell hnq hcq hwt hov hLB hLBd hLBs hlz
              cases hbd : st.body with
              | none =>
                rw [hbd] at x7
                have x7 : (wr.setCell ⟨rb, 2, none⟩ (.slice (some ⟨gq, oq + 1, none⟩) r.length (c5 - 1))).cell? ⟨rb, 7, none⟩ = some (.bool false) := by
                  have := HP.out.1.raw.cells.c7
                  rw [hbd] at this; exact this
                have es : stepW most st l = commandW most st l := by unfold stepW; rw [hbd]
                have hc := refCommand HP.out.1 hLN (fun k hk => HZ.out k (Nat.le_trans hI.out.frm.size (by simpa [World.setCell] using hk))) LB (by have := HLB.out; omega) HG.out.1 (by have := hI.out.inv.few; show st.to.length ≤ 1000; omega) hbd HHS.out.1
                clear hbd
                have hsz := step_wt HG.out.1 l HLB.out.2.2 HHS.out.1
                obtain ⟨T2, hT2, hT2d, hT2s⟩ := bt_ex (stepW most st l).2
                have HT2 := Lib.hid (And.intro hT2 (And.intro hT2s hsz))
                have u8 : ¬ 9223372036854775807 < out.size + T2.size := by have := hI.out.wt; omega
                have hHC : Calls Tryz.prog 42 #[.pointer (some ⟨rb, 0, none⟩), .string LB] (wr.setCell ⟨rb, 2, none⟩ (.slice (some ⟨gq, oq + 1, none⟩) r.length (c5 - 1))) fun e w' => e = .returned (.string T2) ∧ RefAt Z w' rb most (N + chunk.size) ⟨(stepW most st l).1, (pushW s.rest chunk.data.toList).2, r⟩ ∧ Fr Z (wr.setCell ⟨rb, 2, none⟩ (.slice (some ⟨gq, oq + 1, none⟩) r.length (c5 - 1))) w' := by
                  rw [hT2, es, ← HLB.out.1]; exact hc
                have HCC := Lib.hid hHC
                clear hc hsz hT2 hT2d hT2s hHC es
                go_wp2_with fail
                refine HCC.out.mono ?_
                rintro e w2 ⟨rfl, hr2, hf2⟩
                have HN2 := Lib.hid (hI.out.next HG.out.1 HHS.out.1 HHS.out.2 hr2 (HP.out.2.trans hf2 (fun g hg => .inl hg)) HT2.out.1)
                clear hr2 hf2
                go_wp2
                go_roundg (r.length)
                case rel => exact ⟨_, _, _, rfl, rfl, HN2⟩
                case measure => rw [← hgk]; simp
              | some b =>
                have x7 : (wr.setCell ⟨rb, 2, none⟩ (.slice (some ⟨gq, oq + 1, none⟩) r.length (c5 - 1))).cell? ⟨rb, 7, none⟩ = some (.bool true) := by
                  have := HP.out.1.raw.cells.c7
                  rw [hbd, HHS.out.1] at this; exact this
                have es : stepW most st l = lineW most st b l := by unfold stepW; rw [hbd]
                have hc := refLine HP.out.1 hLN b hbd HHS.out.1 LB (by have := HLB.out; omega) (by have h1 := hI.out.wt; unfold wtS at h1; rw [hbd] at h1; simp at h1; omega)
                clear hbd
                have hsz := step_wt HG.out.1 l HLB.out.2.2 HHS.out.1
                obtain ⟨T2, hT2, hT2d, hT2s⟩ := bt_ex (stepW most st l).2
                have HT2 := Lib.hid (And.intro hT2 (And.intro hT2s hsz))
                have u8 : ¬ 9223372036854775807 < out.size + T2.size := by have := hI.out.wt; omega
                have hHC : Calls Tryz.prog 41 #[.pointer (some ⟨rb, 0, none⟩), .string LB] (wr.setCell ⟨rb, 2, none⟩ (.slice (some ⟨gq, oq + 1, none⟩) r.length (c5 - 1))) fun e w' => e = .returned (.string T2) ∧ RefAt Z w' rb most (N + chunk.size) ⟨(stepW most st l).1, (pushW s.rest chunk.data.toList).2, r⟩ ∧ Fr Z (wr.setCell ⟨rb, 2, none⟩ (.slice (some ⟨gq, oq + 1, none⟩) r.length (c5 - 1))) w' := by
                  rw [hT2, es, ← HLB.out.1]; exact hc
                have HCC := Lib.hid hHC
                clear hc hsz hT2 hT2d hT2s hHC es
                go_wp2_with fail
                refine HCC.out.mono ?_
                rintro e w2 ⟨rfl, hr2, hf2⟩
                have HN2 := Lib.hid (hI.out.next HG.out.1 HHS.out.1 HHS.out.2 hr2 (HP.out.2.trans hf2 (fun g hg => .inl hg)) HT2.out.1)
                clear hr2 hf2
                go_wp2
                go_roundg (r.length)
                case rel => exact ⟨_, _, _, rfl, rfl, HN2⟩
                case measure => rw [← hgk]; simp
  · --USE nrm
    refine stepO (v := .slice (some ⟨w.heap.size, 0, none⟩) 0 0) (w' := w.drew.alloc (.cells #[] 9)) 1 rfl (by kernel_rfl) (by rfl) (by go_simp) a1 ?_
    simp only [Act.put, List.setIfInBounds_toArray, List.set_cons_zero, List.set_cons_succ]
    refine stepO (v := v1) (w' := w2) 6 rfl (by kernel_rfl) (by rfl) (run_appO rfl rfl rfl (hap1 _)) k12 ?_
    simp only [Act.put, List.setIfInBounds_toArray, List.set_cons_zero, List.set_cons_succ]
    refine callO (f := 40) (args := #[.pointer (some ⟨fb, 0, none⟩), .string chunk]) 12 rfl (by kernel_rfl) (by rfl) (by go_simp) (HPu.out.mono ?_)
    rintro e w3 ⟨v3, LV, rfl, hq3, ho3, hfd3, hno3, hrs3, hLV3, f3⟩
    rw [← HRS.out] at hq3 hrs3
    have hq13 : Qs txL True w3 9 v1 (s.kept.map bt) := HK1.out.1.kept fun g e => f3.block g (HK1.out.1.lt e) (fun e' => by
      have e' : g = fb := e'
      exact qs_ne HK1.out.1 HK1.out.2.2.2 (by decide) (by rw [e, e']))
    obtain ⟨v4, w4, hap4, hq4, hg4, hn4, -⟩ := run_append_q (P := Tryz.prog) txGR hq13 22 22 v3 ((pushW s.rest chunk.data.toList).1.map bt) (Qs.srcR Tryz.underlying22 hq3) HZz.out.1 HZz.out.2
    have hfin := HSR.out.fed HZ.out HK1.out.2.1 HK1.out.2.2.1 HK1.out.1 hfd3 hno3 hrs3 f3 (by rw [List.map_append]; exact hq4) hg4 hn4
    have hsb : w3.cell? ⟨rb, 1, none⟩ = some (.pointer (some ⟨fb, 0, none⟩)) ∧ w4.cell? ⟨rb, 1, none⟩ = some (.pointer (some ⟨fb, 0, none⟩)) ∧ w4.cell? ⟨rb, 2, none⟩ = some kv ∧ w4.frozen? ⟨rb, 2, none⟩ = false := by
      have hrl := HSR.out.raw.lt
      have hr3 : RawR w3 rb most fb kv s.st.greeted s.st.sender.isSome (bt (s.st.sender.getD [])) tv (s.st.body.isSome && !s.st.waits) s.st.long B s.st.waits s.st.over := (f3.block rb (Nat.lt_of_lt_of_le hrl HK1.out.2.1.size) (fun e => HSR.out.ne_fb e.symm)).trans ((HK1.out.2.1.block rb hrl).trans HSR.out.raw)
      have hr4 : RawR w4 rb most fb kv s.st.greeted s.st.sender.isSome (bt (s.st.sender.getD [])) tv (s.st.body.isSome && !s.st.waits) s.st.long B s.st.waits s.st.over := (hg4.block rb hr3.lt (fun e => by have := HK1.out.2.2.1 rb e.symm; omega)).trans hr3
      exact ⟨hr3.cells.c1, hr4.cells.c1, hr4.cells.c2, hr4.frz 2⟩
    obtain ⟨k3, k4, k42, kz4⟩ := hsb
    obtain ⟨p4, c4, hv4, -⟩ := hq4.form
    obtain ⟨n4, hn9⟩ : ∃ n, n = (s.kept.map bt ++ (pushW s.rest chunk.data.toList).1.map bt).length := ⟨_, rfl⟩
    rw [← hn9] at hv4
    subst hv4
    have HY := Lib.hid hfin
    have HLV := Lib.hid (show LV.size ≤ N + chunk.size by have h1 : LV.size ≤ L.data.toList.length + chunk.data.toList.length := hLV3; have h2 : L.data.toList.length = L.size := rfl; have h3 : chunk.data.toList.length = chunk.size := rfl; have := HG.out.2.2.2; omega)
    refine ⟨_, rfl, k3, ?_⟩
    clear hq3 ho3 hfd3 hno3 hrs3 hLV3 f3 hq13 hq4 hg4 hn4 hfin hn9
    simp only [Act.put, List.setIfInBounds_toArray, List.set_cons_zero, List.set_cons_succ]
    refine stepO (v := .slice p4 n4 c4) (w' := w4) 13 rfl (by kernel_rfl) (by rfl) (run_appO rfl rfl rfl hap4) k4 ?_
    simp only [Act.put, List.setIfInBounds_toArray, List.set_cons_zero, List.set_cons_succ]
    have hHeld := k4
    refine takeO (v := ?_) 14 rfl (by kernel_rfl) (by kernel_rfl) (by kernel_rfl) (by rfl) ?_ hHeld ?_
    rotate_left
    · intro w hSw
      (try dsimp only at hSw)
      go_simp
      first | done | with_reducible rfl
    simp only [Act.put, List.setIfInBounds_toArray, List.set_cons_zero, List.set_cons_succ]
    refine takeO (v := ?_) 15 rfl (by kernel_rfl) (by kernel_rfl) (by kernel_rfl) (by rfl) ?_ hHeld ?_
    rotate_left
    · intro w hSw
      (try dsimp only at hSw)
      go_simp
      first | done | with_reducible rfl
    simp only [Act.put, List.setIfInBounds_toArray, List.set_cons_zero, List.set_cons_succ]
    refine skipO (w' := w4.setCell ⟨rb, 2, none⟩ (.slice p4 n4 c4)) 16 rfl (by kernel_rfl) (by rfl) (by go_simp) HY.out.1.raw.cells.c1 ?_
    simp only [Act.put, List.setIfInBounds_toArray, List.set_cons_zero, List.set_cons_succ]
    refine doneO (by kernel_rfl) ?_
    obtain ⟨W3, hW3⟩ : ∃ W3, W3 = w4.setCell ⟨rb, 2, none⟩ (.slice p4 n4 c4) := ⟨_, rfl⟩
    have HY := HY
    rw [← hW3] at HY ⊢
    clear hHeld hW3
    go_wp2_with fail
    have hst : Hid (FdR Z w W3 rb most (N + chunk.size) (pushW s.rest chunk.data.toList).2 (runW most s.st (s.kept ++ (pushW s.rest chunk.data.toList).1)) s.st (s.kept ++ (pushW s.rest chunk.data.toList).1) ⟨#[]⟩) :=
      ⟨⟨_, _, _, _, _, HY.out.1, HLV.out⟩, HY.out.2, by rfl, HG.out.2.1.inv, fed_kl HG.out.2.1 _, by have := fed_wt chunk HG.out.2.2.1; show 0 + _ ≤ _; omega⟩
    go_loopg [6] ((s.kept ++ (pushW s.rest chunk.data.toList).1).length) (fun g ov wr => ∃ (st : Ses) (kept : List (List UInt8)) (out : ByteArray), kept.length = g ∧ ov = .string out ∧ Hid (FdR Z w wr rb most (N + chunk.size) (pushW s.rest chunk.data.toList).2 (runW most s.st (s.kept ++ (pushW s.rest chunk.data.toList).1)) st kept out))
    case atStart => exact ⟨_, _, _, rfl, rfl, hst⟩
    case round =>
      clear hst
      obtain ⟨st, kept, out, hgk, rfl, hI⟩ := hrel
      obtain ⟨fb2, kv2, tv2, B2, L2, hS, hLN⟩ := hI.out.ref
      have x2 := hS.raw.cells.c2
      have x7 := hS.raw.cells.c7
      have x10 := hS.raw.cells.c10
      have x11 := hS.raw.cells.c11
      have z2 := hS.raw.frz 2
      have HX10 := Lib.hid (show wr.drew.cell? ⟨rb, 10, none⟩ = some (.bool st.waits) from x10)
      have hkf := hS.kept
      have HS := Lib.hid hS
      clear hS
      cases kept with
      | nil =>
        obtain ⟨p5, c5, rfl, -⟩ := hkf.form
        clear hkf
        have HF := Lib.hid (hI.out.fin (.inl rfl))
        go_wp2_with fail
        refine wp_region_heldO (fun V => V.cell? ⟨rb, 10, none⟩ = some (.bool st.waits)) 7 (by kernel_rfl) rfl HX10.out (fun hHeld => ?_)
        refine takeO (v := ?_) 0 rfl (by kernel_rfl) (by kernel_rfl) (by kernel_rfl) (by rfl) ?_ hHeld ?_
        rotate_left
        · intro w hSw
          (try dsimp only at hSw)
          go_simp
          first | done | with_reducible rfl
        simp only [Act.put, List.setIfInBounds_toArray, List.set_cons_zero, List.set_cons_succ]
        refine takeO (v := ?_) 1 rfl (by kernel_rfl) (by kernel_rfl) (by kernel_rfl) (by rfl) ?_ hHeld ?_
        rotate_left
        · intro w hSw
          (try dsimp only at hSw)
          go_simp
          first | done | with_reducible rfl
        simp only [Act.put, List.setIfInBounds_toArray, List.set_cons_zero, List.set_cons_succ]
        refine takeO (v := ?_) 2 rfl (by kernel_rfl) (by kernel_rfl) (by kernel_rfl) (by rfl) ?_ hHeld ?_
        rotate_left
        · intro w hSw
          (try dsimp only at hSw)
          go_simp
          first | done | with_reducible rfl
        simp only [Act.put, List.setIfInBounds_toArray, List.set_cons_zero, List.set_cons_succ]
        refine takeO (v := ?_) 3 rfl (by kernel_rfl) (by kernel_rfl) (by kernel_rfl) (by rfl) ?_ hHeld ?_
        rotate_left
        · intro w hSw
          (try dsimp only at hSw)
          go_simp
          first | done | with_reducible rfl
        simp only [Act.put, List.setIfInBounds_toArray, List.set_cons_zero, List.set_cons_succ]
        refine takeO (v := ?_) 4 rfl (by kernel_rfl) (by kernel_rfl) (by kernel_rfl) (by rfl) ?_ hHeld ?_
        rotate_left
        · intro w hSw
          (try dsimp only at hSw)
          go_simp
          first | done | with_reducible rfl
        simp only [Act.put, List.setIfInBounds_toArray, List.set_cons_zero, List.set_cons_succ]
        refine takeO (v := ?_) 5 rfl (by kernel_rfl) (by kernel_rfl) (by kernel_rfl) (by rfl) ?_ hHeld ?_
        rotate_left
        · intro w hSw
          (try dsimp only at hSw)
          go_simp
          first | done | with_reducible rfl
        simp only [Act.put, List.setIfInBounds_toArray, List.set_cons_zero, List.set_cons_succ]
        refine takeO (v := ?_) 6 rfl (by kernel_rfl) (by kernel_rfl) (by kernel_rfl) (by rfl) ?_ hHeld ?_
        rotate_left
        · intro w hSw
          (try dsimp only at hSw)
          go_simp
          first | done | with_reducible rfl
        simp only [Act.put, List.setIfInBounds_toArray, List.set_cons_zero, List.set_cons_succ]
        refine doneO (by kernel_rfl) ?_
        go_wp2
        go_ret2
        have e9 : feedW most s chunk.data.toList = (⟨st, (pushW s.rest chunk.data.toList).2, []⟩, out.data.toList) := by
          unfold feedW
          simp only
          rw [HF.out]
        show FedR Z w rb most (N + chunk.size) (feedW most s chunk.data.toList) _ _
        rw [e9]
        exact ⟨by rw [bt_back]; rfl, hI.out.ref.keep (fun _ _ _ => rfl), hI.out.frm.drew⟩
      | cons l r =>
        cases hwt : st.waits with
        | true =>
          rw [hwt] at x10 HX10
          obtain ⟨p5, c5, rfl, -⟩ := hkf.form
          clear hkf
          have HF := Lib.hid (hI.out.fin (.inr (.inl hwt)))
          have q1 : (0 : Int) < (r.length : Int) + 1 := by omega
          rw [← hwt] at HX10
          clear hwt
          go_wp2_with fail
          refine wp_region_heldO (fun V => V.cell? ⟨rb, 10, none⟩ = some (.bool st.waits)) 7 (by kernel_rfl) rfl HX10.out (fun hHeld => ?_)
          refine takeO (v := ?_) 0 rfl (by kernel_rfl) (by kernel_rfl) (by kernel_rfl) (by rfl) ?_ hHeld ?_
          rotate_left
          · intro w hSw
            (try dsimp only at hSw)
            go_simp
            first | done | with_reducible rfl
          simp only [Act.put, List.setIfInBounds_toArray, List.set_cons_zero, List.set_cons_succ]
          refine takeO (v := ?_) 1 rfl (by kernel_rfl) (by kernel_rfl) (by kernel_rfl) (by rfl) ?_ hHeld ?_
          rotate_left
          · intro w hSw
            (try dsimp only at hSw)
            go_simp
            first | done | with_reducible rfl
          simp only [Act.put, List.setIfInBounds_toArray, List.set_cons_zero, List.set_cons_succ]
          refine takeO (v := ?_) 2 rfl (by kernel_rfl) (by kernel_rfl) (by kernel_rfl) (by rfl) ?_ hHeld ?_
          rotate_left
          · intro w hSw
            (try dsimp only at hSw)
            go_simp
            first | done | with_reducible rfl
          simp only [Act.put, List.setIfInBounds_toArray, List.set_cons_zero, List.set_cons_succ]
          refine takeO (v := ?_) 3 rfl (by kernel_rfl) (by kernel_rfl) (by kernel_rfl) (by rfl) ?_ hHeld ?_
          rotate_left
          · intro w hSw
            (try dsimp only at hSw)
            go_simp
            first | done | with_reducible rfl
          simp only [Act.put, List.setIfInBounds_toArray, List.set_cons_zero, List.set_cons_succ]
          refine takeO (v := ?_) 4 rfl (by kernel_rfl) (by kernel_rfl) (by kernel_rfl) (by rfl) ?_ hHeld ?_
          rotate_left
          · intro w hSw
            (try dsimp only at hSw)
            go_simp
            first | done | with_reducible rfl
          simp only [Act.put, List.setIfInBounds_toArray, List.set_cons_zero, List.set_cons_succ]
          refine takeO (v := ?_) 5 rfl (by kernel_rfl) (by kernel_rfl) (by kernel_rfl) (by rfl) ?_ hHeld ?_
          rotate_left
          · intro w hSw
            (try dsimp only at hSw)
            go_simp
            first | done | with_reducible rfl
          simp only [Act.put, List.setIfInBounds_toArray, List.set_cons_zero, List.set_cons_succ]
          refine takeO (v := ?_) 6 rfl (by kernel_rfl) (by kernel_rfl) (by kernel_rfl) (by rfl) ?_ hHeld ?_
          rotate_left
          · intro w hSw
            (try dsimp only at hSw)
            go_simp
            first | done | with_reducible rfl
          simp only [Act.put, List.setIfInBounds_toArray, List.set_cons_zero, List.set_cons_succ]
          refine doneO (by kernel_rfl) ?_
          go_wp2
          go_ret2
          have e9 : feedW most s chunk.data.toList = (⟨st, (pushW s.rest chunk.data.toList).2, (l :: r)⟩, out.data.toList) := by
            unfold feedW
            simp only
            rw [HF.out]
          show FedR Z w rb most (N + chunk.size) (feedW most s chunk.data.toList) _ _
          rw [e9]
          exact ⟨by rw [bt_back]; rfl, hI.out.ref.keep (fun _ _ _ => rfl), hI.out.frm.drew⟩
        | false =>
          rw [hwt] at x10
          cases hov : st.over with
          | true =>
            rw [hov] at x11
            obtain ⟨p5, c5, rfl, -⟩ := hkf.form
            clear hkf
            have HF := Lib.hid (hI.out.fin (.inr (.inr hov)))
            have q1 : (0 : Int) < (r.length : Int) + 1 := by omega
            clear hwt hov
            go_wp2_with fail
            refine wp_region_heldO (fun V => V.cell? ⟨rb, 10, none⟩ = some (.bool st.waits)) 7 (by kernel_rfl) rfl HX10.out (fun hHeld => ?_)
            refine takeO (v := ?_) 0 rfl (by kernel_rfl) (by kernel_rfl) (by kernel_rfl) (by rfl) ?_ hHeld ?_
            rotate_left
            · intro w hSw
              (try dsimp only at hSw)
              go_simp
              first | done | with_reducible rfl
            simp only [Act.put, List.setIfInBounds_toArray, List.set_cons_zero, List.set_cons_succ]
            refine takeO (v := ?_) 1 rfl (by kernel_rfl) (by kernel_rfl) (by kernel_rfl) (by rfl) ?_ hHeld ?_
            rotate_left
            · intro w hSw
              (try dsimp only at hSw)
              go_simp
              first | done | with_reducible rfl
            simp only [Act.put, List.setIfInBounds_toArray, List.set_cons_zero, List.set_cons_succ]
            refine takeO (v := ?_) 2 rfl (by kernel_rfl) (by kernel_rfl) (by kernel_rfl) (by rfl) ?_ hHeld ?_
            rotate_left
            · intro w hSw
              (try dsimp only at hSw)
              go_simp
              first | done | with_reducible rfl
            simp only [Act.put, List.setIfInBounds_toArray, List.set_cons_zero, List.set_cons_succ]
            refine takeO (v := ?_) 3 rfl (by kernel_rfl) (by kernel_rfl) (by kernel_rfl) (by rfl) ?_ hHeld ?_
            rotate_left
            · intro w hSw
              (try dsimp only at hSw)
              go_simp
              first | done | with_reducible rfl
            simp only [Act.put, List.setIfInBounds_toArray, List.set_cons_zero, List.set_cons_succ]
            refine takeO (v := ?_) 4 rfl (by kernel_rfl) (by kernel_rfl) (by kernel_rfl) (by rfl) ?_ hHeld ?_
            rotate_left
            · intro w hSw
              (try dsimp only at hSw)
              go_simp
              first | done | with_reducible rfl
            simp only [Act.put, List.setIfInBounds_toArray, List.set_cons_zero, List.set_cons_succ]
            refine takeO (v := ?_) 5 rfl (by kernel_rfl) (by kernel_rfl) (by kernel_rfl) (by rfl) ?_ hHeld ?_
            rotate_left
            · intro w hSw
              (try dsimp only at hSw)
              go_simp
              first | done | with_reducible rfl
            simp only [Act.put, List.setIfInBounds_toArray, List.set_cons_zero, List.set_cons_succ]
            refine takeO (v := ?_) 6 rfl (by kernel_rfl) (by kernel_rfl) (by kernel_rfl) (by rfl) ?_ hHeld ?_
            rotate_left
            · intro w hSw
              (try dsimp only at hSw)
              go_simp
              first | done | with_reducible rfl
            simp only [Act.put, List.setIfInBounds_toArray, List.set_cons_zero, List.set_cons_succ]
            refine doneO (by kernel_rfl) ?_
            go_wp2
            go_ret2
            have e9 : feedW most s chunk.data.toList = (⟨st, (pushW s.rest chunk.data.toList).2, (l :: r)⟩, out.data.toList) := by
              unfold feedW
              simp only
              rw [HF.out]
            show FedR Z w rb most (N + chunk.size) (feedW most s chunk.data.toList) _ _
            rw [e9]
            exact ⟨by rw [bt_back]; rfl, hI.out.ref.keep (fun _ _ _ => rfl), hI.out.frm.drew⟩
          | false =>
            rw [hov] at x11
            obtain ⟨p5, c5, rfl, -⟩ := hkf.form
            obtain ⟨gq, oq, rfl, hnq, hcq, hcell, hrest, hone⟩ := Qs.rest (show Qs txL True wr 9 (.slice p5 ((l :: r).map bt).length c5) (bt l :: r.map bt) from hkf)
            rw [List.length_map] at hnq hcq hrest
            replace x2 : wr.cell? ⟨rb, 2, none⟩ = some (.slice (some ⟨gq, oq, none⟩) (r.length + 1) c5) := by rw [x2]; simp
            obtain ⟨LB, hLB, hLBd, hLBs⟩ := bt_ex l
            have hlz := hI.out.kl l (by simp)
            have x3 : wr.cell? ⟨gq, oq, none⟩ = some (.string LB) := by rw [hLB]; exact hcell 0 _ rfl
            have q1 : (0 : Int) < (r.length : Int) + 1 := by omega
            have HHS := Lib.hid (And.intro hwt hov)
            by_cases hc1 : c5 = 1
            · subst hc1
              obtain rfl : r = [] := List.eq_nil_of_length_eq_zero (by omega)
              have hpop := HS.out.pop (v := .slice (some ⟨gq, oq, none⟩) 0 0) (hone rfl) (fun k e => e)
              have HP := Lib.hid hpop
              have HLB := Lib.hid (And.intro hLBd (And.intro hLBs hlz))
              clear hpop hkf hrest hone hcell hnq hcq hwt hov hLB hLBd hLBs hlz
              cases hbd : st.body with
              | none =>
                rw [hbd] at x7
                have x7 : (wr.setCell ⟨rb, 2, none⟩ (.slice (some ⟨gq, oq, none⟩) 0 0)).cell? ⟨rb, 7, none⟩ = some (.bool false) := by
                  have := HP.out.1.raw.cells.c7
                  rw [hbd] at this; exact this
                have es : stepW most st l = commandW most st l := by unfold stepW; rw [hbd]
                have hc := refCommand HP.out.1 hLN (fun k hk => HZ.out k (Nat.le_trans hI.out.frm.size (by simpa [World.setCell] using hk))) LB (by have := HLB.out; omega) HG.out.1 (by have := hI.out.inv.few; show st.to.length ≤ 1000; omega) hbd HHS.out.1
                clear hbd
                have hsz := step_wt HG.out.1 l HLB.out.2.2 HHS.out.1
                obtain ⟨T2, hT2, hT2d, hT2s⟩ := bt_ex (stepW most st l).2
                have HT2 := Lib.hid (And.intro hT2 (And.intro hT2s hsz))
                have u8 : ¬ 9223372036854775807 < out.size + T2.size := by have := hI.out.wt; omega
                have hHC : Calls Tryz.prog 42 #[.pointer (some ⟨rb, 0, none⟩), .string LB] (wr.setCell ⟨rb, 2, none⟩ (.slice (some ⟨gq, oq, none⟩) 0 0)) fun e w' => e = .returned (.string T2) ∧ RefAt Z w' rb most (N + chunk.size) ⟨(stepW most st l).1, (pushW s.rest chunk.data.toList).2, ([] : List (List UInt8))⟩ ∧ Fr Z (wr.setCell ⟨rb, 2, none⟩ (.slice (some ⟨gq, oq, none⟩) 0 0)) w' := by
                  rw [hT2, es, ← HLB.out.1]; exact hc
                have HCC := Lib.hid hHC
                clear hc hsz hT2 hT2d hT2s hHC es
                go_wp2_with fail
                refine HCC.out.mono ?_
                rintro e w2 ⟨rfl, hr2, hf2⟩
                have HN2 := Lib.hid (hI.out.next HG.out.1 HHS.out.1 HHS.out.2 hr2 (HP.out.2.trans hf2 (fun g hg => .inl hg)) HT2.out.1)
                clear hr2 hf2
                go_wp2
                go_roundg (([] : List (List UInt8)).length)
                case rel => exact ⟨_, _, _, rfl, rfl, HN2⟩
                case measure => rw [← hgk]; simp
              | some b =>
                have x7 : (wr.setCell ⟨rb, 2, none⟩ (.slice (some ⟨gq, oq, none⟩) 0 0)).cell? ⟨rb, 7, none⟩ = some (.bool true) := by
                  have := HP.out.1.raw.cells.c7
                  rw [hbd, HHS.out.1] at this; exact this
                have es : stepW most st l = lineW most st b l := by unfold stepW; rw [hbd]
                have hc := refLine HP.out.1 hLN b hbd HHS.out.1 LB (by have := HLB.out; omega) (by have h1 := hI.out.wt; unfold wtS at h1; rw [hbd] at h1; simp at h1; omega)
                clear hbd
                have hsz := step_wt HG.out.1 l HLB.out.2.2 HHS.out.1
                obtain ⟨T2, hT2, hT2d, hT2s⟩ := bt_ex (stepW most st l).2
                have HT2 := Lib.hid (And.intro hT2 (And.intro hT2s hsz))
                have u8 : ¬ 9223372036854775807 < out.size + T2.size := by have := hI.out.wt; omega
                have hHC : Calls Tryz.prog 41 #[.pointer (some ⟨rb, 0, none⟩), .string LB] (wr.setCell ⟨rb, 2, none⟩ (.slice (some ⟨gq, oq, none⟩) 0 0)) fun e w' => e = .returned (.string T2) ∧ RefAt Z w' rb most (N + chunk.size) ⟨(stepW most st l).1, (pushW s.rest chunk.data.toList).2, ([] : List (List UInt8))⟩ ∧ Fr Z (wr.setCell ⟨rb, 2, none⟩ (.slice (some ⟨gq, oq, none⟩) 0 0)) w' := by
                  rw [hT2, es, ← HLB.out.1]; exact hc
                have HCC := Lib.hid hHC
                clear hc hsz hT2 hT2d hT2s hHC es
                go_wp2_with fail
                refine HCC.out.mono ?_
                rintro e w2 ⟨rfl, hr2, hf2⟩
                have HN2 := Lib.hid (hI.out.next HG.out.1 HHS.out.1 HHS.out.2 hr2 (HP.out.2.trans hf2 (fun g hg => .inl hg)) HT2.out.1)
                clear hr2 hf2
                go_wp2
                go_roundg (([] : List (List UInt8)).length)
                case rel => exact ⟨_, _, _, rfl, rfl, HN2⟩
                case measure => rw [← hgk]; simp
            · have hpop := HS.out.pop (v := .slice (some ⟨gq, oq + 1, none⟩) r.length (c5 - 1)) hrest (fun k e => e)
              have q2 : (1 : Int) ≤ (c5 : Int) := by omega
              have q3 : (1 : Int) ≤ (r.length : Int) + 1 := by omega
              have q4 : (r.length : Int) + 1 ≤ (c5 : Int) := by omega
              have HP := Lib.hid hpop
              have HLB := Lib.hid (And.intro hLBd (And.intro hLBs hlz))
              clear hpop hkf hrest hone hcell hnq hcq hwt hov hLB hLBd hLBs hlz
              cases hbd : st.body with
              | none =>
                rw [hbd] at x7
                have x7 : (wr.setCell ⟨rb, 2, none⟩ (.slice (some ⟨gq, oq + 1, none⟩) r.length (c5 - 1))).cell? ⟨rb, 7, none⟩ = some (.bool false) := by
                  have := HP.out.1.raw.cells.c7
                  rw [hbd] at this; exact this
                have es : stepW most st l = commandW most st l := by unfold stepW; rw [hbd]
                have hc := refCommand HP.out.1 hLN (fun k hk => HZ.out k (Nat.le_trans hI.out.frm.size (by simpa [World.setCell] using hk))) LB (by have := HLB.out; omega) HG.out.1 (by have := hI.out.inv.few; show st.to.length ≤ 1000; omega) hbd HHS.out.1
                clear hbd
                have hsz := step_wt HG.out.1 l HLB.out.2.2 HHS.out.1
                obtain ⟨T2, hT2, hT2d, hT2s⟩ := bt_ex (stepW most st l).2
                have HT2 := Lib.hid (And.intro hT2 (And.intro hT2s hsz))
                have u8 : ¬ 9223372036854775807 < out.size + T2.size := by have := hI.out.wt; omega
                have hHC : Calls Tryz.prog 42 #[.pointer (some ⟨rb, 0, none⟩), .string LB] (wr.setCell ⟨rb, 2, none⟩ (.slice (some ⟨gq, oq + 1, none⟩) r.length (c5 - 1))) fun e w' => e = .returned (.string T2) ∧ RefAt Z w' rb most (N + chunk.size) ⟨(stepW most st l).1, (pushW s.rest chunk.data.toList).2, r⟩ ∧ Fr Z (wr.setCell ⟨rb, 2, none⟩ (.slice (some ⟨gq, oq + 1, none⟩) r.length (c5 - 1))) w' := by
                  rw [hT2, es, ← HLB.out.1]; exact hc
                have HCC := Lib.hid hHC
                clear hc hsz hT2 hT2d hT2s hHC es
                go_wp2_with fail
                refine HCC.out.mono ?_
                rintro e w2 ⟨rfl, hr2, hf2⟩
                have HN2 := Lib.hid (hI.out.next HG.out.1 HHS.out.1 HHS.out.2 hr2 (HP.out.2.trans hf2 (fun g hg => .inl hg)) HT2.out.1)
                clear hr2 hf2
                go_wp2
                go_roundg (r.length)
                case rel => exact ⟨_, _, _, rfl, rfl, HN2⟩
                case measure => rw [← hgk]; simp
              | some b =>
                have x7 : (wr.setCell ⟨rb, 2, none⟩ (.slice (some ⟨gq, oq + 1, none⟩) r.length (c5 - 1))).cell? ⟨rb, 7, none⟩ = some (.bool true) := by
                  have := HP.out.1.raw.cells.c7
                  rw [hbd, HHS.out.1] at this; exact this
                have es : stepW most st l = lineW most st b l := by unfold stepW; rw [hbd]
                have hc := refLine HP.out.1 hLN b hbd HHS.out.1 LB (by have := HLB.out; omega) (by have h1 := hI.out.wt; unfold wtS at h1; rw [hbd] at h1; simp at h1; omega)
                clear hbd
                have hsz := step_wt HG.out.1 l HLB.out.2.2 HHS.out.1
                obtain ⟨T2, hT2, hT2d, hT2s⟩ := bt_ex (stepW most st l).2
                have HT2 := Lib.hid (And.intro hT2 (And.intro hT2s hsz))
                have u8 : ¬ 9223372036854775807 < out.size + T2.size := by have := hI.out.wt; omega
                have hHC : Calls Tryz.prog 41 #[.pointer (some ⟨rb, 0, none⟩), .string LB] (wr.setCell ⟨rb, 2, none⟩ (.slice (some ⟨gq, oq + 1, none⟩) r.length (c5 - 1))) fun e w' => e = .returned (.string T2) ∧ RefAt Z w' rb most (N + chunk.size) ⟨(stepW most st l).1, (pushW s.rest chunk.data.toList).2, r⟩ ∧ Fr Z (wr.setCell ⟨rb, 2, none⟩ (.slice (some ⟨gq, oq + 1, none⟩) r.length (c5 - 1))) w' := by
                  rw [hT2, es, ← HLB.out.1]; exact hc
                have HCC := Lib.hid hHC
                clear hc hsz hT2 hT2d hT2s hHC es
                go_wp2_with fail
                refine HCC.out.mono ?_
                rintro e w2 ⟨rfl, hr2, hf2⟩
                have HN2 := Lib.hid (hI.out.next HG.out.1 HHS.out.1 HHS.out.2 hr2 (HP.out.2.trans hf2 (fun g hg => .inl hg)) HT2.out.1)
                clear hr2 hf2
                go_wp2
                go_roundg (r.length)
                case rel => exact ⟨_, _, _, rfl, rfl, HN2⟩
                case measure => rw [← hgk]; simp
end
end Go.Proofs.YtjoipgekmnnlpaaGreatDoor
