/- Walks: header: the iterator that named returns. -/
import Derived.Test.YtnclbbgdfaeilaaGreatDoorHd4
import Derived.RangeFuncNested
import Derived.RangeFuncBound
import Derived.RangeFuncCalls
import Derived.RangeFuncLeaves
import Derived.RangeFuncBox
import Derived.Shelf.Abstract
import Derived.Shelf.RegionOpen
import Derived.OwnWalkIn
import Derived.TacticsInMore
import Derived.LoopNIn
import Derived.LoopIn
namespace Go.Proofs.YtnclbbgdfaeilaaGreatDoor
open Go.RowKit Go.Shelf Pk Hd

attribute [local go_sem] Oper.semAt_some
theorem wide_fn (f : FuncId) : Fence.wide.fn f = True := rfl
attribute [local go_sem] wide_fn true_and
def allV (m : List Fld) (n : List UInt8) : List ByteArray := (m.filter (isNamed n)).map fun x => toB (valueOf x)
/-- what lies still while the iterator runs -/
def Kp (n b1 b2 : Nat) (W W' : World) : Prop := Below n W W' ∧ W'.heap[b1]? = W.heap[b1]? ∧ W'.heap[b2]? = W.heap[b2]?
theorem Kp.refl (n b1 b2 : Nat) (W : World) : Kp n b1 b2 W W := ⟨Below.refl _ _, rfl, rfl⟩
theorem Kp.trans {n b1 b2 : Nat} {A B C : World} (h : Kp n b1 b2 A B) (k : Kp n b1 b2 B C) : Kp n b1 b2 A C := ⟨h.1.trans k.1, k.2.1.trans h.2.1, k.2.2.trans h.2.2⟩
theorem Kp.of {n b1 b2 : Nat} {W W' : World} (h : Below W.heap.size W W') (hn : n ≤ W.heap.size) (h1 : b1 < W.heap.size) (h2 : b2 < W.heap.size) : Kp n b1 b2 W W' := ⟨h.mono hn, h.block b1 h1, h.block b2 h2⟩
theorem grown_of {W W' : World} (h : Below W.heap.size W W') : W.grownBy W' none := ⟨h.os, h.tape, h.output, h.size, fun k hk _ => h.block k hk⟩
theorem allV_step {m : List Fld} {i : Nat} {nm : List UInt8} {pre X : List ByteArray} (h : Hid (pre ++ allV (m.drop i) nm = X)) (hi : i < m.length) :
    (isNamed nm m[i] = true → Hid (pre ++ [toB (valueOf m[i])] ++ allV (m.drop (i + 1)) nm = X)) ∧ (isNamed nm m[i] = false → Hid (pre ++ allV (m.drop (i + 1)) nm = X)) := by
  have e := h.out
  rw [List.drop_eq_getElem_cons hi] at e
  unfold allV at *
  rw [List.filter_cons] at e
  refine ⟨fun h1 => ?_, fun h1 => ?_⟩
  · rw [if_pos h1, List.map_cons] at e
    show _ = _
    rw [← e]; simp
  · rw [if_neg (by rw [h1]; decide)] at e
    exact e
theorem allV_end {m : List Fld} {i : Nat} {nm : List UInt8} {pre X : List ByteArray} (h : Hid (pre ++ allV (m.drop i) nm = X)) (hi : ¬ i < m.length) : pre = X := by
  have e := h.out
  rw [List.drop_eq_nil_of_le (by omega)] at e
  simpa [allV] using e
theorem unfold_le : ∀ l : List UInt8, (unfoldL l).length ≤ l.length
  | [] => Nat.le_refl _
  | [c] => by unfold unfoldL; split <;> simp
  | c :: d :: r => by
    have := unfold_le (d :: r)
    rw [List.length_cons] at this
    unfold unfoldL
    rw [List.length_cons, List.length_cons]
    split
    · omega
    · split
      · omega
      · rw [List.length_cons]; omega
theorem yield_bool {e : Ending} {A B : Prop} (h : (e = .returned (.bool true) ∧ A) ∨ (e = .returned (.bool false) ∧ B)) : ∃ b, e = .returned (.bool b) ∧ ((b = true ∧ A) ∨ (b = false ∧ B)) := by
  rcases h with ⟨rfl, h⟩ | ⟨rfl, h⟩
  · exact ⟨true, rfl, .inl ⟨rfl, h⟩⟩
  · exact ⟨false, rfl, .inr ⟨rfl, h⟩⟩
set_option maxHeartbeats 40000000 in
set_option maxRecDepth 100000 in
theorem named1_stops (n : Nat) (hn : 3 ≤ n) (m : List Fld) (hm : m.length ≤ 1000000) (hz : ∀ x ∈ m, x.name.size ≤ 1000000 ∧ x.value.size ≤ 1000000) (nm : List UInt8) (v : Value) (n₀ b1 b2 : Nat) (w : World) (q : Int) (hq : w.cell? ⟨1, 0, none⟩ = some (.int .i64 q)) (hq0 : 1 < n₀)
    (hM : seesG fldLay w n₀ 41 v m) (h1 : w.cell? ⟨b1, 0, none⟩ = some v) (h2 : w.cell? ⟨b2, 0, none⟩ = some (.string (toB (smallL nm)))) (hn0 : n₀ ≤ w.heap.size) (hb1 : b1 < w.heap.size) (hb2 : b2 < w.heap.size) :
    SeqStopsK Fence.wide n Tryz.prog 64 #[.pointer (some ⟨b1, 0, none⟩), .pointer (some ⟨b2, 0, none⟩)] (fun x : ByteArray => #[Value.string x]) (Kp n₀ b1 b2) (fun ys => ys = allV m nm) (fun pre => pre <+: allV m nm) (allV m nm).length w := by
  intro l J Jx W hW hJ hJx hY h0
  have hq := cell_later hW hq
  have h1 := cell_later hW h1
  have h2 := cell_later hW h2
  have hWz := hW.size
  have hM := hM.below (hW.mono hn0) (Nat.le_refl _)
  obtain ⟨p, c, rfl, hc, hM⟩ := hM.form
  refine callsIn_of_wp Tryz.func64 rfl trivial ?_ rfl
  simp only [Tryz.ntmps64, List.size_toArray, List.length_cons, List.length_nil, Nat.reduceAdd, Nat.reduceSub, Array.replicate_succ, Array.replicate_zero, List.push_toArray, List.append_toArray, List.nil_append, List.cons_append]
  gi_wp2
  gi_loopw [8] (fun iv wr => ∃ (i : Nat) (pre : List ByteArray), iv = .int .i64 i ∧ i ≤ m.length ∧ J pre wr ∧ Kp n₀ b1 b2 W wr ∧ Hid (pre ++ allV (m.drop i) nm = allV m nm)) (fun iv _ => m.length - (intOf iv).toNat)
  case atStart => exact ⟨0, [], by first | rfl | trivial, by omega, h0, Kp.refl _ _ _ _, rfl⟩
  case round =>
    obtain ⟨i, pre, rfl, hi, hJr, hK, hrel⟩ := hrel
    by_cases hlt : i < m.length
    · rcases hM with rfl | ⟨g, rfl, hg, hM⟩
      · simp at hlt
      · obtain ⟨s1, s2⟩ := allV_step hrel hlt
        obtain ⟨c0, c1, c2, c3⟩ := fld_cells (hM i hlt)
        have c0 := (hK.1.cell (p := ⟨g, i * 4, none⟩) hg).trans c0
        have c1 := (hK.1.cell (p := ⟨g, i * 4 + 1, none⟩) hg).trans c1
        have c2 := (hK.1.cell (p := ⟨g, i * 4 + 2, none⟩) hg).trans c2
        have c3 := (hK.1.cell (p := ⟨g, i * 4 + 3, none⟩) hg).trans c3
        have d2 : wr.cell? ⟨b2, 0, none⟩ = some (.string (toB (smallL nm))) := (World.cell?_of_block (a := ⟨b2, 0, none⟩) hK.2.2).trans h2
        obtain ⟨z1, z2⟩ := hz _ (List.getElem_mem hlt)
        have hSm := fun w => smallH_any m[i].name w (by omega)
        have hUn := fun w1 (hb : Below n₀ W w1) => unfold_any m[i].value w1 q ((hb.cell (p := ⟨1, 0, none⟩) hq0).trans hq) (by omega)
        have hul := unfold_le m[i].value.data.toList
        rw [dataL] at hul
        obtain ⟨U, hUe, hUd, hUs⟩ := arrE (unfoldL m[i].value.data.toList)
        have hU2 : toB (unfoldL m[i].value.data.toList) = U := hUe.symm
        rw [hU2] at hUn
        have hTr := fun w => trimB_any U w (by omega)
        rw [hUd] at hTr
        have hvo : toB (Hd.trimB (unfoldL m[i].value.data.toList)) = toB (valueOf m[i]) := rfl
        rw [hvo] at hTr
        have hnd : isNamed nm m[i] = (!m[i].bad && ((toB (smallL m[i].name.data.toList)).toList == (toB (smallL nm)).toList)) := by
          unfold isNamed
          rw [Lib.toList_data, Lib.toList_data, toB_data, toB_data]
        generalize isNamed nm m[i] = nd at s1 s2 hnd
        generalize toB (valueOf m[i]) = Y at s1 hTr
        generalize toB (smallL m[i].name.data.toList) = A at hSm hnd
        generalize toB (smallL nm) = B at hnd d2
        generalize m[i].name = x0 at *
        generalize m[i].value = x1 at *
        generalize m[i].raw = x2 at *
        generalize m[i].bad = x3 at *
        have HSm := Lib.hid hSm
        have HUn := Lib.hid hUn
        have HTr := Lib.hid hTr
        have hmx : Tryz.prog.follows .mixedOrders = true := by kernel_rfl
        have hzr := Nat.lt_of_lt_of_le hb1 (Nat.le_trans hWz hK.1.size)
        clear hSm hUn hTr hUe hUd hUs hU2 hul hvo hM hq h1 h2 hc z1 z2
        have hBw : Below wr.heap.size wr (wr.alloc (.cells #[.string x0, .string x1, .string x2, .bool x3] 41)).drew := ((Below.refl _ _).alloc (Nat.le_refl _) _).drew
        have D2 := cell_later hBw d2
        obtain ⟨⟨F0, F1, F2, F3⟩, -⟩ := fld_at (w1 := (wr.alloc (.cells #[.string x0, .string x1, .string x2, .bool x3] 41)).drew) (b := wr.heap.size) (heap_alloc_new wr _)
        have hn0r := Nat.le_trans (Nat.le_trans hn0 hWz) hK.1.size
        have hb2r := Nat.lt_of_lt_of_le hb2 (Nat.le_trans hWz hK.1.size)
        have hJw := fun W' (hb : Below wr.heap.size wr W') => hJ pre wr W' none hJr (grown_of hb) (fun r e => by cases e)
        have hKw := fun W' (hb : Below wr.heap.size wr W') => hK.trans (Kp.of hb hn0r hzr hb2r)
        have HJW := Lib.hid hJw
        have HKW := Lib.hid hKw
        clear hJw hKw
        cases x3 with
        | true =>
          have hd := s2 (by rw [hnd]; rfl)
          clear s1 s2 hrel hnd D2 d2 F0 F1 F2
          gi_wp2
          first | gi_region_with_o (fail) | fail
          all_goals gi_wp2
          all_goals go_roundw
          all_goals first | exact ⟨i + 1, pre, by go_num, by omega, HJW.out _ hBw, HKW.out _ hBw, hd⟩ | (simp [intOf]; omega)
        | false =>
          cases hcmp : (A.toList == B.toList) with
          | false =>
            have hd := s2 (by rw [hnd, hcmp]; rfl)
            clear s1 s2 hrel hnd d2
            gi_wp2
            first | gi_region_with_o (refine ⟨fun _ => (by omega), ?_⟩; (with_reducible refine ((callsIn_wide).2 (HSm.out _)).mono ?_); rintro e w1 ⟨rfl, hb1⟩; have e2 := cell_later hb1 D2; have hBw := hBw.trans (hb1.mono hBw.size)) | fail
            all_goals gi_wp2
            all_goals go_roundw
            all_goals first | exact ⟨i + 1, pre, by go_num, by omega, HJW.out _ hBw, HKW.out _ hBw, hd⟩ | (simp [intOf]; omega)
          | true =>
            have hd := s1 (by rw [hnd, hcmp]; rfl)
            have hlen : pre.length < (allV m nm).length := by
              have e := hd.out
              rw [← e]; simp
            have hpx : pre ++ [Y] <+: allV m nm := ⟨allV (m.drop (i + 1)) nm, hd.out⟩
            have HY := Lib.hid (fun W' (hb : Below wr.heap.size wr W') => hY pre Y W' (HJW.out W' hb) hlen)
            have HUW := Lib.hid (fun W' (hb : Below wr.heap.size wr W') => HUn.out W' ((hK.1.trans (hb.mono hn0r))))
            clear s1 s2 hrel hnd d2 hlen HUn hY
            gi_wp2
            first | gi_region_with_o (first
              | (refine ⟨fun _ => (by omega), ?_⟩; (with_reducible refine ((callsIn_wide).2 (HSm.out _)).mono ?_); rintro e w1 ⟨rfl, hb1⟩; have e2 := cell_later hb1 D2; have e1 := cell_later hb1 F1; have hBw := hBw.trans (hb1.mono hBw.size))
              | (refine ⟨fun _ => (by omega), ?_⟩; (with_reducible refine ((callsIn_wide).2 (HUW.out _ hBw)).mono ?_); rintro e w2 ⟨rfl, hb2⟩; have hBw := hBw.trans (hb2.mono hBw.size))
              | (refine ⟨fun _ => (by omega), ?_⟩; (with_reducible refine ((callsIn_wide).2 (HTr.out _)).mono ?_); rintro e w3 ⟨rfl, hb3⟩; have hBw := hBw.trans (hb3.mono hBw.size); obtain ⟨fn, tmps, assign, body, hy, hR⟩ := HY.out _ hBw)
              | (refine ⟨fun _ => (by omega), ?_⟩; refine hR.mono ?_; intro e W3 hh; obtain ⟨bb, rfl, hbb⟩ := yield_bool hh)) | fail
            all_goals
              rcases hbb with ⟨rfl, hJ3, hk3⟩ | ⟨rfl, hJ3⟩
              · gi_wp2
                go_roundw
                case rel => exact ⟨i + 1, _, by go_num, by omega, hJ3, (HKW.out _ hBw).trans hk3, hd⟩
                case measure => simp [intOf]; omega
              · gi_wp2
                refine bodyPost_ret (results_none rfl _ _ _) rfl ?_
                exact ⟨⟨_, rfl⟩, .inr ⟨_, hpx, hJ3⟩⟩
    · have hX := allV_end hrel hlt
      gi_wp2
      go_end0
      exact ⟨⟨_, rfl⟩, .inl ⟨_, hX, hJr⟩⟩
end Go.Proofs.YtnclbbgdfaeilaaGreatDoor
