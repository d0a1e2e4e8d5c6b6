/- Walks: fold.Units. -/
import Derived.Test.YtlbnhkojfefccaaDoorFd2
import Derived.Test.YtlbnhkojfefccaaDoorUnitP
namespace Go.Proofs.YtlbnhkojfefccaaDoor
open Go.RowKit Pk U8 Su Fo

theorem ssF : StrSl Tryd.prog 24 9 where
  ht := Tryd.underlying24
  hi := info_parts (show (Tryd.prog.info? 9).map (fun i => (i.zero, i.size, i.bytes)) = some (some (.string ⟨#[]⟩), 1, 16) by kernel_rfl)
def UnitsP (us : List ByteArray) (w : World) (e : Ending) (w' : World) : Prop := ∃ v, e = .returned v ∧ ownsS w' w.heap.size 9 v us ∧ Below w.heap.size w w'
theorem ownsS.base {w : World} {B C : Nat} {e : TypeId} {v : Value} {l : List ByteArray} (h : ownsS w B e v l) (hC : C ≤ B) : ownsS w C e v l := by
  refine ⟨h.1, ?_⟩
  rcases h.2 with hn | ⟨g, cap, cur, h1, h2, h3⟩
  · exact .inl hn
  · exact .inr ⟨g, cap, cur, h1, by omega, h3⟩
theorem iter_kept {w w' : World} {B q : Nat} {e : TypeId} {v : Value} {l : List ByteArray} {o : Obj} {x : Obj} (hown : ownsS w B e v l) (hg : (w.alloc o).grownBy w' v.ownBlock) (hq : q < B) (hz : B ≤ w.heap.size) (hit : w.heap[q]? = some x) : w'.heap[q]? = some x := by
  rw [hg.block q (by simp; omega) (fun e => by have := (World.ownsRow.lt hown q e.symm).1; omega)]
  exact (heap_alloc_old w o (by omega)).trans hit
theorem units_push {s : ByteArray} {q : Nat} {acc X : List ByteArray} (h : Hid (acc ++ unitsB (tl s q) = X)) (hq : q < s.size) {p : Nat} (hp : p = q + (dec (tl s q)).2) : Hid (acc ++ [s.extract q p] ++ unitsB (tl s p) = X) := by
  have := walk_step (g := unitG) h hq
  rw [unitG_tl, ← hp] at this
  exact this
set_option maxHeartbeats 2000000 in
set_option maxRecDepth 100000 in
theorem unitsP_any (s : ByteArray) (w : World) (hs : s.size ≤ 10000000) : Calls Tryd.prog 10 #[.string s] w (UnitsP (unitsB s.data.toList) w) := by
  go_enter Tryd.func10, Tryd.ntmps10
  go_wp2
  go_loopw [3, 4] (fun ov lv wr => ∃ (pos last : Nat) (acc : List ByteArray), lv = .int .i64 last ∧ wr.heap[w.heap.size]? = some (.stringIter s pos) ∧ ownsS wr (w.heap.size + 1) 9 ov acc ∧ Below w.heap.size w wr ∧ w.heap.size + 1 ≤ wr.heap.size ∧ pos ≤ s.size ∧ last ≤ pos ∧ acc.length ≤ last ∧ (pos = 0 ∨ last < pos ∧ Hid (pos = last + (dec (tl s last)).2)) ∧ Hid (acc ++ unitsB (tl s last) = unitsB (tl s 0))) (fun _ _ wr => s.size - wr.iterPos w.heap.size)
  case atStart =>
    have h0 := World.iter_heap w s 0
    have h1 : (w.iter s 0).heap[w.heap.size]? = some (.stringIter s 0) := by simpa using h0
    exact ⟨0, 0, [], by first | rfl | trivial, h1, ownsS.nil _ _ _, (Below.refl _ _).alloc (Nat.le_refl _) _, (Array.getElem?_eq_some_iff.1 h1).1, by omega, by omega, by first | (simp; done) | exact Nat.le_refl _, .inl rfl, rfl⟩
  case round =>
    obtain ⟨pos, last, acc, rfl, hit, hown, hbel, hz, hpos, hlp, hal, hor, hrel⟩ := hrel
    by_cases hp : pos < s.size
    · obtain ⟨wd1, wd2, wd3⟩ := width_le hp
      have hnx0 := fun ty => Lib.run_next_any_at (P := Tryd.prog) wr w.heap.size s pos ty hit hp
      rw [dec_eq] at hnx0
      obtain ⟨W2, hW2⟩ : ∃ W2, W2 = wr.iterAt w.heap.size s (pos + (dec (tl s pos)).2) := ⟨_, rfl⟩
      have hit2 : W2.heap[w.heap.size]? = some (.stringIter s (pos + (dec (tl s pos)).2)) := by rw [hW2]; exact Lib.iterAt_heap _ _ _ _ _ hit
      have hown2 : ownsS W2 (w.heap.size + 1) 9 u3 acc := by rw [hW2]; exact ownsRow_iterAt hown (by omega) _ _
      have hbel2 : Below w.heap.size w W2 := by rw [hW2]; exact Lib.below_iterAt hbel (by omega) _ _
      have hz2 : w.heap.size + 1 ≤ W2.heap.size := by rw [hW2, Lib.iterAt_size]; exact hz
      rw [← hW2] at hnx0
      have hR : Hid (pos + (dec (tl s pos)).2 = pos + (dec (tl s pos)).2) := rfl
      have hRun := fun (h : last < pos) (hp2 : pos = last + (dec (tl s last)).2) => units_push hrel (by omega) hp2
      obtain ⟨R, hRR⟩ : ∃ R, R = dec (tl s pos) := ⟨_, rfl⟩
      rw [← hRR] at wd1 wd2 wd3 hnx0 hit2
      have HIP := Lib.hid (iter_pos hit)
      have hwd : Hid (pos + R.2 = pos + (dec (tl s pos)).2) := by show _ = _; rw [hRR]
      have hnx : ∀ ty, (Instr.next (.pointer (some ⟨w.heap.size, 0, none⟩)) true ty).run Tryd.prog wr = .ok (.tuple #[.bool true, .int .i64 pos, .int .i32 R.1]) W2 := hnx0
      clear hnx0 hW2 hit hown hbel hRR hR
      rcases hor with rfl | ⟨hlt, hpe⟩
      · obtain rfl : last = 0 := by omega
        clear hRun
        go_wp2
        go_roundw
        case rel => exact ⟨0 + R.2, 0, acc, by first | rfl | trivial, hit2, hown2, hbel2, hz2, by omega, by omega, by omega, .inr ⟨by omega, hwd⟩, hrel⟩
        case measure => rw [HIP.out, iter_pos hit2]; omega
      · have hd := hRun hlt hpe.out
        clear hRun hrel
        go_wp2_with (at_builtin; refine append_str _ rfl (.tmp 14) (.tmp 19) ssF rfl (w.heap.size + 1) _ _ rfl (ownsS.alloc hown2 _) ⟨_, 0, none⟩ 1 1 [_] rfl rfl (cells_new _ _ _) (by first | omega | (simp; done) | (simp; omega)) (by first | omega | (simp; done) | (simp; omega)) ?_; intro v6 w6 hown6 hg6; have hit6 := iter_kept hown2 hg6 (by omega) (by omega) hit2; have hb6 := Below_grownS (Below.alloc hbel2 (Nat.le_of_succ_le hz2) _) (ownsS.alloc (ownsS.base hown2 (Nat.le_succ _)) _) hg6 (by first | omega | (simp; done) | (simp; omega)); clear hg6)
        go_roundw
        case rel => exact ⟨pos + R.2, pos, _, by go_num, hit6, hown6, hb6, (Array.getElem?_eq_some_iff.1 hit6).1, by omega, by omega, by rw [List.length_append, List.length_singleton]; omega, .inr ⟨by omega, hwd⟩, hd⟩
        case measure => rw [HIP.out, iter_pos hit6]; omega
    · have hnx : ∀ ty, (Instr.next (.pointer (some ⟨w.heap.size, 0, none⟩)) true ty).run Tryd.prog wr = _ := fun ty => Lib.run_next_end_at wr w.heap.size s pos ty hit hp
      by_cases hl : last < s.size
      · have hpe : s.size = last + (dec (tl s last)).2 := by
          rcases hor with rfl | ⟨h1, h2⟩
          · omega
          · have := h2.out; omega
        have hd := units_push hrel hl hpe
        have hfin := walk_end (g := unitG) (s := s) (p := s.size) hd (by omega)
        have HF := Lib.hid hfin
        clear hrel hor hd hfin hpe
        go_wp2_with (at_builtin; refine append_str _ rfl (.tmp 26) (.tmp 30) ssF rfl (w.heap.size + 1) _ _ rfl (ownsS.alloc hown _) ⟨_, 0, none⟩ 1 1 [_] rfl rfl (cells_new _ _ _) (by first | omega | (simp; done) | (simp; omega)) (by first | omega | (simp; done) | (simp; omega)) ?_; intro v6 w6 hown6 hg6; have hb6 := Below_grownS (Below.alloc hbel (Nat.le_of_succ_le hz) _) (ownsS.alloc (ownsS.base hown (Nat.le_succ _)) _) hg6 (by first | omega | (simp; done) | (simp; omega)); clear hg6)
        have hpost : Hid (UnitsP (unitsB s.data.toList) w (.returned v6) w6) := ⟨v6, rfl, by
          have e := HF.out
          rw [tl_zero] at e
          have e2 : acc ++ [s.extract last s.size] = unitsB s.data.toList := e
          rw [e2] at hown6
          exact ownsS.base hown6 (by omega), hb6⟩
        go_ret
        exact hpost.out
      · have hfin := walk_end (g := unitG) hrel hl
        have hpost : Hid (UnitsP (unitsB s.data.toList) w (.returned u3) wr) := ⟨u3, rfl, by
          rw [tl_zero] at hfin
          have e2 : acc = unitsB s.data.toList := hfin
          rw [e2] at hown
          exact ownsS.base hown (by omega), hbel⟩
        clear hrel hor hfin hown
        go_wp2
        go_ret
        exact hpost.out
end Go.Proofs.YtlbnhkojfefccaaDoor
