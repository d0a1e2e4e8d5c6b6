/- Walks: token: Scan, Join, Bare. -/
import Derived.Test.YtilccofdphohiaaGreatDoorTk3
import Derived.Test.YtilccofdphohiaaGreatDoorTkQ
import Derived.Test.YtilccofdphohiaaGreatDoorStrK
import Derived.Test.YtilccofdphohiaaGreatDoorBld
namespace Go.Proofs.YtilccofdphohiaaGreatDoor
open Go.RowKit Pk Tk Su Fo

theorem elT : ElSl Tryz.prog 38 43 where
  ht := Tryz.underlying38
  hi := info_parts (show (Tryz.prog.info? 43).map (fun i => (i.zero, i.size, i.bytes)) = some (some (.agg #[.int .i64 0, .string ⟨#[]⟩]), 2, 24) by kernel_rfl)
theorem fresh_after {w w1 : World} {cs : Array Value} {t : TypeId} (hb : Below (w.alloc (.cells cs t)).heap.size (w.alloc (.cells cs t)) w1) : Below w.heap.size w w1 ∧ w1.heap[w.heap.size]? = some (.cells cs t (0, 0)) ∧ w.heap.size < w1.heap.size := by
  have h1 : w.heap.size < (w.alloc (.cells cs t)).heap.size := by simp
  have h2 := (hb.block w.heap.size h1).trans (heap_alloc_new w _)
  exact ⟨((Below.refl _ w).alloc (Nat.le_refl _) _).trans (hb.mono (Nat.le_of_lt h1)), h2, lt_of_block h2⟩
theorem frozen_z {w : World} {b j : Nat} {cs : Array Value} {t : TypeId} (h : w.heap[b]? = some (Obj.cells cs t (0, 0))) : w.frozen? ⟨b, j, none⟩ = false := by simp [World.frozen?, h]
theorem cells_at (w : World) (B : Nat) (hB : w.heap.size = B) (cs : List Value) (t : TypeId) : ∀ j u, cs[j]? = some u → (w.alloc (.cells cs.toArray t)).cell? ((⟨B, 0, none⟩ : Addr).add j) = some u := by
  subst hB; exact cells_new w cs t
theorem heap_size_alloc_le (w : World) (o : Obj) : w.heap.size ≤ (w.alloc o).heap.size := by simp
def ToksIs (m : List El) (w : World) (e : Ending) (w' : World) : Prop := ∃ v, e = .returned v ∧ ownsE w' w.heap.size 43 v m ∧ Below w.heap.size w w'
theorem tok_of {S : ByteArray} {k n : Nat} (e : frS S = (k, n)) : tok S.data.toList = ⟨k, S.extract 0 n⟩ := by
  unfold tok
  have : fr S.data.toList = (k, n) := e
  rw [this, ext_to]
theorem sc_step {S : ByteArray} {k n : Nat} {acc X : List El} (h : Hid (acc ++ sc S.data.toList = X)) (h0 : 0 < S.size) (e : frS S = (k, n)) : Hid (acc ++ [⟨k, S.extract 0 n⟩] ++ sc (S.extract n S.size).data.toList = X) := by
  have e0 := h.out
  rw [sc_cons (fun e => by have := dataL S; rw [e] at this; simp at this; omega), tok_of e] at e0
  have : fr S.data.toList = (k, n) := e
  rw [this] at e0
  show _ = _
  rw [ext_from, ← e0]; simp
theorem sc_stop {S : ByteArray} {acc X : List El} (h : Hid (acc ++ sc S.data.toList = X)) (h0 : S.size = 0) : acc = X := by
  have e0 := h.out
  rw [List.eq_nil_of_length_eq_zero (show S.data.toList.length = 0 from h0), sc_nil, List.append_nil] at e0
  exact e0
set_option maxHeartbeats 4000000 in
set_option maxRecDepth 100000 in
theorem scan_any (s : ByteArray) (w : World) (hs : s.size ≤ 10000000) : Calls Tryz.prog 26 #[.string s] w (ToksIs (sc s.data.toList) w) := by
  go_enter Tryz.func26, Tryz.ntmps26
  go_wp2
  go_loopw [0, 2] (fun sv lv wr => ∃ (S : ByteArray) (acc : List El), sv = .string S ∧ ownsE wr w.heap.size 43 lv acc ∧ Below w.heap.size w wr ∧ acc.length + S.size ≤ s.size ∧ Hid (acc ++ sc S.data.toList = sc s.data.toList)) (fun sv _ _ => match sv with | .string S => S.size | _ => 0)
  case atStart => exact ⟨s, [], rfl, ownsE.nil _ _ _, Below.refl _ _, by simp, rfl⟩
  case round =>
    obtain ⟨S, acc, rfl, hown, hbel, hal, hrel⟩ := hrel
    have hz := hbel.size
    by_cases h0 : 0 < S.size
    · have hF := fun W => front_any S W h0 (by omega)
      have hr : 1 ≤ (frS S).2 ∧ (frS S).2 ≤ S.size := fr_rng (l := S.data.toList) (fun e => by have := dataL S; rw [e] at this; simp at this; omega)
      obtain ⟨⟨k, n⟩, e⟩ : ∃ p, frS S = p := ⟨_, rfl⟩
      have hst := sc_step hrel h0 e
      unfold FrRet at hF
      rw [e] at hF hr
      have hne := neS h0
      have hx := ext_size S n S.size
      have HF := Lib.hid hF
      generalize S.extract 0 n = T at HF hst
      generalize S.extract n S.size = R at HF hst hx
      obtain ⟨r1, r2⟩ := hr
      have hx2 : R.size + n = S.size := by simp at hx r2; omega
      clear hF hrel e hx
      have r1 : 1 ≤ n := r1
      clear r2
      go_wp2_with (first
        | (go_at_call 45; go_loud ((with_reducible refine (HF.out _).mono ?_); rintro e w1 ⟨rfl, hb1⟩; obtain ⟨hbA, hk, hzA⟩ := fresh_after hb1; have c0 := (Lib.cell_of_heap hk 0).trans rfl; have c1 := (Lib.cell_of_heap hk 1).trans rfl; have f0 := frozen_z (j := 0) hk; have f1 := frozen_z (j := 1) hk; clear hk))
        | (at_builtin; go_loud (refine append_el _ rfl (.tmp 11) (.tmp 13) elT rfl w.heap.size _ _ rfl (ownsE.alloc (ownsE.below hown ((hbA.setCell (p := ⟨wr.heap.size, 0, none⟩) (Nat.le_refl _) _).setCell (p := ⟨wr.heap.size, 1, none⟩) (Nat.le_refl _) _) (Nat.le_refl _)) _) ⟨_, 0, none⟩ ⟨k, T⟩ 1 rfl (cells_at _ _ (by simp) _ _) (by omega) (by have := hbA.size; simp; omega) ?_; intro v6 w6 hown6 hg6; have hbB := ((hbA.setCell (p := ⟨wr.heap.size, 0, none⟩) (Nat.le_refl _) (.int .i64 k)).setCell (p := ⟨wr.heap.size, 1, none⟩) (Nat.le_refl _) (.string T)); have hb6 := Below_grownE (((hbel.trans (hbB.mono hz)).alloc (Nat.le_trans hz hbB.size) _)) (ownsE.alloc (ownsE.below hown hbB (Nat.le_refl _)) _) hg6 (Nat.le_trans (Nat.le_trans hz hbB.size) (heap_size_alloc_le _ _)); clear hbB hbA hg6)))
      go_roundw
      case rel => exact ⟨R, _, rfl, hown6, hb6, by rw [List.length_append, List.length_singleton]; omega, hst⟩
      case measure => show R.size < S.size; omega
    · have hnil := nilS (S := S) (by omega)
      have hX := sc_stop hrel (by omega)
      have hpost : Hid (ToksIs (sc s.data.toList) w (.returned u2) wr) := ⟨_, rfl, by rw [← hX]; exact hown, hbel⟩
      clear hrel hX hown
      go_wp2
      go_ret
      exact hpost.out
end Go.Proofs.YtilccofdphohiaaGreatDoor
