/- Walks: header: named, Get, All. -/
import Derived.Test.YtnclbbgdfaeilaaGreatDoorHd5
namespace Go.Proofs.YtnclbbgdfaeilaaGreatDoor
open Go.RowKit Go.Shelf Pk Hd

attribute [local go_sem] Oper.semAt_some

set_option maxHeartbeats 1000000 in
set_option maxRecDepth 100000 in
theorem named_any (p : Option Addr) (n c : Nat) (s : ByteArray) (w : World) (hs : s.size ≤ 10000000) : Calls Tryz.prog 33 #[.slice p n c, .string s] w fun e w' => e = .returned (.func (.func 64) #[] #[.pointer (some ⟨w.heap.size, 0, none⟩), .pointer (some ⟨w.heap.size + 1, 0, none⟩)]) ∧
    w'.cell? ⟨w.heap.size, 0, none⟩ = some (.slice p n c) ∧ w'.cell? ⟨w.heap.size + 1, 0, none⟩ = some (.string (toB (smallL s.data.toList))) ∧ Below w.heap.size w w' ∧ w.heap.size + 1 < w'.heap.size := by
  have hSm := fun w => smallH_any s w (by omega)
  have HSm := Lib.hid hSm
  have a0 := (Lib.cell_of_heap (heap_alloc_new w (.cells #[.slice p n c] 25)) 0).trans rfl
  have a1 : ((w.alloc (.cells #[.slice p n c] 25)).alloc (.cells #[.string s] 9)).heap[w.heap.size + 1]? = some (.cells #[.string s] 9 (0, 0)) := by
    have := heap_alloc_new (w.alloc (.cells #[.slice p n c] 25)) (.cells #[.string s] 9)
    simpa using this
  have a2 : ((w.alloc (.cells #[.slice p n c] 25)).alloc (.cells #[.string s] 9)).heap[w.heap.size]? = some (.cells #[.slice p n c] 25 (0, 0)) :=
    (heap_alloc_old _ _ (by simp)).trans (heap_alloc_new w _)
  have hb0 : Below w.heap.size w ((w.alloc (.cells #[.slice p n c] 25)).alloc (.cells #[.string s] 9)) := ((Below.refl _ w).alloc (Nat.le_refl _) _).alloc (by simp) _
  have hz0 : w.heap.size + 1 < ((w.alloc (.cells #[.slice p n c] 25)).alloc (.cells #[.string s] 9)).heap.size := by simp
  clear hSm a0
  have A1 := Lib.hid a1
  have A2 := Lib.hid a2
  clear a1 a2
  go_enter Tryz.func33, Tryz.ntmps33
  go_wp2_with (go_at_call 63; go_loud ((with_reducible refine (HSm.out _).mono ?_); rintro e w1 ⟨rfl, hb1⟩; have k1 := (hb1.block _ hz0).trans A1.out; have k2 := (hb1.block _ (Nat.lt_of_succ_lt hz0)).trans A2.out; have c1 := (Lib.cell_of_heap k1 0).trans rfl; have f1 : w1.frozen? ⟨w.heap.size + 1, 0, none⟩ = false := (by simp [World.frozen?, k1])))
  go_ret
  have c2 := (Lib.cell_of_heap k2 0).trans rfl
  refine ⟨rfl, ?_, ?_, (hb0.trans (hb1.mono hb0.size)).setCell (p := ⟨w.heap.size + 1, 0, none⟩) (by simp) _, by simp; exact Nat.lt_of_lt_of_le hz0 hb1.size⟩
  · exact (World.cell?_setCell_other _ _ _ _ (fun e => by injection e with e _ _; omega)).trans c2
  · exact World.cell?_setCell_same' _ _ _ (by rw [c1]; rfl)
theorem Kp.put {n b1 b2 : Nat} {w : World} (hn : n ≤ w.heap.size) (h1 : b1 < w.heap.size) (h2 : b2 < w.heap.size) (W : World) (l : Nat) (o o' : Obj) (hl : w.heap.size ≤ l) (h : W.heap[l]? = some o) (hc : o.isCells = false) (hk : o.isWalk = false) : Kp n b1 b2 W (W.putObj l o') :=
  ⟨belowK_b hn W l o o' hl h hc hk, (belowK_b (n₀ := w.heap.size) (Nat.le_refl _) W l o o' hl h hc hk).block b1 h1, (belowK_b (n₀ := w.heap.size) (Nat.le_refl _) W l o o' hl h hc hk).block b2 h2⟩
def GetIs (xs : List ByteArray) (w : World) (e : Ending) (w' : World) : Prop := (match xs with | [] => e = .returned (.tuple #[.string ⟨#[]⟩, .bool false]) | x :: _ => e = .returned (.tuple #[.string x, .bool true])) ∧ Below w.heap.size w w'
set_option maxHeartbeats 4000000 in
set_option maxRecDepth 100000 in
theorem get_any (v : Value) (m : List Fld) (s : ByteArray) (w : World) (hs : s.size ≤ 10000000) (hm : m.length ≤ 1000000) (hz : ∀ x ∈ m, x.name.size ≤ 1000000 ∧ x.value.size ≤ 1000000) (q : Int) (hq : w.cell? ⟨1, 0, none⟩ = some (.int .i64 q)) (hM : seesG fldLay w w.heap.size 41 v m) :
    Calls Tryz.prog 10 #[v, .string s] w (GetIs (allV m s.data.toList) w) := by
  have hq0 := World.block_lt_of_cell? _ _ hq
  obtain ⟨p, c, hv, -⟩ := hM.form
  subst hv
  refine (callsIn_wide (n := 8)).1 ?_
  refine callsIn_of_wp_marks Tryz.func10 rfl trivial ?_ rfl
  simp only [Tryz.ntmps10, List.size_toArray, List.length_cons, List.length_nil, Nat.reduceAdd, Nat.reduceSub, Array.replicate_succ, Array.replicate_zero, List.push_toArray, List.append_toArray, List.nil_append, List.cons_append]
  have hN := fun w => named_any p m.length c s w hs
  have HN := Lib.hid hN
  clear hN
  gi_wp2_with (refine ⟨trivial, ?_⟩; gi_at_call 33; refine (callsIn_wide.2 (HN.out _)).mono ?_; rintro e w3 ⟨rfl, k1, k2, hb3, hz3⟩)
  simp only [World.size_alloc] at k1 k2 hz3
  have g0 : w3.heap[w.heap.size]? = some (.cells #[.string ⟨#[]⟩] 9 (0, 0)) := (hb3.block _ (by simp; omega)).trans ((heap_alloc_old _ _ (by simp)).trans (heap_alloc_new w _))
  have g1 : w3.heap[w.heap.size + 1]? = some (.cells #[.bool false] 4 (0, 0)) := (hb3.block _ (by simp)).trans (by
    have := heap_alloc_new (w.alloc (.cells #[.string ⟨#[]⟩] 9)) (.cells #[.bool false] 4)
    simpa using this)
  have hB0 : Below w.heap.size w w3 := (((Below.refl _ w).alloc (Nat.le_refl _) _).alloc (by simp) _).trans (hb3.mono (by simp; omega))
  have hMx := hM.below hB0 (Nat.le_refl _)
  have hq3 := cell_later hB0 hq
  have c0 : w3.cell? ⟨w.heap.size, 0, none⟩ = some (.string ⟨#[]⟩) := (Lib.cell_of_heap g0 0).trans rfl
  have c1 : w3.cell? ⟨w.heap.size + 1, 0, none⟩ = some (.bool false) := (Lib.cell_of_heap g1 0).trans rfl
  have f0 : w3.frozen? ⟨w.heap.size, 0, none⟩ = false := by simp [World.frozen?, g0]
  have f1 : w3.frozen? ⟨w.heap.size + 1, 0, none⟩ = false := by simp [World.frozen?, g1]
  clear hb3 g0 g1
  have hn0 : w.heap.size ≤ w3.heap.size := by omega
  have y1 : w.heap.size + 1 + 1 < w3.heap.size := by omega
  have y2 : w.heap.size + 1 + 1 + 1 < w3.heap.size := by omega
  refine wpIn_rangeFunc_ownF rfl (by omega) (gf := 64) (lb := #[.pointer (some ⟨w.heap.size + 1 + 1, 0, none⟩), .pointer (some ⟨w.heap.size + 1 + 1 + 1, 0, none⟩)]) rfl trivial (enters_of Tryz.func64 (by kernel_rfl) rfl)
    (named1_stops 7 (by omega) m hm hz s.data.toList (.slice p m.length c) w.heap.size (w.heap.size + 1 + 1) (w.heap.size + 1 + 1 + 1) w3 q hq3 hq0 hMx k1 k2 hn0 y1 y2) Kp.trans (Kp.put hn0 y1 y2) (Below.refl _ _) (fun _ => rfl)
    (fun pre W => (pre = [] ∧ W.cell? ⟨w.heap.size, 0, none⟩ = some (.string ⟨#[]⟩) ∧ W.frozen? ⟨w.heap.size, 0, none⟩ = false ∧ W.cell? ⟨w.heap.size + 1, 0, none⟩ = some (.bool false) ∧ W.frozen? ⟨w.heap.size + 1, 0, none⟩ = false) ∧ Below w.heap.size w W)
    (fun c pre W => (c = .ret ∧ ∃ x, pre = [x] ∧ W.cell? ⟨w.heap.size, 0, none⟩ = some (.string x) ∧ W.cell? ⟨w.heap.size + 1, 0, none⟩ = some (.bool true)) ∧ Below w.heap.size w W)
    (OwnFrom.and (Own.from (fun s A B row hs hg hr => ⟨hs.1, cell_kept hs.2.1 hg hr, (frozen_kept hs.2.1 hg hr).trans hs.2.2.1, cell_kept hs.2.2.2.1 hg hr, (frozen_kept hs.2.2.2.1 hg hr).trans hs.2.2.2.2⟩) _) (ownFrom_below (Nat.le_refl _) (by omega)))
    (fun c => OwnFrom.and (Own.from (fun s A B row hs hg hr => by obtain ⟨h1, x, h2, h3, h4⟩ := hs; exact ⟨h1, x, h2, cell_kept h3 hg hr, cell_kept h4 hg hr⟩) _) (ownFrom_below (Nat.le_refl _) (by omega)))
    ⟨⟨rfl, c0, f0, c1, f1⟩, hB0⟩
    (fun x => { tmps := #[.slice p m.length c, .string s, undef, undef, .pointer (some ⟨w.heap.size, 0, none⟩), .pointer (some ⟨w.heap.size + 1, 0, none⟩), .string x, .slice p m.length c, .string s, .func (.func 64) #[] #[.pointer (some ⟨w.heap.size + 1 + 1, 0, none⟩), .pointer (some ⟨w.heap.size + 1 + 1 + 1, 0, none⟩)], .string x, undef], defers := [] }) ?assign ?body ?done ?stop
  case assign =>
    intro l x W K hK
    gi_wp2
    exact hK
  case body =>
    rintro l pre x W ⟨⟨rfl, hc0, hf0, hc1, hf1⟩, hB⟩ _
    have hc1' : (W.setCell ⟨w.heap.size, 0, none⟩ (.string x)).cell? ⟨w.heap.size + 1, 0, none⟩ = some (.bool false) := (World.cell?_setCell_other _ _ _ _ (fun e => by injection e with e _ _; omega)).trans hc1
    have hf1' : (W.setCell ⟨w.heap.size, 0, none⟩ (.string x)).frozen? ⟨w.heap.size + 1, 0, none⟩ = false := by rw [World.frozen?_setCell]; exact hf1
    gi_wp2
    refine ⟨(KeepsOthers.setCell _ _ _).trans (KeepsOthers.setCell _ _ _), ⟨rfl, x, rfl, ?_, World.cell?_setCell_same' _ _ _ (by rw [hc1']; rfl)⟩, (hB.setCell (p := ⟨w.heap.size, 0, none⟩) (Nat.le_refl _) _).setCell (p := ⟨w.heap.size + 1, 0, none⟩) (by simp) _⟩
    exact (World.cell?_setCell_other _ _ _ _ (fun e => by injection e with e _ _; omega)).trans (World.cell?_setCell_same' _ _ _ (by rw [hc0]; rfl))
  case done =>
    rintro D ys W hD hy ⟨⟨rfl, hc0, hf0, hc1, hf1⟩, hB⟩ hK
    have hc1' : (W.setCell ⟨w.heap.size, 0, none⟩ (.string ⟨#[]⟩)).cell? ⟨w.heap.size + 1, 0, none⟩ = some (.bool false) := (World.cell?_setCell_other _ _ _ _ (fun e => by injection e with e _ _; omega)).trans hc1
    have hf1' : (W.setCell ⟨w.heap.size, 0, none⟩ (.string ⟨#[]⟩)).frozen? ⟨w.heap.size + 1, 0, none⟩ = false := by rw [World.frozen?_setCell]; exact hf1
    gi_wp2
    have hK' := ((KeepsOthers.setCell W ⟨w.heap.size, 0, none⟩ (.string ⟨#[]⟩)).trans (KeepsOthers.setCell _ ⟨w.heap.size + 1, 0, none⟩ (.bool false))).same D _ hK rfl
    refine ⟨by simp, .inl ⟨_, _, rfl, run_takeDeferred hK', ?_⟩⟩
    have e0 := (World.cell?_setCell_other (W.setCell ⟨w.heap.size, 0, none⟩ (.string ⟨#[]⟩)) ⟨w.heap.size + 1, 0, none⟩ ⟨w.heap.size, 0, none⟩ (.bool false) (fun e => by injection e with e _ _; omega)).trans (World.cell?_setCell_same' W ⟨w.heap.size, 0, none⟩ (.string ⟨#[]⟩) (by rw [hc0]; rfl))
    have e1 := World.cell?_setCell_same' (W.setCell ⟨w.heap.size, 0, none⟩ (.string ⟨#[]⟩)) ⟨w.heap.size + 1, 0, none⟩ (.bool false) (by rw [hc1']; rfl)
    have u0 := cell_kept e0 (grownBy_putObj' _ D (.deferred none)) (fun r e => by cases e; exact ⟨_, hK', rfl⟩)
    have u1 := cell_kept e1 (grownBy_putObj' _ D (.deferred none)) (fun r e => by cases e; exact ⟨_, hK', rfl⟩)
    refine ⟨.tuple #[.string ⟨#[]⟩, .bool false], ?_, ?_⟩
    · simp [results, Tryz.f10, go_sem, u0, u1]
    · unfold GetIs
      rw [← hy]
      exact ⟨rfl, ((hB.setCell (p := ⟨w.heap.size, 0, none⟩) (Nat.le_refl _) _).setCell (p := ⟨w.heap.size + 1, 0, none⟩) (by simp) _).trans (belowK_b (w := w) (Nat.le_refl _) _ D _ _ (by omega) hK' rfl rfl)⟩
  case stop =>
    rintro D c pre W hD ⟨t, hpre⟩ ⟨⟨rfl, x, rfl, hc0, hc1⟩, hB⟩ hK
    gi_wp2
    refine ⟨by simp, .inl ⟨_, _, rfl, run_takeDeferred hK, ?_⟩⟩
    have u0 := cell_kept hc0 (grownBy_putObj' _ D (.deferred none)) (fun r e => by cases e; exact ⟨_, hK, rfl⟩)
    have u1 := cell_kept hc1 (grownBy_putObj' _ D (.deferred none)) (fun r e => by cases e; exact ⟨_, hK, rfl⟩)
    refine ⟨.tuple #[.string x, .bool true], ?_, ?_⟩
    · simp [results, Tryz.f10, go_sem, u0, u1]
    · unfold GetIs
      rw [← hpre]
      exact ⟨rfl, hB.trans (belowK_b (w := w) (Nat.le_refl _) W D _ _ (by omega) hK rfl rfl)⟩
end Go.Proofs.YtnclbbgdfaeilaaGreatDoor
