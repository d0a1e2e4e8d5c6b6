/- Walks: lines: the callers of the iterator: Split (slices.Collect, slices.AppendSeq). -/
import Derived.Test.YtjoipgekmnnlpaaGreatDoorLnW
import Derived.Maps.AppendAt
namespace Go.Proofs.YtjoipgekmnnlpaaGreatDoor
open Go.RowKit Go.Shelf Pk Lx

attribute [local go_sem] Oper.semAt_some
theorem sslN : StrSl Tryz.prog 22 9 where
  ht := Tryz.underlying22
  hi := info_parts (show (Tryz.prog.info? 9).map (fun i => (i.zero, i.size, i.bytes)) = some (some (.string ⟨#[]⟩), 1, 16) by kernel_rfl)
theorem own_base {w : World} {B C size n : Nat} {e : TypeId} {v : Value} {xs : List Value} (h : w.ownsRow B e size v n xs) (hC : C ≤ B) : w.ownsRow C e size v n xs := by
  refine ⟨h.1, ?_⟩
  rcases h.2 with hn | ⟨g, cap, cur, h1, h2, h3⟩
  · exact .inl hn
  · exact .inr ⟨g, cap, cur, h1, by omega, h3⟩
/-- a row that lies from B on stands when a box below B is written -/
theorem own_setBox {w : World} {B b size n : Nat} {e : TypeId} {v : Value} {xs : List Value} (h : w.ownsRow B e size v n xs) (hb : b < B) (u : Value) : w.ownsRow B e size v n xs → (w.setCell ⟨b, 0, none⟩ u).ownsRow B e size v n xs := by
  intro _
  refine ⟨h.1, ?_⟩
  rcases h.2 with hn | ⟨g, cap, cur, h1, h2, h3, h4⟩
  · exact .inl hn
  · exact .inr ⟨g, cap, cur, h1, h2, (Below.heap_setCell w ⟨b, 0, none⟩ u g (by show g ≠ b; omega)).trans h3, h4⟩
theorem linB_len (s : ByteArray) : (linB s).length ≤ s.size := by
  unfold linB
  rw [List.length_map]
  exact Nat.le_trans (linN_len _) (Nat.le_of_eq (dataL s))
def SeqRet (s : ByteArray) (n₀ : Nat) (w : World) (e : Ending) (w' : World) : Prop := ∃ v, e = .returned v ∧ ownsS w' w.heap.size 9 v (linB s) ∧ Below n₀ w w'
set_option maxHeartbeats 4000000 in
set_option maxRecDepth 100000 in
theorem appendSeq_any (s : ByteArray) (hs : s.size ≤ 10000000) (n₀ b1 : Nat) (w : World) (q : Int) (hq : w.cell? ⟨3, 0, none⟩ = some (.int .i64 q)) (hq0 : 3 < n₀) (hbx : Boxed w b1 9 (.string s)) (hb1 : n₀ ≤ b1) :
    Calls Tryz.prog 79 #[.slice none 0 0, .func (.func 80) #[] #[.pointer (some ⟨b1, 0, none⟩)]] w (SeqRet s n₀ w) := by
  have hal := linB_len s
  have hbl := hbx.lt
  obtain ⟨i0, hi, hz0, hz1, hz2⟩ := sslN.hi
  refine (callsIn_wide (n := 8)).1 ?_
  refine callsIn_of_wp_marks Tryz.func79 rfl trivial ?_ rfl
  simp only [Tryz.ntmps79, List.size_toArray, List.length_cons, List.length_nil, Nat.reduceAdd, Nat.reduceSub, Array.replicate_succ, Array.replicate_zero, List.push_toArray, List.append_toArray, List.nil_append, List.cons_append]
  gi_wp2
  obtain ⟨w1, hw1⟩ : ∃ w1, w1 = w.alloc (.cells #[.slice none 0 0] 22) := ⟨_, rfl⟩
  have bO : Boxed w1 w.heap.size 22 (.slice none 0 0) := by rw [hw1]; exact Boxed.new w _ _
  have hB0 : Below w.heap.size w w1 := by rw [hw1]; exact (Below.refl _ w).alloc (Nat.le_refl _) _
  have hz1' : w1.heap.size = w.heap.size + 1 := by rw [hw1]; simp
  have hbx1 : Boxed w1 b1 9 (.string s) := (hB0.block b1 hbl).trans hbx
  have hq1 := cell_later hB0 hq
  rw [← hw1]
  clear hw1
  refine wpIn_range_box rfl (by omega) (gf := 80) (lb := #[.pointer (some ⟨b1, 0, none⟩)]) rfl trivial (enters_of Tryz.func80 (by kernel_rfl) rfl)
    (all1_gives 7 (by omega) s hs n₀ b1 w1 q hq1 hq0 hbx1 hb1) (by omega) KpB.trans (KpB.put (by omega) (by omega)) (Below.refl _ _) (fun _ => rfl)
    (fun pre W => ((∃ v, Boxed W w.heap.size 22 v ∧ W.ownsRow w1.heap.size 9 1 v pre.length (pre.map strV) ∧ True) ∧ Below n₀ w W) ∧ w1.heap.size ≤ W.heap.size)
    (OwnFrom.and (OwnFrom.and (Own.from (holdsRow_own w1.heap.size w.heap.size 22 9 1 (fun pre : List ByteArray => pre.length) (fun pre => pre.map strV) (fun _ _ => True)) _) (ownFrom_below (by omega) (by omega))) (fun s W W' row hs hg _ => Nat.le_trans hs hg.size))
    ?box
    ⟨⟨⟨_, bO, World.ownsRow_nil _ _ _ _, trivial⟩, hB0.mono (by omega)⟩, Nat.le_refl _⟩
    (fun x => { tmps := #[.slice none 0 0, .func (.func 80) #[] #[.pointer (some ⟨b1, 0, none⟩)], .pointer (some ⟨w.heap.size, 0, none⟩), undef, .slice none 0 0, .string x, .func (.func 80) #[] #[.pointer (some ⟨b1, 0, none⟩)], .string x, undef, undef, undef, undef, undef], defers := [] }) ?assign ?body ?done
  case box =>
    rintro pre W u v ⟨⟨⟨v0, hv, hrow, -⟩, hB⟩, hW⟩ hbb
    exact ⟨⟨⟨v0, (Below.heap_setCell W ⟨b1, 0, none⟩ v w.heap.size (by show _ ≠ b1; omega)).trans hv, own_setBox hrow (by omega) v hrow, trivial⟩, hB.setCell (p := ⟨b1, 0, none⟩) hb1 _⟩, by simpa using hW⟩
  case assign =>
    intro l x W K hK
    gi_wp2
    exact hK
  case body =>
    rintro l pre x W hok ⟨⟨⟨v, hv, hrow, -⟩, hB⟩, hW⟩
    have hlt : pre.length + 1 ≤ (linB s).length := by
      have := hok.length_le
      rwa [List.length_append, List.length_singleton] at this
    have hc := hv.cell
    have hrow' := own_base hrow (show w.heap.size ≤ w1.heap.size by omega)
    gi_wp2_with (gi_at_builtin; refine wpListIn_append_own _ rfl _ _ 22 rfl w1.heap.size 9 i0 (.string ⟨#[]⟩) 1 16 sslN.ht hi hz0 hz1 hz2 rfl (by decide) _ _ _ rfl (hrow.alloc _) ⟨W.heap.size, 0, none⟩ 1 1 [.string x] rfl rfl (cell_one_new _ _ _) (by simp [Value.oneCell']) (by unfold maxLen; omega) (by omega) (by simp; omega) ?_; intro v' w2 hown' hgrow _; obtain ⟨g', cap', rfl⟩ := ownsRow_succ hown'; obtain ⟨hv1, hv2, -, hk2, hb2⟩ := hv.appended (by decide) hrow' hB.size (by omega) (own_base hown' (show w.heap.size ≤ w1.heap.size by omega)) hgrow; have hc1 := hv1.cell; have hf1 := hv1.frozen)
    have hr2 := hown'.kept (grownBy_setCell' w2 w.heap.size (.slice (some ⟨g', 0, none⟩) (pre.length + 1) cap')) (.inr (hv1.not_row (by decide) hown').symm)
    have hblk : (w2.setCell ⟨w.heap.size, 0, none⟩ (.slice (some ⟨g', 0, none⟩) (pre.length + 1) cap')).heap[b1]? = W.heap[b1]? := by
      have e1 := Below.heap_setCell w2 ⟨w.heap.size, 0, none⟩ (.slice (some ⟨g', 0, none⟩) (pre.length + 1) cap') b1 (show b1 ≠ w.heap.size by omega)
      have e2 := hgrow.block b1 (by simp; omega) (fun e => by have := (World.ownsRow.lt hrow _ e.symm).1; omega)
      exact e1.trans (e2.trans (heap_alloc_old W _ (by omega)))
    exact ⟨hk2.from _, ⟨hb2.mono (by omega), hblk⟩, ⟨⟨_, hv2, by simpa [strV] using hr2, trivial⟩, hB.trans (hb2.mono (by omega))⟩, Nat.le_trans hW hb2.size⟩
  case done =>
    rintro D ys W hD rfl ⟨⟨⟨v, hv, hrow, -⟩, hB⟩, hW⟩ hK
    have hc := hv.cell
    gi_wp2
    refine ⟨by simp, .inl ⟨_, _, rfl, run_takeDeferred hK, ?_⟩⟩
    exact ⟨_, results_tmp rfl _ _ _, v, rfl, own_base (ownsRow_putObj hrow _ hK rfl) (by omega), hB.trans (belowK_b (w := w1) (by omega) W D _ _ (by omega) hK rfl rfl)⟩
theorem collect_any (s : ByteArray) (hs : s.size ≤ 10000000) (n₀ b1 : Nat) (w : World) (q : Int) (hq : w.cell? ⟨3, 0, none⟩ = some (.int .i64 q)) (hq0 : 3 < n₀) (hbx : Boxed w b1 9 (.string s)) (hb1 : n₀ ≤ b1) :
    Calls Tryz.prog 46 #[.func (.func 80) #[] #[.pointer (some ⟨b1, 0, none⟩)]] w (SeqRet s n₀ w) := by
  have H := Lib.hid (appendSeq_any s hs n₀ b1 w q hq hq0 hbx hb1)
  clear hq hbx
  go_enter Tryz.func46, Tryz.ntmps46
  go_wp2_with (go_at_call 79; (with_reducible refine H.out.mono ?_); rintro e w1 ⟨v, rfl, h1, h2⟩)
  go_ret
  exact ⟨v, rfl, h1, h2⟩
theorem split_any (s : ByteArray) (w : World) (hs : s.size ≤ 10000000) (q : Int) (hq : w.cell? ⟨3, 0, none⟩ = some (.int .i64 q)) :
    Calls Tryz.prog 25 #[.string s] w fun e w' => ∃ v, e = .returned v ∧ ownsS w' w.heap.size 9 v (linB s) ∧ Below w.heap.size w w' := by
  have hq0 := World.block_lt_of_cell? _ _ hq
  have HA := Lib.hid (all_any s w)
  have HC := Lib.hid (fun w1 (hb : Below w.heap.size w w1) hbx => collect_any s hs w.heap.size w.heap.size w1 q ((hb.cell (p := ⟨3, 0, none⟩) hq0).trans hq) hq0 hbx (Nat.le_refl _))
  clear hq
  go_enter Tryz.func25, Tryz.ntmps25
  go_wp2_with (first
    | (go_at_call 47; (with_reducible refine HA.out.mono ?_); rintro e w1 ⟨rfl, hbx, hb1, hz1⟩)
    | (go_at_call 46; (with_reducible refine (HC.out w1 hb1 hbx).mono ?_); rintro e w2 ⟨v, rfl, h1, h2⟩))
  go_ret
  exact ⟨v, rfl, own_base h1 hb1.size, hb1.trans h2⟩
end Go.Proofs.YtjoipgekmnnlpaaGreatDoor
