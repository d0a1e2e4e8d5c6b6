/- Walks: header: All. -/
import Derived.Test.YthchklbnkojkgaaGreatDoorHd6
import Derived.Maps.AppendAt
namespace Go.Proofs.YthchklbnkojkgaaGreatDoor
open Go.RowKit Go.Shelf Pk Hd

attribute [local go_sem] Oper.semAt_some
theorem row_base {w : World} {B C size n : Nat} {e : TypeId} {v : Value} {xs : List Value} (h : w.ownsRow B e size v n xs) (hC : C ≤ B) : w.ownsRow C e size v n xs := by
  refine ⟨h.1, ?_⟩
  rcases h.2 with hn | ⟨g, cap, cur, h1, h2, h3⟩
  · exact .inl hn
  · exact .inr ⟨g, cap, cur, h1, by omega, h3⟩
theorem allV_length (m : List Fld) (n : List UInt8) : (allV m n).length ≤ m.length := by
  unfold allV
  rw [List.length_map]; exact List.length_filter_le _ _
def TextsIs (xs : List ByteArray) (w : World) (e : Ending) (w' : World) : Prop := ∃ v, e = .returned v ∧ ownsS w' w.heap.size 9 v xs ∧ Below w.heap.size w w'
set_option maxHeartbeats 4000000 in
set_option maxRecDepth 100000 in
theorem all_any (v : Value) (m : List Fld) (s : ByteArray) (w : World) (hs : s.size ≤ 10000000) (hm : m.length ≤ 1000000) (hz : ∀ x ∈ m, x.name.size ≤ 1000000 ∧ x.value.size ≤ 1000000) (q : Int) (hq : w.cell? ⟨2, 0, none⟩ = some (.int .i64 q)) (hM : seesG fldLay w w.heap.size 29 v m) :
    Calls Tryz.prog 22 #[v, .string s] w (TextsIs (allV m s.data.toList) w) := by
  have hq0 := World.block_lt_of_cell? _ _ hq
  have hal := allV_length m s.data.toList
  obtain ⟨i0, hi, hz0, hz1, hz2⟩ := sslR.hi
  obtain ⟨p, c, hv, -⟩ := hM.form
  subst hv
  refine (callsIn_wide (n := 8)).1 ?_
  refine callsIn_of_wp_marks Tryz.func22 rfl trivial ?_ rfl
  simp only [Tryz.ntmps22, List.size_toArray, List.length_cons, List.length_nil, Nat.reduceAdd, Nat.reduceSub, Array.replicate_succ, Array.replicate_zero, List.push_toArray, List.append_toArray, List.nil_append, List.cons_append]
  have hN := fun w => named_any p m.length c s w hs
  have HN := Lib.hid hN
  clear hN
  gi_wp2_with (refine ⟨trivial, ?_⟩; gi_at_call 42; refine (callsIn_wide.2 (HN.out _)).mono ?_; rintro e w3 ⟨rfl, k1, k2, hb3, hz3⟩)
  simp only [World.size_alloc] at k1 k2 hz3
  have bO : Boxed w3 w.heap.size 32 (.slice none 0 0) := (hb3.block _ (by simp)).trans (Boxed.new w 32 (.slice none 0 0))
  have hB0 : Below w.heap.size w w3 := ((Below.refl _ w).alloc (Nat.le_refl _) _).trans (hb3.mono (by simp))
  have hMx := hM.below hB0 (Nat.le_refl _)
  have hq3 := cell_later hB0 hq
  clear hb3
  have hn0 : w.heap.size ≤ w3.heap.size := by omega
  have y1 : w.heap.size + 1 < w3.heap.size := by omega
  have y2 : w.heap.size + 1 + 1 < w3.heap.size := by omega
  refine wpIn_rangeFunc_ownG rfl (by omega) (gf := 61) (lb := #[.pointer (some ⟨w.heap.size + 1, 0, none⟩), .pointer (some ⟨w.heap.size + 1 + 1, 0, none⟩)]) rfl trivial (enters_of Tryz.func61 (by kernel_rfl) rfl)
    (named1_stops 7 (by omega) m hm hz s.data.toList (.slice p m.length c) w.heap.size (w.heap.size + 1) (w.heap.size + 1 + 1) w3 q hq3 hq0 hMx k1 k2 hn0 y1 y2) Kp.trans (Kp.put hn0 y1 y2) (Below.refl _ _) (fun _ => rfl)
    (fun pre W => ((∃ v, Boxed W w.heap.size 32 v ∧ W.ownsRow w3.heap.size 9 1 v pre.length (pre.map strV) ∧ True) ∧ Below w.heap.size w W) ∧ w3.heap.size ≤ W.heap.size)
    (fun _ _ _ => False)
    (OwnFrom.and (OwnFrom.and (Own.from (holdsRow_own w3.heap.size w.heap.size 32 9 1 (fun pre : List ByteArray => pre.length) (fun pre => pre.map strV) (fun _ _ => True)) _) (ownFrom_below (Nat.le_refl _) (by omega))) (fun s W W' row hs hg _ => Nat.le_trans hs hg.size))
    (fun _ _ _ _ _ hs _ _ => hs)
    ⟨⟨⟨_, bO, World.ownsRow_nil _ _ _ _, trivial⟩, hB0⟩, Nat.le_refl _⟩
    (fun x => { tmps := #[.slice p m.length c, .string s, undef, undef, .slice none 0 0, .pointer (some ⟨w.heap.size, 0, none⟩), .string x, .slice p m.length c, .string s, .func (.func 61) #[] #[.pointer (some ⟨w.heap.size + 1, 0, none⟩), .pointer (some ⟨w.heap.size + 1 + 1, 0, none⟩)], .string x, undef, undef, undef, undef, undef], defers := [] }) ?assign ?body ?done ?stop
  case assign =>
    intro l x W K hK
    gi_wp2
    exact hK
  case body =>
    rintro l pre x W ⟨⟨⟨v, hv, hrow, -⟩, hB⟩, hW⟩ hlt
    have hc := hv.cell
    have hrow' := row_base hrow hn0
    gi_wp2_with (gi_at_builtin; refine wpListIn_append_own _ rfl _ _ 32 rfl w3.heap.size 9 i0 (.string ⟨#[]⟩) 1 16 sslR.ht hi hz0 hz1 hz2 rfl (by decide) _ _ _ rfl (hrow.alloc _) ⟨W.heap.size, 0, none⟩ 1 1 [.string x] rfl rfl (cell_one_new _ _ _) (by simp [Value.oneCell']) (by unfold maxLen; omega) (by omega) (by simp; omega) ?_; intro v' w1 hown' hgrow _; obtain ⟨g', cap', rfl⟩ := ownsRow_succ hown'; obtain ⟨hv1, hv2, -, hk2, hb2⟩ := hv.appended (by decide) hrow' hB.size (Nat.le_refl _) (row_base hown' hn0) hgrow; have hc1 := hv1.cell; have hf1 := hv1.frozen)
    have hr2 := hown'.kept (grownBy_setCell' w1 w.heap.size (.slice (some ⟨g', 0, none⟩) (pre.length + 1) cap')) (.inr (hv1.not_row (by decide) hown').symm)
    have hblk : ∀ b, b < w3.heap.size → b ≠ w.heap.size → (w1.setCell ⟨w.heap.size, 0, none⟩ (.slice (some ⟨g', 0, none⟩) (pre.length + 1) cap')).heap[b]? = W.heap[b]? := fun b h1 h2 => by
      have e1 := Below.heap_setCell w1 ⟨w.heap.size, 0, none⟩ (.slice (some ⟨g', 0, none⟩) (pre.length + 1) cap') b (show b ≠ w.heap.size from h2)
      have e2 := hgrow.block b (by simp; omega) (fun e => by have := (World.ownsRow.lt hrow _ e.symm).1; omega)
      exact e1.trans (e2.trans (heap_alloc_old W _ (by omega)))
    exact ⟨hk2.from _, ⟨hb2, hblk _ y1 (by omega), hblk _ y2 (by omega)⟩, ⟨⟨_, hv2, by simpa [strV] using hr2, trivial⟩, hB.trans hb2⟩, Nat.le_trans hW (by have := hb2.size; exact this)⟩
  case done =>
    rintro D ys W hD rfl ⟨⟨⟨v, hv, hrow, -⟩, hB⟩, hW⟩ hK
    have hc := hv.cell
    gi_wp2
    refine ⟨by simp, .inl ⟨_, _, rfl, run_takeDeferred hK, ?_⟩⟩
    exact ⟨_, results_tmp rfl _ _ _, v, rfl, row_base (ownsRow_putObj hrow _ hK rfl) hn0, hB.trans (belowK_b (w := w) (Nat.le_refl _) W D _ _ (by omega) hK rfl rfl)⟩
  case stop =>
    rintro D c pre W _ _ h _
    exact h.elim
end Go.Proofs.YthchklbnkojkgaaGreatDoor
