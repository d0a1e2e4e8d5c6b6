/- Walks: lines: all and its iterator. -/
import Derived.Test.YtjoipgekmnnlpaaGreatDoorLnP
import Derived.Test.YtjoipgekmnnlpaaGreatDoorStrK
import Derived.Test.YtjoipgekmnnlpaaGreatDoorRfB
import Derived.Test.YtjoipgekmnnlpaaGreatDoorBld
import Derived.Test.YtjoipgekmnnlpaaGreatDoorShelf
import Derived.Test.YtjoipgekmnnlpaaGreatDoorRows
import Derived.WalkSmall
import Derived.Shelf.Abstract
import Derived.Shelf.RegionOpen
import Derived.OwnWalkIn
import Derived.TacticsInMore
import Derived.LoopNIn
import Derived.LoopIn
namespace Go.Proofs.YtjoipgekmnnlpaaGreatDoor
open Go.RowKit Go.Shelf Pk Lx

attribute [local go_sem] Oper.semAt_some
def linB (s : ByteArray) : List ByteArray := (linN s.data.toList).map fun l => ⟨l.toArray⟩
/-- what lies still while the iterator hands on a line -/
def KpB (n b : Nat) (W W' : World) : Prop := Below n W W' ∧ W'.heap[b]? = W.heap[b]?
theorem KpB.refl (n b : Nat) (W : World) : KpB n b W W := ⟨Below.refl _ _, rfl⟩
theorem KpB.trans {n b : Nat} {A B C : World} (h : KpB n b A B) (k : KpB n b B C) : KpB n b A C := ⟨h.1.trans k.1, k.2.trans h.2⟩
theorem KpB.put {n b : Nat} {w : World} (hn : n ≤ w.heap.size) (h1 : b < w.heap.size) (W : World) (l : Nat) (o o' : Obj) (hl : w.heap.size ≤ l) (h : W.heap[l]? = some o) (hc : o.isCells = false) (hw : o.isWalk = false) : KpB n b W (W.putObj l o') :=
  ⟨belowK_b hn W l o o' hl h hc hw, World.putObj_heap_other (by omega)⟩
theorem linB_nil {R : ByteArray} (h : R.size = 0) : linB R = [] := by
  unfold linB
  rw [List.eq_nil_of_length_eq_zero (show R.data.toList.length = 0 from h)]; rfl
theorem linB_cons {R : ByteArray} (h : 0 < R.size) : linB R = ⟨(R.data.toList.take (lnL R.data.toList)).toArray⟩ :: linB ⟨(R.data.toList.drop (lnL R.data.toList)).toArray⟩ := by
  unfold linB
  rw [linN_cons _ (fun e => by have e2 := congrArg List.length e; rw [dataL, List.length_nil] at e2; omega), List.map_cons]
theorem all_any (s : ByteArray) (w : World) :
    Calls Tryz.prog 47 #[.string s] w fun e w' => e = .returned (.func (.func 80) #[] #[.pointer (some ⟨w.heap.size, 0, none⟩)]) ∧ Boxed w' w.heap.size 9 (.string s) ∧ Below w.heap.size w w' ∧ w.heap.size < w'.heap.size := by
  go_enter Tryz.func47, Tryz.ntmps47
  go_wp2
  go_ret
  exact ⟨rfl, Boxed.new w _ _, (Below.refl _ w).alloc (Nat.le_refl _) _, by simp⟩
theorem cut10 (S : ByteArray) (m : Int) (w : World) (hs : S.size ≤ 100000000) (hm : w.cell? ⟨3, 0, none⟩ = some (.int .i64 m)) :
    Calls Tryz.prog 81 #[.string S, .string ⟨#[10]⟩] w fun e w' => ∃ H b n, e = .returned (.tuple #[.string H, .string ⟨(S.data.toList.drop (lnL S.data.toList)).toArray⟩, .bool b]) ∧ w' = w.drewN n ∧
      ((b = true ∧ H ++ ⟨#[10]⟩ = ⟨(S.data.toList.take (lnL S.data.toList)).toArray⟩) ∨ (b = false ∧ H = ⟨(S.data.toList.take (lnL S.data.toList)).toArray⟩)) ∧ H.size ≤ S.size := by
  refine (Tryz.strings_Cut S ⟨#[10]⟩ m w (by omega) hm).mono ?_
  rintro e w' ⟨rfl, n, rfl⟩
  have hc := cut_line S.data.toList
  have e0 : (⟨#[10]⟩ : ByteArray).data.toList = [10] := rfl
  rw [e0]
  have hl : (Lib.cut S.data.toList [10]).1.length ≤ S.size := by
    unfold Lib.cut
    split
    · show (S.data.toList.take _).length ≤ _
      rw [List.length_take, dataL]; omega
    · exact Nat.le_refl _
  generalize (Lib.cut S.data.toList [10]).1 = H at *
  generalize (Lib.cut S.data.toList [10]).2.1 = R at *
  generalize (Lib.cut S.data.toList [10]).2.2 = b at *
  refine ⟨⟨H.toArray⟩, b, n, ?_, rfl, ?_, hl⟩
  · rcases hc with ⟨-, -, h⟩ | ⟨-, -, h⟩ <;> rw [h]
  · rcases hc with ⟨h1, h2, -⟩ | ⟨h1, h2, -⟩
    · refine .inl ⟨h1, ?_⟩
      rw [← h2]
      have : ∀ a b : ByteArray, a.data = b.data → a = b := fun a b h => by cases a; cases b; congr 1
      apply this
      rw [ByteArray.data_append]
      simp
    · exact .inr ⟨h1, by rw [← h2]⟩
set_option maxHeartbeats 4000000 in
set_option maxRecDepth 100000 in
theorem all1_gives (n : Nat) (hn : 3 ≤ n) (s : ByteArray) (hs : s.size ≤ 10000000) (n₀ b1 : Nat) (w : World) (q : Int) (hq : w.cell? ⟨3, 0, none⟩ = some (.int .i64 q)) (hq0 : 3 < n₀)
    (hbx : Boxed w b1 9 (.string s)) (hb1 : n₀ ≤ b1) :
    GivesBox Fence.wide n Tryz.prog 80 #[.pointer (some ⟨b1, 0, none⟩)] (fun x : ByteArray => #[Value.string x]) b1 9 (KpB n₀ b1) (fun pre => pre <+: linB s) (fun xs => xs = linB s) w := by
  intro l J W hW hJ hY h0
  have hq := cell_later hW hq
  have hbx : Boxed W b1 9 (.string s) := (hW.block b1 hbx.lt).trans hbx
  have hWz := hW.size
  refine callsIn_of_wp Tryz.func80 rfl trivial ?_ rfl
  simp only [Tryz.ntmps80, List.size_toArray, List.length_cons, List.length_nil, Nat.reduceAdd, Nat.reduceSub, Array.replicate_succ, Array.replicate_zero, List.push_toArray, List.append_toArray, List.nil_append, List.cons_append]
  gi_wp2
  gi_loopw [3] (fun _ wr => ∃ (R : ByteArray) (pre : List ByteArray), Boxed wr b1 9 (.string R) ∧ R.size ≤ s.size ∧ J pre wr ∧ Below n₀ W wr ∧ Hid (pre ++ linB R = linB s)) (fun _ wr => match wr.cell? ⟨b1, 0, none⟩ with | some (.string R) => R.size | _ => 0)
  case atStart => exact ⟨s, [], hbx, Nat.le_refl _, h0, Below.refl _ _, rfl⟩
  case round =>
    obtain ⟨R, pre, hB, hR, hJr, hBel, hrel⟩ := hrel
    have hc := hB.cell
    by_cases hlt : 0 < R.size
    · have hne := neS hlt
      have hq2 := (hBel.cell (p := ⟨3, 0, none⟩) hq0).trans hq
      have HC := Lib.hid (cut10 R q wr (by omega) hq2)
      have hX := hrel.out
      rw [linB_cons hlt] at hX
      have hd : (⟨(R.data.toList.drop (lnL R.data.toList)).toArray⟩ : ByteArray).size < R.size := by
        have := lnL_pos R.data.toList (fun e => by have e2 := congrArg List.length e; rw [dataL, List.length_nil] at e2; omega)
        show (R.data.toList.drop (lnL R.data.toList)).length < _
        rw [List.length_drop, dataL]; omega
      generalize (⟨(R.data.toList.take (lnL R.data.toList)).toArray⟩ : ByteArray) = L at *
      generalize (⟨(R.data.toList.drop (lnL R.data.toList)).toArray⟩ : ByteArray) = D at *
      have hok : pre ++ [L] <+: linB s := ⟨linB D, by rw [← hX]; simp⟩
      have HX : Hid (pre ++ [L] ++ linB D = linB s) := by show _ = _; rw [← hX]; simp
      have HY := Lib.hid (fun nq => hY pre L (wr.drewN nq) hok (hJ.grow _ _ _ hJr ⟨rfl, rfl, rfl, Nat.le_refl _, fun _ _ _ => rfl⟩))
      clear hq hq2 hX hY hrel hok
      gi_wp2_with (refine ⟨trivial, fun _ => (by omega), ?_⟩; (with_reducible refine (callsIn_wide.2 HC.out).mono ?_); rintro e w1 ⟨H, b, nq, rfl, rfl, hH, hHs⟩; rcases hH with ⟨rfl, rfl⟩ | ⟨rfl, rfl⟩ <;> obtain ⟨fn, tmps, assign, body, hy, hR⟩ := HY.out nq)
      all_goals
        refine ⟨fun _ => (by omega), hR.mono ?_⟩
        rintro e W' ⟨rfl, hJ2, hk1, hk2⟩
        have hB2 : Boxed W' b1 9 (.string R) := hk2.trans hB
        have hc2 := hB2.cell
        have hf2 := hB2.frozen
        have hJ3 := hJ.box _ W' _ (.string D) hJ2 hB2
        have hB3 := hB2.set (.string D)
        have hBel3 := (hBel.trans ((below_drewN (Below.refl n₀ wr) nq).trans hk1)).setCell (p := ⟨b1, 0, none⟩) hb1 (.string D)
        clear hB hB2 hJ2 hk1 hk2 hJr hBel
        gi_wp2
        go_roundw
        case rel => exact ⟨D, _, hB3, by omega, hJ3, hBel3, HX⟩
        case measure => rw [hc, hB3.cell]; exact hd
    · have hn0 := nilS (S := R) (by omega)
      have hX : pre = linB s := by
        have := hrel.out
        rwa [linB_nil (by omega), List.append_nil] at this
      gi_wp2
      go_end0
      exact ⟨⟨_, rfl⟩, _, hX, hJr⟩
end Go.Proofs.YtjoipgekmnnlpaaGreatDoor
