/- Walks of the reference pouchref30: begins, blob. -/
import Derived.Test.YtmpggcjfmcigmaaDoorR30
namespace Go.Proofs.YtmpggcjfmcigmaaDoor
open Go.RowKit Pk U8 Su Fo

def begB (s : ByteArray) (k : Nat) (M : ByteArray) : Bool := (st M.data.toList (tl s k)).isSome
theorem begB_short {s : ByteArray} {k : Nat} {M : ByteArray} (hk : k ≤ s.size) (h : ¬ k + M.size ≤ s.size) : begB s k M = false := by
  unfold begB st
  rw [if_neg]
  · rfl
  · intro e
    have e1 := congrArg List.length e
    have e2 : M.data.toList.length = M.size := rfl
    rw [List.length_map, List.length_take, tl_length] at e1
    omega
theorem begB_full {s : ByteArray} {k : Nat} {M A C : ByteArray} (hA : A = s.extract k (k + M.size)) (hC : C = ⟨(A.data.toList.map lowc).toArray⟩) : (C.toList == M.toList) = begB s k M := by
  have e1 : A.data.toList = (tl s k).take M.data.toList.length := by
    have e2 : M.data.toList.length = M.size := rfl
    rw [hA, ext_listS, e2]
    unfold tl
    congr 1
    omega
  have e3 : C.toList = A.data.toList.map lowc := by rw [Lib.toList_data, hC]
  unfold begB st
  rw [← e1, e3, Lib.toList_data]
  by_cases he : A.data.toList.map lowc = M.data.toList
  · rw [if_pos he, he]; simp
  · rw [if_neg he, beq_eq_false_iff_ne.2 he]; rfl
set_option maxHeartbeats 1000000 in
set_option maxRecDepth 100000 in
theorem beginsR_any (s : ByteArray) (k : Nat) (M : ByteArray) (w : World) (hs : s.size ≤ 10000000) (hk : k ≤ s.size) (hM : M.size ≤ 100) :
    Calls Tryd.prog 57 #[.string s, .int .i64 k, .string M] w fun e w' => e = .returned (.bool (begB s k M)) ∧ Below w.heap.size w w' := by
  by_cases h : k + M.size ≤ s.size
  · obtain ⟨A, hA⟩ : ∃ A, A = s.extract k (k + M.size) := ⟨_, rfl⟩
    have hsz : A.size ≤ 10000000 := by rw [hA]; simp; omega
    have hS := fun w' => smallR_any A w' hsz
    obtain ⟨C, hC⟩ : ∃ C : ByteArray, C = ⟨(A.data.toList.map lowc).toArray⟩ := ⟨_, rfl⟩
    have hb := begB_full hA hC
    rw [← hC] at hS
    have HS := Lib.hid hS
    generalize begB s k M = b at hb
    clear hS hC hsz
    have h1 : (k : Int) + M.size ≤ s.size := by omega
    go_enter Tryd.func57, Tryd.ntmps57
    go_wp2_with (go_at_call 15; rw [← hA]; refine (HS.out _).mono ?_; rintro e w1 ⟨rfl, hb1⟩)
    go_ret
    exact ⟨rfl, hb1⟩
  · have hb := begB_short hk h
    rw [hb]
    clear hb
    have h1 : ¬ ((k : Int) + M.size ≤ s.size) := by omega
    go_enter Tryd.func57, Tryd.ntmps57
    go_wp2
    go_ret
    exact ⟨rfl, Below.refl _ _⟩
end Go.Proofs.YtmpggcjfmcigmaaDoor
