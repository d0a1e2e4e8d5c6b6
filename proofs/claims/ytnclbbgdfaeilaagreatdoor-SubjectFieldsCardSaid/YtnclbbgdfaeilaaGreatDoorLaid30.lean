/- Walks: chapter 30's laws: the eight styles of a reply. -/
import Derived.Test.YtnclbbgdfaeilaaGreatDoorSubC
import Derived.Test.YtnclbbgdfaeilaaGreatDoorP30
namespace Go.Proofs.YtnclbbgdfaeilaaGreatDoor
open Go.RowKit Pk U8 Su Fo

def LaidIs (S : ByteArray) (w : World) (e : Ending) (w' : World) : Prop := (∃ X : ByteArray, e = .returned (.string X) ∧ X.size ≤ S.size + 20 ∧ Bs X.data.toList = Bs S.data.toList ∧ Ag X.data.toList = true) ∧ w = w'
theorem laidIs_of {S X : ByteArray} (k : Nat) (hk : k < 8) (hX : X.data.toList = laidL S.data.toList k) (w : World) : LaidIs S w (.returned (.string X)) w := by
  obtain ⟨h1, h2⟩ := same_laid S.data.toList k hk
  refine ⟨⟨X, rfl, ?_, ?_, ?_⟩, rfl⟩
  · have e : X.size = X.data.toList.length := rfl
    have e2 : S.size = S.data.toList.length := rfl
    rw [e, e2, hX]
    exact laidL_len _ k
  · unfold Bs; rw [hX, h1]
  · unfold Ag; rw [hX, h2]
set_option maxHeartbeats 1000000 in
theorem laidP_any (S : ByteArray) (n : Int) (w : World) (hS : S.size ≤ 10000) : Calls Tryz.prog 14 #[.string S, .int .i64 n] w (LaidIs S w) := by
  obtain ⟨k, hk, hb⟩ := low3 n
  have HL := Lib.hid (fun X k hk hX w => laidIs_of (S := S) (X := X) k hk hX w)
  have hk' : k = 0 ∨ k = 1 ∨ k = 2 ∨ k = 3 ∨ k = 4 ∨ k = 5 ∨ k = 6 ∨ k = 7 := by omega
  rcases hk' with rfl | rfl | rfl | rfl | rfl | rfl | rfl | rfl
  · have hb' : bits .and .i64 n 7 = 0 := hb
    clear hb hk
    go_enter Tryz.func14, Tryz.ntmps14
    go_wp2
    go_ret
    exact HL.out _ 0 (by omega) (by simp [laidL, p0]) _
  · have hb' : bits .and .i64 n 7 = 1 := hb
    clear hb hk
    go_enter Tryz.func14, Tryz.ntmps14
    go_wp2
    go_ret
    exact HL.out _ 1 (by omega) (by simp [laidL, p1]) _
  · have hb' : bits .and .i64 n 7 = 2 := hb
    clear hb hk
    go_enter Tryz.func14, Tryz.ntmps14
    go_wp2
    go_ret
    exact HL.out _ 2 (by omega) (by simp [laidL, p2]) _
  · have hb' : bits .and .i64 n 7 = 3 := hb
    clear hb hk
    go_enter Tryz.func14, Tryz.ntmps14
    go_wp2
    go_ret
    exact HL.out _ 3 (by omega) (by simp [laidL, q3]) _
  · have hb' : bits .and .i64 n 7 = 4 := hb
    clear hb hk
    go_enter Tryz.func14, Tryz.ntmps14
    go_wp2
    go_ret
    exact HL.out _ 4 (by omega) (by simp [laidL, p4]) _
  · have hb' : bits .and .i64 n 7 = 5 := hb
    clear hb hk
    go_enter Tryz.func14, Tryz.ntmps14
    go_wp2
    go_ret
    exact HL.out _ 5 (by omega) (by simp [laidL, p5]) _
  · have hb' : bits .and .i64 n 7 = 6 := hb
    clear hb hk
    go_enter Tryz.func14, Tryz.ntmps14
    go_wp2
    go_ret
    exact HL.out _ 6 (by omega) (by simp [laidL, p6, q6]) _
  · have hb' : bits .and .i64 n 7 = 7 := hb
    clear hb hk
    go_enter Tryz.func14, Tryz.ntmps14
    go_wp2
    go_ret
    exact HL.out _ 7 (by omega) (by simp [laidL, p7, q7]) _
end Go.Proofs.YtnclbbgdfaeilaaGreatDoor
