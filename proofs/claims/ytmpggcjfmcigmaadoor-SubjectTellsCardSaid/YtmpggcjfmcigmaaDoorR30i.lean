/- Walks of the reference pouchref30: Reduce. -/
import Derived.Test.YtmpggcjfmcigmaaDoorR30h
namespace Go.Proofs.YtmpggcjfmcigmaaDoor
open Go.RowKit Pk U8 Su Fo
def RdIs (l : List UInt8) (a : Bool) (X : List UInt8 × Bool) : Prop := (red l).1 = X.1 ∧ (a || (red l).2) = X.2
set_option maxHeartbeats 2000000 in
set_option maxRecDepth 100000 in
theorem reduceR_any (s : ByteArray) (w : World) (hs : s.size ≤ 10000000) : Calls Tryd.prog 20 #[.string s] w (AnsIs (red s.data.toList) w) := by
  have h0 : Hid (RdIs s.data.toList false (red s.data.toList)) := ⟨rfl, by simp⟩
  generalize red s.data.toList = X at h0
  go_enter Tryd.func20, Tryd.ntmps20
  go_wp2
  go_loopw [0, 4] (fun sv av wr => ∃ (S : ByteArray) (a : Bool), sv = .string S ∧ av = .bool a ∧ S.size ≤ s.size ∧ Below w.heap.size w wr ∧ Hid (RdIs S.data.toList a X)) (fun sv _ _ => match sv with | .string S => S.size | _ => 0)
  case atStart => exact ⟨s, false, rfl, rfl, Nat.le_refl _, Below.refl _ _, h0⟩
  case round =>
    obtain ⟨S, a, rfl, rfl, hz, hbel, hrel⟩ := hrel
    have hS := fun w' => stepRef_any S w' (by omega)
    cases hst : stepR S.data.toList with
    | none =>
      rw [stepV_none hst] at hS
      have e := red_none hst
      have hx : X = (S.data.toList, a) := by
        obtain ⟨h1, h2⟩ := hrel.out
        rw [e] at h1 h2
        exact Prod.ext h1.symm (by rw [← h2]; simp)
      have hA : (⟨S.data.toList.toArray⟩ : ByteArray) = S := by simp
      have hS' : ∀ w', Calls Tryd.prog 36 #[.string S] w' fun e w'' => e = .returned (.tuple #[.string S, .bool false, .bool false]) ∧ Below w'.heap.size w' w'' := by
        intro w'; have := hS w'; unfold StepRIs at this; rwa [hA] at this
      have HS := Lib.hid hS'
      have HX := Lib.hid hx
      clear hS hS' hst e hx hA hrel h0
      go_wp2_with (go_at_call 36; (with_reducible refine (HS.out _).mono ?_); rintro e w1 ⟨rfl, hb1⟩)
      go_ret2
      exact ⟨by have hx := HX.out; subst hx; simp, hbel.trans (hb1.mono hbel.size)⟩
    | some p =>
      obtain ⟨t, b⟩ := p
      have hlt := stepR_lt hst
      rw [stepV_some hst] at hS
      have e := red_some hst
      obtain ⟨A, hA, hAl, hAs⟩ := arrS t
      have hd : Hid (RdIs A.data.toList (a || b) X) := by
        obtain ⟨h1, h2⟩ := hrel.out
        rw [e] at h1 h2
        rw [hAl]
        exact ⟨h1, by rw [← h2, Bool.or_assoc]⟩
      have hS' : ∀ w', Calls Tryd.prog 36 #[.string S] w' fun e w'' => e = .returned (.tuple #[.string A, .bool b, .bool true]) ∧ Below w'.heap.size w' w'' := by
        intro w'; have := hS w'; unfold StepRIs at this; rwa [← hA] at this
      have hsz : A.size < S.size := by rw [hAs]; exact hlt
      have HS := Lib.hid hS'
      clear hS hS' hst e hA hAl hAs hrel h0 hlt
      cases a <;>
        (go_wp2_with (go_at_call 36; (with_reducible refine (HS.out _).mono ?_); rintro e w1 ⟨rfl, hb1⟩)
         go_roundw
         case rel => exact ⟨A, _, rfl, rfl, by omega, hbel.trans (hb1.mono hbel.size), hd⟩
         case measure => simp; omega)
end Go.Proofs.YtmpggcjfmcigmaaDoor
