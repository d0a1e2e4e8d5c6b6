/- Walks: subject: Base, Again. -/
import Derived.Test.YtmpggcjfmcigmaaDoorSub6
namespace Go.Proofs.YtmpggcjfmcigmaaDoor
open Go.RowKit Pk U8 Su Fo

theorem red_length : ∀ (n : Nat) (l : List UInt8), l.length ≤ n → (red l).1.length ≤ l.length := by
  intro n
  induction n with
  | zero => intro l hl; have : l = [] := List.eq_nil_of_length_eq_zero (by omega); subst this; rw [red_none step_nil]; simp
  | succ n ih =>
    intro l hl
    cases hs : stepR l with
    | none => rw [red_none hs]; simp
    | some p =>
      obtain ⟨t, b⟩ := p
      have hlt := stepR_lt hs
      have := ih t (by omega)
      rw [red_some hs]
      show (red t).1.length ≤ _
      omega
theorem plain_length (l : List UInt8) : (plain l).length ≤ 3 * l.length := by
  have h1 := col_length (repairL l) false
  have h2 := repairL_length l
  show (col false (repairL l)).length ≤ _
  omega

def Bs (l : List UInt8) : List UInt8 := foldL (red (plain l)).1
def Ag (l : List UInt8) : Bool := (red (plain l)).2
set_option maxHeartbeats 1000000 in
theorem base_any (s : ByteArray) (w : World) (hT : Tabs w) (b off cap : Nat) (hS : SpansAt w b off cap) (hs : s.size ≤ 3000000) :
    Calls Tryd.prog 9 #[.string s] w fun e w' => e = .returned (.string ⟨(Bs s.data.toList).toArray⟩) ∧ Below w.heap.size w w' := by
  have hp := fun w' (hb : Below w.heap.size w w') => plain_any s w' (hT.later hb) hs
  have hpl := plain_length s.data.toList
  obtain ⟨P, hP, hPl, hPs⟩ := arrS (plain s.data.toList)
  rw [← hP] at hp
  have hsl : s.data.toList.length = s.size := rfl
  have hr := fun w' => reduce_any P w' (by omega)
  rw [hPl] at hr
  have hrl := red_length _ (plain s.data.toList) (Nat.le_refl _)
  have hb : Bs s.data.toList = foldL (red (plain s.data.toList)).1 := rfl
  generalize red (plain s.data.toList) = R at hr hrl hb
  obtain ⟨R1, R2⟩ := R
  obtain ⟨A, hA, hAl, hAs⟩ := arrS R1
  have hr' : ∀ w', Calls Tryd.prog 18 #[.string P] w' fun e w'' => e = .returned (.tuple #[.string A, .bool R2]) ∧ Below w'.heap.size w' w'' := by
    intro w'; rw [hA]; exact hr w'
  have hrl' : R1.length ≤ 9000000 := by simp only at hrl; omega
  have hf := fun w' (hb : Below w.heap.size w w') => foldP_any A w' (by omega) b off cap (hS.later hb)
  rw [hAl] at hf
  have hb' : Bs s.data.toList = foldL R1 := hb
  rw [← hb'] at hf
  have HP := Lib.hid hp
  have HR := Lib.hid hr'
  have HF := Lib.hid hf
  clear hp hr hr' hf hP hPl hPs hA hAl hAs hb hb' hrl hrl' hpl hsl hS hT hs
  have tb := Below.refl w.heap.size w
  go_enter Tryd.func9, Tryd.ntmps9
  go_wp2_with (first
    | (go_at_call 19; (with_reducible refine (HP.out _ tb).mono ?_); rintro e w1 ⟨rfl, hb1⟩; have tb := tb.trans (hb1.mono tb.size))
    | (go_at_call 18; (with_reducible refine (HR.out _).mono ?_); rintro e w1 ⟨rfl, hb1⟩; have tb := tb.trans (hb1.mono tb.size))
    | (go_at_call 14; (with_reducible refine (HF.out _ tb).mono ?_); rintro e w1 ⟨rfl, hb1⟩; have tb := tb.trans (hb1.mono tb.size)))
  go_ret
  exact ⟨rfl, tb⟩
set_option maxHeartbeats 1000000 in
theorem again_any (s : ByteArray) (w : World) (hT : Tabs w) (hs : s.size ≤ 3000000) :
    Calls Tryd.prog 11 #[.string s] w fun e w' => e = .returned (.bool (Ag s.data.toList)) ∧ Below w.heap.size w w' := by
  have hp := fun w' (hb : Below w.heap.size w w') => plain_any s w' (hT.later hb) hs
  have hpl := plain_length s.data.toList
  obtain ⟨P, hP, hPl, hPs⟩ := arrS (plain s.data.toList)
  rw [← hP] at hp
  have hsl : s.data.toList.length = s.size := rfl
  have hr := fun w' => reduce_any P w' (by omega)
  rw [hPl] at hr
  have hb : Ag s.data.toList = (red (plain s.data.toList)).2 := rfl
  generalize red (plain s.data.toList) = R at hr hb
  obtain ⟨R1, R2⟩ := R
  obtain ⟨A, hA, hAl, hAs⟩ := arrS R1
  have hr' : ∀ w', Calls Tryd.prog 18 #[.string P] w' fun e w'' => e = .returned (.tuple #[.string A, .bool (Ag s.data.toList)]) ∧ Below w'.heap.size w' w'' := by
    intro w'; rw [hA, hb]; exact hr w'
  have HP := Lib.hid hp
  have HR := Lib.hid hr'
  clear hp hr hr' hP hPl hPs hA hAl hAs hb hpl hsl hT hs
  have tb := Below.refl w.heap.size w
  go_enter Tryd.func11, Tryd.ntmps11
  go_wp2_with (first
    | (go_at_call 19; (with_reducible refine (HP.out _ tb).mono ?_); rintro e w1 ⟨rfl, hb1⟩; have tb := tb.trans (hb1.mono tb.size))
    | (go_at_call 18; (with_reducible refine (HR.out _).mono ?_); rintro e w1 ⟨rfl, hb1⟩; have tb := tb.trans (hb1.mono tb.size)))
  go_ret
  exact ⟨rfl, tb⟩
end Go.Proofs.YtmpggcjfmcigmaaDoor
