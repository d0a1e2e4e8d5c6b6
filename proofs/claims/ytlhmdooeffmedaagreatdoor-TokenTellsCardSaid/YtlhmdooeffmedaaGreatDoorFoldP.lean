/- Plain: the lower case of a rune. -/
import Derived.Test.YtlhmdooeffmedaaGreatDoorUtx
namespace Fo
open Go Pk U8

def spanL : List (Int × Int × Int × Int) := [(65, 90, 1, 32), (192, 214, 1, 32), (216, 222, 1, 32), (256, 303, 2, 1), (306, 311, 2, 1), (313, 328, 2, 1), (330, 375, 2, 1), (376, 376, 1, -121), (377, 382, 2, 1), (902, 902, 1, 38), (904, 906, 1, 37), (908, 908, 1, 64), (910, 911, 1, 63), (913, 929, 1, 32), (931, 939, 1, 32), (1024, 1039, 1, 80), (1040, 1071, 1, 32)]
def sp (i : Nat) : Int × Int × Int × Int := spanL.getD i (0, 0, 1, 0)
def spLo (i : Nat) : Int := (sp i).1
def spHi (i : Nat) : Int := (sp i).2.1
def spSt (i : Nat) : Int := (sp i).2.2.1
def spMo (i : Nat) : Int := (sp i).2.2.2
def lowF : List (Int × Int × Int × Int) → Int → Int
  | [], r => r
  | (lo, hi, st, mo) :: rest, r => if hi < r then lowF rest r else if lo ≤ r ∧ (r - lo) % st = 0 then r + mo else r
/-- the lower case of a rune -/
def lowI (r : Int) : Int := lowF spanL r
theorem sp_bd : ∀ i : Nat, i < 17 → 0 < spLo i ∧ spLo i ≤ spHi i ∧ spHi i < 2000 ∧ 0 < spSt i ∧ spSt i ≤ 2 ∧ -200 ≤ spMo i ∧ spMo i ≤ 200 := by decide +kernel
theorem sp_mono : ∀ i : Nat, i < 17 → ∀ j : Nat, j < 17 → i ≤ j → spHi i ≤ spHi j := by decide +kernel
theorem lowF_drop (r : Int) : ∀ (i : Nat), i ≤ 17 → (∀ k, k < i → spHi k < r) → lowF spanL r = lowF (spanL.drop i) r := by
  intro i
  induction i with
  | zero => intro _ _; rfl
  | succ i ih =>
    intro hi hk
    rw [ih (by omega) (fun k hk' => hk k (by omega))]
    have hlt : i < spanL.length := by show i < 17; omega
    rw [List.drop_eq_getElem_cons hlt]
    have e : spanL[i] = sp i := by unfold sp; rw [List.getD_eq_getElem?_getD, List.getElem?_eq_getElem hlt]; rfl
    rw [e]
    have := hk i (by omega)
    unfold spHi at this
    obtain ⟨⟨a, b, c, d⟩, hsp⟩ : ∃ x, sp i = x := ⟨_, rfl⟩
    rw [hsp] at this
    rw [hsp, lowF, if_pos this]
theorem lowI_found {r : Int} {i : Nat} (hi : i < 17) (h1 : ∀ k, k < i → spHi k < r) (h2 : ¬ spHi i < r) : lowI r = if spLo i ≤ r ∧ (r - spLo i) % spSt i = 0 then r + spMo i else r := by
  unfold lowI
  rw [lowF_drop r i (by omega) h1]
  have hlt : i < spanL.length := by show i < 17; omega
  rw [List.drop_eq_getElem_cons hlt]
  have e : spanL[i] = sp i := by unfold sp; rw [List.getD_eq_getElem?_getD, List.getElem?_eq_getElem hlt]; rfl
  rw [e]
  unfold spHi at h2
  unfold spLo spSt spMo
  obtain ⟨⟨a, b, c, d⟩, hsp⟩ : ∃ x, sp i = x := ⟨_, rfl⟩
  rw [hsp] at h2
  rw [hsp, lowF, if_neg h2]
theorem lowI_end {r : Int} (h1 : ∀ k, k < 17 → spHi k < r) : lowI r = r := by
  unfold lowI
  rw [lowF_drop r 17 (by omega) h1]
  rfl
end Fo
