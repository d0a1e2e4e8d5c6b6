/- Plain laws: base64 among junk. -/
import Derived.Test.YtgkbjgmcgbnnaaaDoorPlain6
namespace C6
open Go Pk Hx

def Junk (l : List UInt8) : Prop := ∀ c ∈ l, ¬ 0 ≤ valR c ∧ c ≠ 61
theorem dR_junk : ∀ (j X : List UInt8), Junk j → dR (j ++ X) = dR X
  | [], _, _ => rfl
  | c :: r, X, h => by
    have hc := h c (by simp)
    rw [List.cons_append, dR, if_neg hc.2, if_neg hc.1, dR_junk r X (fun d hd => h d (by simp [hd]))]
theorem dR_mid : ∀ (a j Y : List UInt8), Junk j → dR (a ++ (j ++ Y)) = dR (a ++ Y)
  | [], j, Y, h => dR_junk j Y h
  | c :: r, j, Y, h => by
    rw [List.cons_append, List.cons_append, dR, dR, dR_mid r j Y h]
theorem dR_stop : ∀ (a X : List UInt8), dR (a ++ 61 :: X) = dR a
  | [], X => by show dR (61 :: X) = []; simp [dR]
  | c :: r, X => by
    rw [List.cons_append, dR, dR, dR_stop r X]
def junk : List UInt8 → List UInt8
  | [] => []
  | c :: r => if valR c < 0 ∧ c ≠ 61 then c :: junk r else junk r
theorem junk_Junk (l : List UInt8) : Junk (junk l) := by
  induction l with
  | nil => intro c hc; cases hc
  | cons a r ih =>
    rw [junk]
    split
    · rename_i h
      intro c hc
      rcases List.mem_cons.1 hc with rfl | h'
      · exact ⟨by omega, h.2⟩
      · exact ih c h'
    · exact ih
theorem junk_length (l : List UInt8) : (junk l).length ≤ l.length := by
  induction l with
  | nil => simp [junk]
  | cons a r ih => rw [junk]; split <;> simp <;> omega
/-- the loosened text so far -/
def LooseIs (_j b L : List UInt8) (k : Nat) : Prop := ∀ X, dR (L ++ X) = dR (b.take k ++ X)
theorem loose_nil (j b : List UInt8) : LooseIs j b [] 0 := fun X => by simp
theorem loose_step {j b L : List UInt8} {k : Nat} (hj : Junk j) (h : LooseIs j b L k) (hk : k < b.length) : LooseIs j b (L ++ j ++ [b[k]]) (k + 1) := fun X => by
  have e1 : L ++ j ++ [b[k]] ++ X = L ++ (j ++ ([b[k]] ++ X)) := by simp
  have e2 : b.take (k + 1) ++ X = b.take k ++ ([b[k]] ++ X) := by rw [List.take_succ_eq_append_getElem hk, List.append_assoc]
  rw [e1, e2, h, dR_mid _ _ _ hj]
theorem loose_all {j b L : List UInt8} {k : Nat} (h : LooseIs j b L k) : unB64R (L ++ b.drop k) = unB64R b := by
  unfold unB64R
  rw [h, List.take_append_drop]
theorem loose_behind (b X : List UInt8) : unB64R (b ++ [61] ++ X) = unB64R b := by
  unfold unB64R
  rw [List.append_assoc, List.singleton_append, dR_stop]
end C6
