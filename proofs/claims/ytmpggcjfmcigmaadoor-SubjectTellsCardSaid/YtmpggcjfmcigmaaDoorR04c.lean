/- Walks of the reference pouchref04: first. Printed by gen04c.py. -/
import Derived.Test.YtmpggcjfmcigmaaDoorR04b
namespace Go.Proofs.YtmpggcjfmcigmaaDoor
open Go.RowKit Pk U8 Su Fo

def NoneB (l : List UInt8) (m : Nat) : Prop := ∀ q, 1 ≤ q → q < m → ∀ n, Sca n → Lib.encodeRune (n : Int) ≠ l.take q
theorem NoneB.more {l : List UInt8} {m : Nat} (h : NoneB l m) (hm : m ≤ l.length) (hx : ∀ n, Sca n → valR l m = n → Lib.encodeRune (n : Int) ≠ l.take m) : NoneB l (m + 1) := by
  intro q h1 h2 n hn
  by_cases hq : q < m
  · exact h q h1 hq n hn
  · have : q = m := by omega
    subst this
    intro he
    exact hx n hn (val_enc hn hm he) he
theorem NoneB.bad {l : List UInt8} {m : Nat} (h : NoneB l m) (hl : l ≠ []) (hm : m = 5 ∨ l.length < m) : ¬ Okay l := by
  intro ho
  obtain ⟨h1, h2⟩ := enc_dec l hl ho
  obtain ⟨w1, w2, w3⟩ := dec_width l hl
  exact h (dec l).2 w1 (by omega) _ h1 h2
theorem hit_okay {l : List UInt8} {n m : Nat} (hs : Sca n) (hm : m ≤ l.length) (he : Lib.encodeRune (n : Int) = l.take m) : dec l = (n, m) ∧ Okay l := by
  have hlen : (Lib.encodeRune (n : Int)).length = m := by rw [he, List.length_take]; omega
  have hd := dec_of l n hs m he
  rw [hlen] at hd
  refine ⟨hd, ?_⟩
  by_cases h1 : n < 128
  · have e := enc_one n h1
    rw [e] at he hlen
    have a0 := take_at he 0 (by simp)
    rw [show at' [UInt8.ofNat n] 0 = (UInt8.ofNat n).toNat from rfl, ofNat_at _ (by omega)] at a0
    left; omega
  · right
    rw [hd]
    show 1 < m
    by_cases h2 : n < 2048
    · rw [enc_two n (by omega) h2] at hlen; simp at hlen; omega
    · by_cases h3 : n < 65536
      · rw [enc_three n (by unfold Sca at hs; omega)] at hlen; simp at hlen; omega
      · rw [enc_four n (by omega) (by unfold Sca at hs; omega)] at hlen; simp at hlen; omega
end Go.Proofs.YtmpggcjfmcigmaaDoor
