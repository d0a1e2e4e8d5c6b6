/- Plain: a base subject is valid UTF-8; the number of a style. -/
import Derived.Test.YtmpggcjfmcigmaaDoorPl30e
import Derived.Lib.ValidLaws
import Derived.Laws.BitsLemmas
namespace Su
open Go Pk U8 Fo

theorem decodeL_dec (l : List UInt8) : Lib.decodeL l = dec l := by
  unfold Lib.decodeL
  rw [dec_eq, tl_zero]
theorem validD_encs : ∀ ns : List Nat, (∀ n ∈ ns, Sca n) → Lib.validD (encs ns) = true
  | [], _ => rfl
  | n :: ns, h => by
    have hn := h n (by simp)
    have hne : encs (n :: ns) ≠ [] := by
      rw [encs_cons]; intro e
      exact enc_ne n (List.append_eq_nil_iff.1 e).1
    rw [Lib.validD_step _ hne, decodeL_dec, encs_cons, dec_enc n hn, List.drop_left]
    rw [if_neg]
    · exact validD_encs ns (fun m hm => h m (by simp [hm]))
    · rintro ⟨h1, h2⟩
      have h1' : n = 65533 := h1
      have h2' : (Lib.encodeRune (n : Int)).length = 1 := h2
      rw [h1'] at h2'
      revert h2'; decide
theorem valid_of {l : List UInt8} (h : Val l) : Lib.validD l = true := by
  unfold Val at h
  rw [← h, repair_encs _ l (Nat.le_refl _)]
  exact validD_encs _ (runes_Sca _ l (Nat.le_refl _))
theorem low3 (n : Int) : ∃ k : Nat, k < 8 ∧ bits .and .i64 n 7 = (k : Int) := by
  refine ⟨(BitVec.ofInt 64 n).toNat % 8, Nat.mod_lt _ (by decide), ?_⟩
  have h7 : (BitVec.ofInt 64 7).toNat = 2 ^ 3 - 1 := by decide
  show IntKind.i64.wrap ((BitVec.ofInt 64 n &&& BitVec.ofInt 64 7).toNat : Int) = _
  rw [BitVec.toNat_and, h7, Nat.and_two_pow_sub_one_eq_mod, IntKind.wrap_i64]
  have := Nat.mod_lt (BitVec.ofInt 64 n).toNat (show 0 < 2 ^ 3 by decide)
  omega
theorem laidL_len (s : List UInt8) : ∀ k : Nat, (laidL s k).length ≤ s.length + 20
  | 0 => by simp [laidL, p0]
  | 1 => by simp [laidL, p1]
  | 2 => by simp [laidL, p2]
  | 3 => by simp [laidL, q3]
  | 4 => by simp [laidL, p4]
  | 5 => by simp [laidL, p5]
  | 6 => by simp [laidL, p6, q6]
  | n + 7 => by simp [laidL, p7, q7]
end Su
