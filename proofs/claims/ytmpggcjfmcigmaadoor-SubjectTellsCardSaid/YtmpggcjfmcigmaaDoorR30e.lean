/- Walks of the reference pouchref30: Step. -/
import Derived.Test.YtmpggcjfmcigmaaDoorR30d
namespace Go.Proofs.YtmpggcjfmcigmaaDoor
open Go.RowKit Pk U8 Su Fo

def stepV (l : List UInt8) : List UInt8 × Bool × Bool := match stepR l with
  | some (t, b) => (t, b, true)
  | none => (l, false, false)
def StepRIs (V : List UInt8 × Bool × Bool) (w : World) (e : Ending) (w' : World) : Prop := e = .returned (.tuple #[.string ⟨V.1.toArray⟩, .bool V.2.1, .bool V.2.2]) ∧ Below w.heap.size w w'
theorem arr_of {A : ByteArray} {l : List UInt8} (h : A.data.toList = l) : A = (⟨l.toArray⟩ : ByteArray) := by subst h; simp
theorem mk_blob {t u : List UInt8} (h : blob t = some u) : mkF [re, fwd, fw] t = none := by
  obtain ⟨r, rfl⟩ := blob_head h
  have h1 : tryMark re (91 :: r) = none := by
    unfold tryMark st; rw [if_neg]; intro e; cases r <;> simp [re, lowc] at e
  have h2 : tryMark fwd (91 :: r) = none := by
    unfold tryMark st; rw [if_neg]; intro e; simp [fwd, lowc] at e
  have h3 : tryMark fw (91 :: r) = none := by
    unfold tryMark st; rw [if_neg]; intro e; simp [fw, lowc] at e
  rw [mkF_none h1, mkF_none h2, mkF_none h3]; rfl
theorem tm_suf {m t u : List UInt8} (h : tryMark m t = some u) : u <:+ t := by
  unfold tryMark at h
  cases hst : st m t with
  | none => rw [hst] at h; cases h
  | some r =>
    rw [hst] at h
    obtain ⟨-, h2, -⟩ := st_some hst
    have hr : r <:+ t := by rw [h2]; exact List.drop_suffix _ _
    have hg : (blob (free r)).getD (free r) <:+ r := by
      cases hb : blob (free r) with
      | none => exact free_suf r
      | some v => exact (blob_suf hb).trans (free_suf r)
    simp only at h
    split at h
    · rename_i q heq
      injection h with h
      subst h
      rw [heq] at hg
      exact ((free_suf q).trans (List.suffix_cons _ _)).trans (hg.trans hr)
    · cases h
theorem mkF_suf {t u : List UInt8} : ∀ ms : List (List UInt8), mkF ms t = some u → u <:+ t
  | [], h => by cases h
  | m :: ms, h => by
    cases hm : tryMark m t with
    | some x => rw [mkF_some hm] at h; injection h with h; subst h; exact tm_suf hm
    | none => rw [mkF_none hm] at h; exact mkF_suf ms h
theorem mk_ix2 (s : ByteArray) (k : Nat) : (mkF [re, fwd, fw] (tl s k) = none ∧ ixO s (mkF [re, fwd, fw] (tl s k)) = -1) ∨ ∃ j : Nat, j ≤ s.size ∧ mkF [re, fwd, fw] (tl s k) = some (tl s j) ∧ ixO s (mkF [re, fwd, fw] (tl s k)) = j := by
  cases h : mkF [re, fwd, fw] (tl s k) with
  | none => exact Or.inl ⟨rfl, rfl⟩
  | some t => exact Or.inr ⟨s.size - t.length, by omega, congrArg some (suf_tl (mkF_suf _ h)), rfl⟩
theorem mk_skip {t u : List UInt8} (h : mkF [re, fwd, fw] t = some u) : skip t = t := by
  cases hb : blob t with
  | none => exact skip_none hb
  | some v => rw [mk_blob hb] at h; cases h
theorem last_iff (s : ByteArray) (h : 0 < s.size) : s.data.toList.getLast? = some s[s.size - 1] := by
  rw [List.getLast?_eq_getElem?]
  have e : s.data.toList.length = s.size := rfl
  rw [e, List.getElem?_eq_getElem (by rw [e]; omega)]
  rfl
theorem head_iff (s : ByteArray) (h : 0 < s.size) : s.data.toList.head? = some s[0] := by
  rw [← tl_zero, tl_cons s 0 h]; rfl
theorem begF_iff (s : ByteArray) (h : 5 ≤ s.size) : begB s (s.size - 5) ⟨#[40, 102, 119, 100, 41]⟩ = endsF s.data.toList := by
  have e : s.data.toList.length = s.size := rfl
  unfold begB st endsF
  rw [e, decide_eq_true h, Bool.true_and]
  have e1 : (tl s (s.size - 5)).take 5 = tl s (s.size - 5) := List.take_of_length_le (by rw [tl_length]; omega)
  show (if ((tl s (s.size - 5)).take 5).map lowc = fwdT then _ else none).isSome = _
  rw [e1]
  show _ = ((tl s (s.size - 5)).map lowc == fwdT)
  split
  · rename_i h1; rw [h1]; rfl
  · rename_i h1; rw [beq_eq_false_iff_ne.2 h1]; rfl
theorem begins_sub (s : ByteArray) (M : ByteArray) (w : World) (hs : s.size ≤ 10000000) (h5 : 5 ≤ s.size) (hM : M.size ≤ 100) :
    Calls Tryd.prog 57 #[.string s, .int .i64 ((s.size : Int) - 5), .string M] w fun e w' => e = .returned (.bool (begB s (s.size - 5) M)) ∧ Below w.heap.size w w' := by
  have := beginsR_any s (s.size - 5) M w hs (by omega) hM
  rwa [show ((s.size - 5 : Nat) : Int) = (s.size : Int) - 5 by omega] at this
end Go.Proofs.YtmpggcjfmcigmaaDoor
