/- Walks: the program's codec: UnQ, UnQp. -/
import Derived.Test.YtnclbbgdfaeilaaGreatDoorCod6
import Derived.Test.YtnclbbgdfaeilaaGreatDoorSpc6
import Derived.Test.YtnclbbgdfaeilaaGreatDoorShelf
namespace Go.Proofs.YtnclbbgdfaeilaaGreatDoor
open Go.RowKit Pk C6 Hx

theorem arr_ex (l : List UInt8) : ∃ A : ByteArray, A = ⟨l.toArray⟩ ∧ A.data.toList = l ∧ A.size = l.length := ⟨⟨l.toArray⟩, rfl, by simp, by simp [ByteArray.size]⟩
theorem below_draws' (w : World) (n : Nat) : Below w.heap.size w (w.drewN n) := ⟨rfl, rfl, rfl, Nat.le_refl _, fun _ _ => rfl⟩
theorem cell_below {w w' : World} {B : Nat} {m : Int} (hm : w.cell? ⟨1, 0, none⟩ = some (.int .i64 m)) (h : Below B w w') (hB : B = w.heap.size) : w'.cell? ⟨1, 0, none⟩ = some (.int .i64 m) := by
  subst hB
  exact cell_later h hm
theorem unblank_cut : ∀ l : List UInt8, unblank l = if (Lib.cut l [95]).2.2 = true then (Lib.cut l [95]).1 ++ 32 :: unblank (Lib.cut l [95]).2.1 else l
  | [] => by rw [cut_nil (by decide)]; rfl
  | c :: r => by
    by_cases hc : c = 95
    · subst hc
      rw [cut_hit (by simp [List.isPrefixOf])]
      simp [unblank]
    · rw [cut_cons (by simp [List.isPrefixOf]; exact fun e => hc e.symm)]
      have ih := unblank_cut r
      have e : unblank (c :: r) = c :: unblank r := by
        unfold unblank
        rw [List.map_cons, if_neg]
        intro h; exact hc (by rw [← UInt8.toNat_inj]; exact h)
      rw [e, ih]
      simp only
      split <;> simp
theorem replF (l : List UInt8) : Lib.replaceK [95] [32] (Lib.count l [95]) l = if (Lib.cut l [95]).2.2 = true then (Lib.cut l [95]).1 ++ 32 :: Lib.replaceK [95] [32] (Lib.count (Lib.cut l [95]).2.1 [95]) (Lib.cut l [95]).2.1 else l := by
  by_cases h : Lib.index l [95] = -1
  · rw [Lib.count_miss h]
    unfold Lib.cut
    rw [h]; rfl
  · have hg := Lib.index_ge l [95]
    obtain ⟨i, hi⟩ : ∃ i : Nat, Lib.index l [95] = i := ⟨(Lib.index l [95]).toNat, by omega⟩
    rw [Lib.count_hit (by decide) hi, Nat.add_comm, Lib.replaceK_hit _ _ _ _ _ hi]
    unfold Lib.cut
    rw [hi, if_pos (Int.natCast_nonneg i)]
    simp
theorem replU : ∀ (n : Nat) (l : List UInt8), l.length ≤ n → Lib.replaceK [95] [32] (Lib.count l [95]) l = unblank l
  | 0, l, h => by
    have : l = [] := List.eq_nil_of_length_eq_zero (by omega)
    subst this; rfl
  | n + 1, l, h => by
    rw [replF, unblank_cut]
    split
    · rename_i hc
      have hl := cut_length [95] (by decide) l
      rw [if_pos hc] at hl
      rw [replU n _ (by simp at hl; omega)]
    · rfl
theorem replace_unblank (l : List UInt8) : Lib.replaceAll l [95] [32] = unblank l := by
  unfold Lib.replaceAll Lib.replace Lib.replaceNum
  rw [if_neg (by decide), if_pos (.inl (by decide))]
  exact replU _ l (Nat.le_refl _)
theorem unQP_any (s : ByteArray) (w : World) (m : Int) (hs : s.size ≤ 3000000) (hm : w.cell? ⟨1, 0, none⟩ = some (.int .i64 m)) :
    Calls Tryz.prog 70 #[.string s] w fun e w' => e = .returned (.string ⟨(unQR s.data.toList).toArray⟩) ∧ Below w.heap.size w w' := by
  have hcl := Lib.countB_le ⟨#[95]⟩ (by decide) s.size s (Nat.le_refl _)
  have hra := Tryz.strings_ReplaceAll s ⟨#[95]⟩ ⟨#[32]⟩ m w (by omega) hm (by decide) (by show _ + _ * 1 ≤ _; omega)
  have e : Lib.replaceAll s.data.toList (⟨#[95]⟩ : ByteArray).data.toList (⟨#[32]⟩ : ByteArray).data.toList = unblank s.data.toList := replace_unblank _
  rw [e] at hra
  have HR := Lib.hid hra
  clear hra e hcl hm
  go_enter Tryz.func70, Tryz.ntmps70
  go_wp2_with (first
    | (go_at_call 95; refine (HR.out).mono ?_; rintro e w' ⟨rfl, hb1⟩; have hz1 := hb1.size)
    | (go_at_call 100; refine (unescape_any _ _ (by show (unblank s.data.toList).length ≤ _; unfold unblank; rw [List.length_map]; show s.size ≤ _; omega)).mono ?_; rintro e w' ⟨rfl, hb2⟩))
  go_ret
  exact ⟨rfl, hb1.trans (hb2.mono hz1)⟩

end Go.Proofs.YtnclbbgdfaeilaaGreatDoor
