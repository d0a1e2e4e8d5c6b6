/- Walks: dates: Read: what its callees answer; plain. -/
import Derived.Test.YtlgnhngbmciaoaaDoorDtA
import Derived.Test.YtlgnhngbmciaoaaDoorDt6
import Derived.Lib.SlicesS
namespace Go.Proofs.YtlgnhngbmciaoaaDoor
open Go.RowKit Pk Dt

def Row5 (W : World) (g o : Nat) (l : List ByteArray) : Prop := ∀ (j : Nat) (h : j < l.length), W.cell? ⟨g, o + j, none⟩ = some (.string l[j])
theorem Row5.later {W W' : World} {g o : Nat} {l : List ByteArray} (h : Row5 W g o l) (hb : Below W.heap.size W W') : Row5 W' g o l := fun j hj => laterC hb (h j hj)
theorem Row5.tail {W : World} {g o : Nat} {x : ByteArray} {r : List ByteArray} (h : Row5 W g o (x :: r)) : Row5 W g (o + 1) r := fun j hj => by
  have := h (j + 1) (by simpa using hj)
  rw [show o + 1 + j = o + (j + 1) by omega]
  exact this
/-- the two tables as the program reads them -/
def wdZ : List ByteArray := wdays.map fun l => ⟨l.toArray⟩
def moZ : List ByteArray := mons.map fun l => ⟨l.toArray⟩
theorem mem_map_mk (x : ByteArray) (l : List (List UInt8)) : (x ∈ l.map fun y => (⟨y.toArray⟩ : ByteArray)) ↔ x.data.toList ∈ l := by
  rw [List.mem_map]
  constructor
  · rintro ⟨y, hy, rfl⟩
    simpa using hy
  · intro h
    exact ⟨_, h, by cases x; simp⟩
theorem wdZ_at : ∀ j, j < 7 → wdZ.getD j ByteArray.empty = wdB j := by
  intro j hj
  rcases (by omega : j = 0 ∨ j = 1 ∨ j = 2 ∨ j = 3 ∨ j = 4 ∨ j = 5 ∨ j = 6) with rfl | rfl | rfl | rfl | rfl | rfl | rfl <;> rfl
theorem moZ_at : ∀ j, j < 12 → moZ.getD j ByteArray.empty = moB j := by
  intro j hj
  rcases (by omega : j = 0 ∨ j = 1 ∨ j = 2 ∨ j = 3 ∨ j = 4 ∨ j = 5 ∨ j = 6 ∨ j = 7 ∨ j = 8 ∨ j = 9 ∨ j = 10 ∨ j = 11) with rfl | rfl | rfl | rfl | rfl | rfl | rfl | rfl | rfl | rfl | rfl | rfl <;> rfl
theorem idx_ixF (x : ByteArray) : ∀ (l : List (List UInt8)) (i : Nat), Lib.idxFromS (l.map fun y => (⟨y.toArray⟩ : ByteArray)) x i = (ixF x.data.toList (i + 1) l : Int) - 1
  | [], i => by simp [Lib.idxFromS, ixF]
  | y :: r, i => by
    rw [List.map_cons, Lib.idxFromS, ixF]
    by_cases h : y = x.data.toList
    · rw [if_pos h, if_pos (by rw [h])]; omega
    · rw [if_neg h, if_neg (fun e => h (by rw [← e])), idx_ixF x r (i + 1)]
theorem ixF_le (x : List UInt8) : ∀ (l : List (List UInt8)) (i : Nat), ixF x i l ≤ i + l.length
  | [], i => by simp [ixF]
  | y :: r, i => by
    rw [ixF]
    split
    · omega
    · have := ixF_le x r (i + 1)
      rw [List.length_cons]; omega
theorem monL_le (x : List UInt8) : monL x ≤ 13 := ixF_le x mons 1
theorem has_wd (x : ByteArray) (W : World) (h : Rd7 W) : Calls Tryd.prog 22 #[.slice (some ⟨0, 0, none⟩) 7 7, .string x] W fun e w' => e = .returned (.bool (wdays.contains x.data.toList)) ∧ w' = W := by
  have hl : wdZ.length = 7 := rfl
  have := Tryd.slices_Contains_string 0 0 7 7 wdZ x W (by omega) (by decide) (fun j hj => by
    rw [hl] at hj
    rw [Nat.zero_add, wdZ_at j hj]; exact h.wd j hj)
  have e : Lib.containsS (wdZ.take 7) x = wdays.contains x.data.toList := by
    rw [List.take_of_length_le (by omega), Bool.eq_iff_iff, Lib.containsS_iff, List.contains_iff_mem]
    exact mem_map_mk x wdays
  rw [e] at this
  exact this
theorem ix_mo (x : ByteArray) (W : World) (h : Rd7 W) : Calls Tryd.prog 24 #[.slice (some ⟨1, 0, none⟩) 12 12, .string x] W fun e w' => e = .returned (.int .i64 ((monL x.data.toList : Int) - 1)) ∧ w' = W := by
  have hl : moZ.length = 12 := rfl
  have := Tryd.slices_Index_string 1 0 12 12 moZ x W (by omega) (by decide) (fun j hj => by
    rw [hl] at hj
    rw [Nat.zero_add, moZ_at j hj]; exact h.mo j hj)
  have e : Lib.idxOfS (moZ.take 12) x = (monL x.data.toList : Int) - 1 := by
    rw [List.take_of_length_le (by omega)]
    exact idx_ixF x mons 0
  rw [e] at this
  exact this
/-- the fields -/
theorem flds_size (p : Nat → Bool) (s : ByteArray) : ∀ x ∈ Lib.goFieldsP p s, x.size ≤ s.size := fun x hx => by
  unfold Lib.goFieldsP at hx
  obtain ⟨y, -, rfl⟩ := List.mem_map.1 hx
  rw [ext_size]; omega
theorem flds_call (P : ByteArray) (W : World) (hs : P.size ≤ 100000000) (L : List ByteArray) (hL : L = Lib.goFieldsP blkR P) : Calls Tryd.prog 19 #[.string P, .func (.func 21) #[] #[]] W fun e w' => ∃ A, e = .returned (.slice (some ⟨A, 0, none⟩) L.length L.length) ∧ Row5 w' A 0 L ∧ Below W.heap.size W w' := by
  subst hL
  refine (Tryd.strings_FieldsFunc_runes 21 #[] (enters_of Tryd.func21 (by kernel_rfl) rfl) blkR P W (by omega) (blk_pred W)).mono fun e w' h => ?_
  obtain ⟨A, h1, h2, h3, h4⟩ := h
  refine ⟨A, h1, fun j hj => ?_, h4⟩
  have := World.ownsRow.cells h3 (g := A) rfl j (.string (Lib.goFieldsP blkR P)[j]) (by rw [List.getElem?_map, List.getElem?_eq_getElem hj]; rfl)
  rw [Addr.add_lit] at this
  exact this
/-- the last of the words made five -/
def fixL (M : List ByteArray) : List ByteArray := if M.length = 4 then M ++ [⟨#[122]⟩] else M
def datL (M : List ByteArray) : List (List UInt8) := M.map (·.data.toList)
theorem noDay_nil : noDay [] = [] := rfl
theorem readF_fix (L M : List ByteArray) (h : noDay (datL L) = datL M) : readF (datL L) = match datL (fixL M) with
    | [a, b, c, d, e] => read5 a b c d e
    | _ => none := by
  unfold readF
  rw [h]
  match M with
  | [] => rfl
  | [a] => rfl
  | [a, b] => rfl
  | [a, b, c] => rfl
  | [a, b, c, d] => rfl
  | [a, b, c, d, e] => rfl
  | a :: b :: c :: d :: e :: f :: r =>
    have hf : fixL (a :: b :: c :: d :: e :: f :: r) = a :: b :: c :: d :: e :: f :: r := by unfold fixL; rw [if_neg (by simp)]
    rw [hf]; rfl
theorem year_bd (s : List UInt8) : 0 ≤ (yearL s).1 ∧ (yearL s).1 ≤ 20000 := by
  obtain ⟨a, b⟩ := nbd_le (digL_nbd 2 4 s) (by omega)
  unfold yearL
  simp only
  split
  · omega
  · split <;> omega
theorem clock3_bd (a b c : List UInt8) : 0 ≤ (clock3 a b c).1 ∧ (clock3 a b c).1 ≤ 40000000 := by
  obtain ⟨a1, a2⟩ := nbd_le (digL_nbd 2 2 a) (by omega)
  obtain ⟨b1, b2⟩ := nbd_le (digL_nbd 2 2 b) (by omega)
  obtain ⟨c1, c2⟩ := nbd_le (digL_nbd 2 2 c) (by omega)
  unfold clock3
  simp only
  omega
theorem clock_bd (s : List UInt8) : 0 ≤ (clockL s).1 ∧ (clockL s).1 ≤ 40000000 := by
  unfold clockL
  split
  · exact clock3_bd _ _ _
  · exact clock3_bd _ _ _
  · exact ⟨Int.le_refl _, by show (0 : Int) ≤ 40000000; decide⟩
theorem zone_bd (s : List UInt8) : -1000000 ≤ (zoneL s).1 ∧ (zoneL s).1 ≤ 1000000 := by
  obtain ⟨a1, a2⟩ := nbd_le (digL_nbd 2 2 ((s.drop 1).take 2)) (by omega)
  obtain ⟨b1, b2⟩ := nbd_le (digL_nbd 2 2 (s.drop 3)) (by omega)
  obtain ⟨k1, k2⟩ := known_rng s
  unfold zoneL
  split
  · simp only
    split <;> omega
  · split
    · simp only; omega
    · exact ⟨by show (-1000000 : Int) ≤ 0; decide, by show (0 : Int) ≤ 1000000; decide⟩
theorem days_bd (y m d : Int) : -800000 ≤ daysL y m d ∧ daysL y m d ≤ 3000000 := by
  unfold daysL
  split
  · omega
  · split
    · rename_i h
      by_cases hr : -719162 ≤ cntL y m d ∧ cntL y m d ≤ 2932896
      · omega
      · rw [civL_out hr] at h
        injection h with h1 h2 h3
        omega
    · omega
theorem day_bd (a b c d e : List UInt8) : -800000 ≤ dayN a b c d e ∧ dayN a b c d e ≤ 3000000 := by
  unfold dayN
  split
  · exact days_bd _ _ _
  · omega
end Go.Proofs.YtlgnhngbmciaoaaDoor
