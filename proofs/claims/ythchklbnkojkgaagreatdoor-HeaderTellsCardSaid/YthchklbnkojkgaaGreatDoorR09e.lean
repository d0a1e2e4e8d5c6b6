/- Walks: reference 09: Lines. -/
import Derived.Test.YthchklbnkojkgaaGreatDoorR09d
import Derived.Test.YthchklbnkojkgaaGreatDoorRepX
namespace Go.Proofs.YthchklbnkojkgaaGreatDoor
open Go.RowKit Pk Hd

/-- what the loop keeps: the lines so far, and the line under way -/
def LinesAt (s : ByteArray) (f k : Nat) (acc : List ByteArray) (X : List (List UInt8)) : Prop := acc.map (·.data.toList) ++ lnG ((s.extract f k).data.toList) (tl s k) = X
theorem ext_snoc (s : ByteArray) {f k : Nat} (h : f ≤ k) (hk : k < s.size) : (s.extract f (k + 1)).data.toList = (s.extract f k).data.toList ++ [s[k]] := by
  have hl := dataL s
  rw [ByteArray.data_extract, Array.toList_extract, ByteArray.data_extract, Array.toList_extract, List.extract_eq_take_drop, List.extract_eq_take_drop]
  have e : k + 1 - f = k - f + 1 := by omega
  rw [e, List.take_add_one]
  congr 1
  rw [List.getElem?_drop, show f + (k - f) = k by omega, List.getElem?_eq_getElem (by omega)]
  rfl
theorem lines_step {s : ByteArray} {f k : Nat} {acc : List ByteArray} {X : List (List UInt8)} (h : Hid (LinesAt s f k acc X)) (hf : f ≤ k) (hk : k < s.size) (hc : s[k] ≠ 10) : Hid (LinesAt s f (k + 1) acc X) := by
  have e := h.out
  unfold LinesAt at e
  rw [tl_cons s k hk, lnG, if_neg hc, ← ext_snoc s hf hk] at e
  exact e
theorem lines_cut {s : ByteArray} {f k : Nat} {acc : List ByteArray} {X : List (List UInt8)} (h : Hid (LinesAt s f k acc X)) (hf : f ≤ k) (hk : k < s.size) (hc : s[k] = 10 ∨ k + 1 = s.size) : Hid (LinesAt s (k + 1) (k + 1) (acc ++ [s.extract f (k + 1)]) X) := by
  have e := h.out
  unfold LinesAt at e
  show LinesAt s (k + 1) (k + 1) (acc ++ [s.extract f (k + 1)]) X
  have e0 : (s.extract (k + 1) (k + 1)).data.toList = [] := List.eq_nil_of_length_eq_zero (by rw [dataL, ByteArray.size_extract]; omega)
  unfold LinesAt
  rw [List.map_append, e0, ← e, List.append_assoc]
  congr 1
  rw [tl_cons s k hk, lnG, ← ext_snoc s hf hk]
  by_cases h10 : s[k] = 10
  · rw [if_pos h10]; rfl
  · rw [if_neg h10, tl_end s (k + 1) (by have := hc.resolve_left h10; omega)]
    have hne : (s.extract f (k + 1)).data.toList ≠ [] := by rw [ext_snoc s hf hk]; simp
    conv => rhs; unfold lnG
    rw [if_neg (by simpa using hne)]
    rfl
theorem ssl9 : StrSl Tryz.prog 32 9 := sslR
set_option maxHeartbeats 2000000 in
set_option maxRecDepth 100000 in
theorem rlines_any (s : ByteArray) (w : World) (hs : s.size ≤ 1000000) :
    Calls Tryz.prog 14 #[.string s] w fun e w' => ∃ v acc, e = .returned v ∧ ownsS w' w.heap.size 9 v acc ∧ acc.map (·.data.toList) = linesL s.data.toList ∧ acc.length ≤ s.size ∧ Below w.heap.size w w' := by
  obtain ⟨X, hX⟩ : ∃ X, X = linesL s.data.toList := ⟨_, rfl⟩
  have h0 : Hid (LinesAt s 0 0 [] X) := by
    show LinesAt s 0 0 [] X
    have e0 : (s.extract 0 0).data.toList = [] := List.eq_nil_of_length_eq_zero (by rw [dataL, ByteArray.size_extract]; omega)
    unfold LinesAt; rw [e0, tl_zero, hX]; rfl
  rw [← hX]
  clear hX
  go_enter Tryz.func14, Tryz.ntmps14
  go_wp2
  go_loopw [3, 4, 5] (fun v f i wr => ∃ (a k : Nat) (acc : List ByteArray), f = .int .i64 a ∧ i = .int .i64 k ∧ ownsS wr w.heap.size 9 v acc ∧ Below w.heap.size w wr ∧ a ≤ k ∧ k ≤ s.size ∧ acc.length ≤ a ∧ (k = s.size → a = k) ∧ Hid (LinesAt s a k acc X)) (fun _ _ i _ => s.size - (intOf i).toNat)
  case atStart => exact ⟨0, 0, [], rfl, rfl, ownsS.nil _ _ _, Below.refl _ _, by omega, by omega, by simp, fun _ => rfl, h0⟩
  case round =>
    obtain ⟨a, k, acc, rfl, rfl, hown, hbel, hak, hk, hal, hend, hrel⟩ := hrel
    have hsz := hbel.size
    by_cases hlt : k < s.size
    · have q1 : ((s[k].toNat : Int) == 10) = decide (s[k] = 10) := u8k 10 (by decide)
      have z1 : (0 : Int) ≤ (a : Int) := by omega
      have z2 : (a : Int) ≤ (k : Int) + 1 := by omega
      have z3 : (k : Int) + 1 ≤ (s.size : Int) := by omega
      by_cases hc : s[k] = 10
      · have hd := lines_cut hrel hak hlt (.inl hc)
        rw [decide_eq_true hc] at q1
        clear hrel hc hend
        go_wp2_with (at_builtin; refine append_str _ rfl (.tmp 23) (.tmp 29) ssl9 rfl w.heap.size _ _ rfl (hown.alloc _) ⟨_, 0, none⟩ 1 1 [_] rfl rfl (cells_new _ _ _) (by first | omega | (simp; done) | (simp; omega)) (by first | omega | (simp; done) | (simp; omega)) ?_; intro v1 w1 hown1 hg1; have hb1 := Below_grownS (hbel.alloc hsz _) (hown.alloc _) hg1 (by first | omega | (simp; done) | (simp; omega)); have hz1 := hb1.size; clear hg1)
        go_roundw
        case rel => exact ⟨k + 1, k + 1, _, by go_num, by go_num, hown1, hb1, by omega, by omega, by rw [List.length_append, List.length_singleton]; omega, fun _ => rfl, hd⟩
        case measure => simp [intOf]; omega
      · rw [decide_eq_false hc] at q1
        by_cases he : k + 1 = s.size
        · have hd := lines_cut hrel hak hlt (.inr he)
          have hd : Hid (LinesAt s (k + 1) (k + 1) (acc ++ [s.extract a s.size]) X) := by
            have := hd
            rwa [show s.extract a (k + 1) = s.extract a s.size by rw [he]] at this
          have q2 : ((k : Int) + 1 == (s.size : Int)) = true := by rw [← he]; simp
          clear hrel hc hend
          go_wp2_with (at_builtin; refine append_str _ rfl (.tmp 23) (.tmp 29) ssl9 rfl w.heap.size _ _ rfl (hown.alloc _) ⟨_, 0, none⟩ 1 1 [_] rfl rfl (cells_new _ _ _) (by first | omega | (simp; done) | (simp; omega)) (by first | omega | (simp; done) | (simp; omega)) ?_; intro v1 w1 hown1 hg1; have hb1 := Below_grownS (hbel.alloc hsz _) (hown.alloc _) hg1 (by first | omega | (simp; done) | (simp; omega)); have hz1 := hb1.size; clear hg1)
          go_roundw
          case rel => exact ⟨k + 1, k + 1, _, by go_num, by go_num, hown1, hb1, by omega, by omega, by rw [List.length_append, List.length_singleton]; omega, fun _ => rfl, hd⟩
          case measure => simp [intOf]; omega
        · have hd := lines_step hrel hak hlt hc
          have q2 : ((k : Int) + 1 == (s.size : Int)) = false := beq_eq_false_iff_ne.2 (by omega)
          clear hrel hc hend
          go_wp2
          go_roundw
          case rel => exact ⟨a, k + 1, acc, rfl, by go_num, hown, hbel, by omega, by omega, hal, fun e => absurd e he, hd⟩
          case measure => simp [intOf]; omega
    · have hka := hend (by omega)
      subst hka
      have hX : acc.map (·.data.toList) = X := by
        have e := hrel.out
        unfold LinesAt at e
        have e0 : (s.extract a a).data.toList = [] := List.eq_nil_of_length_eq_zero (by rw [dataL, ByteArray.size_extract]; omega)
        rw [e0, tl_end s a (by omega), lnG] at e
        simpa using e
      clear hrel hend
      go_wp2
      go_ret
      exact ⟨_, acc, rfl, hown, hX, by omega, hbel⟩
end Go.Proofs.YthchklbnkojkgaaGreatDoor
