/- Walks: reference 09: Trim. -/
import Derived.Test.YthchklbnkojkgaaGreatDoorR09
namespace Go.Proofs.YthchklbnkojkgaaGreatDoor
open Go.RowKit Pk Hd

theorem trim_ix (s : ByteArray) (i k : Nat) (hik : i ≤ k) (hk : k ≤ s.size) (h1 : ∀ j (hj : j < s.size), j < i → blk s[j] = true) (h2 : ∀ j (hj : j < s.size), k ≤ j → blk s[j] = true)
    (h3 : i = k ∨ ∃ (a : i < s.size) (b : k - 1 < s.size), i < k ∧ blk s[i] = false ∧ blk s[k - 1] = false) : toB (trimB s.data.toList) = s.extract i k := by
  have hlen : s.data.toList.length = s.size := dataL s
  have e : s.data.toList = s.data.toList.take i ++ (s.data.toList.drop i).take (k - i) ++ s.data.toList.drop k := by
    have : s.data.toList.drop k = (s.data.toList.drop i).drop (k - i) := by rw [List.drop_drop]; congr 1; omega
    rw [this, List.append_assoc, List.take_append_drop, List.take_append_drop]
  have ex : (s.extract i k).data.toList = (s.data.toList.drop i).take (k - i) := by
    rw [ByteArray.data_extract, Array.toList_extract, List.extract_eq_take_drop]
  rw [← toB_back (s.extract i k), ex]
  congr 1
  conv => lhs; rw [e]
  apply trim_mid
  · intro c hc
    obtain ⟨j, hj, rfl⟩ := List.mem_iff_getElem.1 hc
    rw [List.getElem_take]
    rw [List.length_take] at hj
    exact h1 j (by omega) (by omega)
  · intro c hc
    obtain ⟨j, hj, rfl⟩ := List.mem_iff_getElem.1 hc
    rw [List.getElem_drop]
    rw [List.length_drop] at hj
    exact h2 (k + j) (by omega) (by omega)
  · rcases h3 with rfl | ⟨a, b, hlt, f1, f2⟩
    · rw [Nat.sub_self, List.take_zero]; exact ⟨by simp, by simp⟩
    · have hl : ((s.data.toList.drop i).take (k - i)).length = k - i := by rw [List.length_take, List.length_drop]; omega
      refine ⟨?_, ?_⟩
      · rw [List.head?_eq_getElem?, List.getElem?_eq_getElem (by omega), List.getElem_take, List.getElem_drop, Option.map_some]
        have : blk (s.data.toList[i + 0]'(by omega)) = false := f1
        rw [this]; decide
      · rw [List.getLast?_eq_getElem?, List.getElem?_eq_getElem (by omega), List.getElem_take, List.getElem_drop, Option.map_some]
        have e2 : i + (((s.data.toList.drop i).take (k - i)).length - 1) = k - 1 := by omega
        have : ∀ m (hm : m < s.data.toList.length), m = k - 1 → blk s.data.toList[m] = false := fun m hm em => by subst em; exact f2
        rw [this _ _ e2]; decide
set_option maxRecDepth 100000 in
theorem rtrim_any (s : ByteArray) (w : World) (hs : s.size ≤ 100000000) : Calls Tryz.prog 17 #[.string s] w fun e w' => e = .returned (.string (toB (trimB s.data.toList))) ∧ w = w' := by
  have hBl := Lib.hid rblank_any
  obtain ⟨T, hT⟩ : ∃ T, T = toB (trimB s.data.toList) := ⟨_, rfl⟩
  rw [← hT]
  have HT := Lib.hid hT
  clear hT
  go_enter Tryz.func17, Tryz.ntmps17
  go_wp2
  go_loop [3] (fun iv => ∃ i : Nat, iv = .int .i64 i ∧ i ≤ s.size ∧ Hid (∀ j (hj : j < s.size), j < i → blk s[j] = true)) (fun iv => s.size - (intOf iv).toNat)
  case atStart => exact ⟨0, by first | rfl | trivial, by omega, show ∀ j (hj : j < s.size), j < 0 → blk s[j] = true from fun j _ hj => by omega⟩
  case round =>
    obtain ⟨i, rfl, hi, hrel⟩ := hrel
    by_cases hgo : ∃ h : i < s.size, blk s[i] = true
    · obtain ⟨hlt, hb⟩ := hgo
      have hbl := fun w => hBl.out s[i] w
      rw [hb] at hbl
      have HBL := Lib.hid hbl
      have hd : Hid (∀ j (hj : j < s.size), j < i + 1 → blk s[j] = true) := fun j hj hji => by
        by_cases e : j = i
        · subst e; exact hb
        · exact hrel.out j hj (by omega)
      clear hbl hb hrel
      go_wp2_with (go_at_call 19; (with_reducible refine (HBL.out _).mono ?_); rintro e w1 ⟨rfl, rfl⟩)
      go_round
      case rel => exact ⟨i + 1, by go_num, by omega, hd⟩
      case measure => simp [intOf]; omega
    · have hex : Hid (i = s.size ∨ ∃ h : i < s.size, blk s[i] = false) := by
        by_cases h : i < s.size
        · right
          cases hb : blk s[i] with
          | false => exact ⟨h, hb⟩
          | true => exact absurd ⟨h, hb⟩ hgo
        · exact .inl (by omega)
      have hst : (¬ i < s.size) ∨ ∃ h : i < s.size, Hid (∀ w, Calls Tryz.prog 19 #[.int .u8 s[i].toNat] w fun e w' => e = .returned (.bool false) ∧ w = w') := by
        rcases hex.out with h | ⟨h, hb⟩
        · exact .inl (by omega)
        · refine .inr ⟨h, fun w => ?_⟩
          have := hBl.out s[i] w
          rwa [hb] at this
      clear hgo
      have hR1 := hrel
      clear hrel
      rcases hst with hlt | ⟨hlt, HBL⟩
      · go_wp2
        go_loop [4] (fun iv => ∃ k : Nat, iv = .int .i64 k ∧ i ≤ k ∧ k ≤ s.size ∧ Hid (∀ j (hj : j < s.size), k ≤ j → blk s[j] = true)) (fun iv => (intOf iv).toNat)
        case atStart => exact ⟨s.size, by first | rfl | trivial, hi, Nat.le_refl _, show ∀ j (hj : j < s.size), s.size ≤ j → blk s[j] = true from fun j hj hj2 => by omega⟩
        case round =>
          obtain ⟨k, rfl, hik, hk, hre2⟩ := hrel
          by_cases hgt : i < k
          · exact absurd hgt (by omega)
          · have hTx : T = s.extract i k := by
              rw [HT.out]
              exact trim_ix s i k hik hk hR1.out hre2.out (.inl (by omega))
            clear hre2 hR1 hex HT
            subst hTx
            go_wp2
            go_ret
            exact ⟨rfl, rfl⟩
      · go_wp2_with (go_at_call 19; (with_reducible refine (HBL.out _).mono ?_); rintro e w1 ⟨rfl, rfl⟩)
        go_loop [4] (fun iv => ∃ k : Nat, iv = .int .i64 k ∧ i ≤ k ∧ k ≤ s.size ∧ Hid (∀ j (hj : j < s.size), k ≤ j → blk s[j] = true)) (fun iv => (intOf iv).toNat)
        case atStart => exact ⟨s.size, by first | rfl | trivial, hi, Nat.le_refl _, show ∀ j (hj : j < s.size), s.size ≤ j → blk s[j] = true from fun j hj hj2 => by omega⟩
        case round =>
          obtain ⟨k, rfl, hik, hk, hre2⟩ := hrel
          by_cases hgt : i < k
          · have z1 : (i : Int) < (k : Int) := by omega
            have hk1 : k - 1 < s.size := by omega
            cases hb : blk s[k - 1] with
            | true =>
              have hbl := fun w => hBl.out s[k - 1] w
              rw [hb] at hbl
              have HBL2 := Lib.hid hbl
              have hd : Hid (∀ j (hj : j < s.size), k - 1 ≤ j → blk s[j] = true) := fun j hj hji => by
                by_cases e : j = k - 1
                · subst e; exact hb
                · exact hre2.out j hj (by omega)
              clear hbl hb hre2
              go_wp2_with (go_at_call 19; (with_reducible refine (HBL2.out _).mono ?_); rintro e w1 ⟨rfl, rfl⟩)
              go_round
              case rel => exact ⟨k - 1, by go_num, by omega, by omega, hd⟩
              case measure => first | (simp [intOf]; done) | (simp [intOf]; omega)
            | false =>
              have hbl := fun w => hBl.out s[k - 1] w
              rw [hb] at hbl
              have HBL2 := Lib.hid hbl
              have hTx : T = s.extract i k := by
                rw [HT.out]
                refine trim_ix s i k hik hk hR1.out hre2.out (.inr ⟨by omega, hk1, hgt, ?_, hb⟩)
                rcases hex.out with h | ⟨_, h⟩
                · omega
                · exact h
              clear hbl hb hre2 hR1 hex HT
              subst hTx
              go_wp2_with (go_at_call 19; (with_reducible refine (HBL2.out _).mono ?_); rintro e w1 ⟨rfl, rfl⟩)
              go_ret
              exact ⟨rfl, rfl⟩
          · have hTx : T = s.extract i k := by
              rw [HT.out]
              exact trim_ix s i k hik hk hR1.out hre2.out (.inl (by omega))
            clear hre2 hR1 hex HT
            subst hTx
            go_wp2
            go_ret
            exact ⟨rfl, rfl⟩
end Go.Proofs.YthchklbnkojkgaaGreatDoor
