/- Walks of the reference pouchref05: length. Printed by gen05c.py. -/
import Derived.Test.YtlbnhkojfefccaaDoorR05b
import Derived.Test.YtlbnhkojfefccaaDoorPl30a
import Derived.Outline
namespace Go.Proofs.YtlbnhkojfefccaaDoor
open Go.RowKit Pk U8 Su Fo

theorem vals (n : Nat) (h : Utf8.valid (n : Int) = true) : Sca n := (valid_iff n).1 h
theorem len_lo {l : List UInt8} (h : at' l 0 < 194) : (dec l).2 = 1 := by
  rw [dec_F]; unfold decF
  split
  · rfl
  · split
    · rename_i h1 h2
      simp only [Bool.and_eq_true, beq_iff_eq] at h2
      have := Nat.mod_lt (at' l 1) (show 0 < 64 by decide)
      rw [if_neg (by omega)]
    · split
      · rename_i h3; simp only [Bool.and_eq_true, beq_iff_eq] at h3; omega
      · split
        · rename_i h3; simp only [Bool.and_eq_true, beq_iff_eq] at h3; omega
        · rfl
theorem len_hi {l : List UInt8} (h : 245 ≤ at' l 0) (h' : at' l 0 < 256) : (dec l).2 = 1 := by
  rw [dec_F]; unfold decF
  split
  · rfl
  · split
    · rename_i h2; simp only [Bool.and_eq_true, beq_iff_eq] at h2; omega
    · split
      · rename_i h3; simp only [Bool.and_eq_true, beq_iff_eq] at h3; omega
      · split
        · rename_i h3; simp only [Bool.and_eq_true, beq_iff_eq] at h3
          rw [if_neg]
          intro hx
          rw [Bool.and_eq_true, valid_iff] at hx
          have := hx.2
          unfold Sca at this
          omega
        · rfl
theorem len_no2 {l : List UInt8} (h : 194 ≤ at' l 0) (h' : at' l 0 ≤ 223) (hc : cont l 1 = false) : (dec l).2 = 1 := by
  rw [dec_F, hc]; unfold decF
  rw [if_neg (by omega), if_neg (by simp), if_neg (by simp), if_neg (by simp)]
theorem len_yes2 {l : List UInt8} (h : 194 ≤ at' l 0) (h' : at' l 0 ≤ 223) (hc : cont l 1 = true) : (dec l).2 = 2 := by
  rw [dec_F, hc]; unfold decF
  rw [if_neg (by omega), if_pos (by simp only [Bool.and_true, beq_iff_eq]; omega), if_pos (by omega)]
theorem len_no3 {l : List UInt8} (h : 224 ≤ at' l 0) (h' : at' l 0 ≤ 239) (hc : cont l 1 = false ∨ cont l 2 = false) : (dec l).2 = 1 := by
  rw [dec_F]; unfold decF
  rw [if_neg (by omega), if_neg (by simp only [Bool.and_eq_true, beq_iff_eq]; omega), if_neg, if_neg (by simp only [Bool.and_eq_true, beq_iff_eq]; omega)]
  rcases hc with hc | hc <;> rw [hc] <;> simp
theorem len_yes3 {l : List UInt8} (h : 224 ≤ at' l 0) (h' : at' l 0 ≤ 239) (hc : cont l 1 = true ∧ cont l 2 = true) (V : Nat) (hV : V = at' l 0 % 16 * 4096 + at' l 1 % 64 * 64 + at' l 2 % 64) :
    (dec l).2 = if V < 2048 ∨ (55296 ≤ V ∧ V ≤ 57343) then 1 else 3 := by
  have := Nat.mod_lt (at' l 1) (show 0 < 64 by decide)
  have := Nat.mod_lt (at' l 2) (show 0 < 64 by decide)
  rw [dec_F, hc.1, hc.2]; unfold decF
  rw [if_neg (by omega), if_neg (by simp only [Bool.and_eq_true, beq_iff_eq]; omega), if_pos (by simp only [Bool.and_true, beq_iff_eq]; omega), ← hV]
  by_cases hx : V < 2048 ∨ (55296 ≤ V ∧ V ≤ 57343)
  · rw [if_pos hx, if_neg]
    intro hy
    rw [Bool.and_eq_true, valid_iff, decide_eq_true_eq] at hy
    have := hy.2
    unfold Sca at this
    omega
  · rw [if_neg hx, if_pos]
    rw [Bool.and_eq_true, valid_iff, decide_eq_true_eq]
    unfold Sca
    omega
theorem len_no4 {l : List UInt8} (h : 240 ≤ at' l 0) (h' : at' l 0 ≤ 244) (hc : cont l 1 = false ∨ cont l 2 = false ∨ cont l 3 = false) : (dec l).2 = 1 := by
  rw [dec_F]; unfold decF
  rw [if_neg (by omega), if_neg (by simp only [Bool.and_eq_true, beq_iff_eq]; omega), if_neg (by simp only [Bool.and_eq_true, beq_iff_eq]; omega), if_neg]
  rcases hc with hc | hc | hc <;> rw [hc] <;> simp
theorem len_yes4 {l : List UInt8} (h : 240 ≤ at' l 0) (h' : at' l 0 ≤ 244) (hc : cont l 1 = true ∧ cont l 2 = true ∧ cont l 3 = true) (V : Nat) (hV : V = at' l 0 % 8 * 262144 + at' l 1 % 64 * 4096 + at' l 2 % 64 * 64 + at' l 3 % 64) :
    (dec l).2 = if V < 65536 ∨ 1114111 < V then 1 else 4 := by
  rw [dec_F, hc.1, hc.2.1, hc.2.2]; unfold decF
  rw [if_neg (by omega), if_neg (by simp only [Bool.and_eq_true, beq_iff_eq]; omega), if_neg (by simp only [Bool.and_eq_true, beq_iff_eq]; omega), if_pos (by simp only [Bool.and_true, beq_iff_eq]; omega), ← hV]
  by_cases hx : V < 65536 ∨ 1114111 < V
  · rw [if_pos hx, if_neg]
    intro hy
    rw [Bool.and_eq_true, valid_iff, decide_eq_true_eq] at hy
    have := hy.2
    unfold Sca at this
    omega
  · rw [if_neg hx, if_pos]
    rw [Bool.and_eq_true, valid_iff, decide_eq_true_eq]
    unfold Sca
    omega
theorem at_tl (s : ByteArray) (p k : Nat) (h : p + k < s.size) : at' (tl s p) k = s[p + k].toNat := by
  unfold at' tl
  rw [List.getD_eq_getElem?_getD, List.getElem?_drop, List.getElem?_eq_getElem (by simpa using h)]
  rfl
theorem cont_tl (s : ByteArray) (p k : Nat) (h : p + k < s.size) : cont (tl s p) k = (s[p + k].toNat / 64 == 2) := by
  unfold cont
  rw [at_tl s p k h, tl_length, decide_eq_true (by omega), Bool.true_and]
theorem cont_out (s : ByteArray) (p k : Nat) (h : ¬ p + k < s.size) : cont (tl s p) k = false := by
  unfold cont
  rw [tl_length, decide_eq_false (by omega), Bool.false_and]
theorem at_ext (s : ByteArray) (p n k : Nat) (h : p + n ≤ s.size) (hk : k < n) : at' (s.extract p (p + n)).data.toList k = at' (tl s p) k := by
  rw [ext_listS]
  unfold at' tl
  rw [List.getD_eq_getElem?_getD, List.getD_eq_getElem?_getD, List.getElem?_take, if_pos (by omega)]
set_option maxHeartbeats 1000000 in
set_option maxRecDepth 100000 in
theorem lenR_lo (s : ByteArray) (p : Nat) (w : World) (hs : s.size ≤ 10000000) (hp : p < s.size) (h : s[p].toNat < 194) : Calls Tryd.prog 22 #[.string s, .int .i64 p] w fun e w' => e = .returned (.int .i64 (dec (tl s p)).2) ∧ w = w' := by
  have b0 := s[p].toNat_lt
  have ha : at' (tl s p) 0 = s[p].toNat := at_tl s p 0 hp
  rw [len_lo (by omega)]
  have t1 : (s[p].toNat : Int) < 194 := by omega
  have t2 : ¬ ((194 : Int) ≤ s[p].toNat) := by omega
  have t3 : ¬ ((224 : Int) ≤ s[p].toNat) := by omega
  have t4 : ¬ ((240 : Int) ≤ s[p].toNat) := by omega
  clear ha
  go_enter Tryd.func22, Tryd.ntmps22
  go_wp2
  go_ret
  exact ⟨rfl, rfl⟩
set_option maxHeartbeats 1000000 in
set_option maxRecDepth 100000 in
theorem lenR_hi (s : ByteArray) (p : Nat) (w : World) (hs : s.size ≤ 10000000) (hp : p < s.size) (h : 245 ≤ s[p].toNat) : Calls Tryd.prog 22 #[.string s, .int .i64 p] w fun e w' => e = .returned (.int .i64 (dec (tl s p)).2) ∧ w = w' := by
  have b0 := s[p].toNat_lt
  have ha : at' (tl s p) 0 = s[p].toNat := at_tl s p 0 hp
  rw [len_hi (by omega) (by omega)]
  have t2 : (194 : Int) ≤ s[p].toNat := by omega
  have t3 : (224 : Int) ≤ s[p].toNat := by omega
  have t4 : (240 : Int) ≤ s[p].toNat := by omega
  have t5 : ¬ ((s[p].toNat : Int) ≤ 223) := by omega
  have t6 : ¬ ((s[p].toNat : Int) ≤ 239) := by omega
  have t7 : ¬ ((s[p].toNat : Int) ≤ 244) := by omega
  clear ha
  go_enter Tryd.func22, Tryd.ntmps22
  go_wp2
  go_ret
  exact ⟨rfl, rfl⟩
set_option maxHeartbeats 4000000 in
set_option maxRecDepth 100000 in
theorem lenR_2 (s : ByteArray) (p : Nat) (w : World) (hs : s.size ≤ 10000000) (hp : p < s.size) (h1 : 194 ≤ s[p].toNat) (h2 : s[p].toNat ≤ 223) : Calls Tryd.prog 22 #[.string s, .int .i64 p] w fun e w' => e = .returned (.int .i64 (dec (tl s p)).2) ∧ w = w' := by
  have b0 := s[p].toNat_lt
  have ha : at' (tl s p) 0 = s[p].toNat := at_tl s p 0 hp
  have hno := Lib.hid (len_no2 (l := tl s p) (by omega) (by omega))
  have hyes := Lib.hid (len_yes2 (l := tl s p) (by omega) (by omega))
  obtain ⟨D, hD⟩ : ∃ D, D = (dec (tl s p)).2 := ⟨_, rfl⟩
  rw [← hD] at hno hyes ⊢
  have t2a : (194 : Int) ≤ s[p].toNat := by omega
  have t2b : (s[p].toNat : Int) ≤ 223 := by omega
  clear hD
  by_cases hl : p + 2 ≤ s.size
  · have g1 : (p : Int) + 2 ≤ s.size := by omega
    have hR := fun w => runeR_2 (s.extract p (p + 2)) w (by rw [ByteArray.size_extract]; omega)
    have hV1 : runeF (s.extract p (p + 2)).data.toList 32 1 = at' (tl s p) 0 % 32 * 64 + at' (tl s p) 1 % 64 := by
      simp only [runeF]
      simp only [at_ext s p 2 _ hl (show 0 < 2 by omega), at_ext s p 2 _ hl (show 0 + 1 < 2 by omega)]
      try rfl
    obtain ⟨V, hV⟩ : ∃ V, V = runeF (s.extract p (p + 2)).data.toList 32 1 := ⟨_, rfl⟩
    rw [← hV] at hR
    rw [hV1, ha] at hV
    clear hV1
    have hV1 := Nat.mod_lt (at' (tl s p) 1) (show 0 < 64 by decide)
    have hV2 := Lib.hid hV
    have hV3 : V < 2048 := by
      have := Nat.mod_lt s[p].toNat (show 0 < 32 by decide)
      have := Nat.mod_lt (at' (tl s p) 2) (show 0 < 64 by decide)
      have := Nat.mod_lt (at' (tl s p) 3) (show 0 < 64 by decide)
      omega
    have hV4 : 128 ≤ V := by omega
    have HR := Lib.hid hR
    have HA := Lib.hid ha
    clear ha hV hV1 hR h1 h2
    go_enter Tryd.func22, Tryd.ntmps22
    go_wp2
    go_loopw [8] (fun iv wi => ∃ (j : Nat), iv = .int .i64 j ∧ wi = w ∧ 1 ≤ j ∧ j ≤ 2 ∧ Hid (∀ k, 1 ≤ k → k < j → cont (tl s p) k = true)) (fun iv _ => 2 - (intOf iv).toNat)
    case atStart => exact ⟨1, by first | rfl | trivial, by first | rfl | trivial, by omega, by omega, fun k h1 h2 => absurd h1 (by omega)⟩
    case round =>
      obtain ⟨j, rfl, rfl, hj1, hj2, hall⟩ := hrel
      by_cases hj : j < 2
      · have hpj : p + j < s.size := by omega
        have hc := cont_tl s p j hpj
        have bj := s[p + j].toNat_lt
        have hno2 : Hid (cont (tl s p) j = false → cont (tl s p) 1 = false) := fun hf => by
          obtain rfl : j = 1 := by omega
          exact hf
        by_cases c1 : 128 ≤ s[p + j].toNat
        · by_cases c2 : s[p + j].toNat ≤ 191
          · have hall2 : Hid (∀ k, 1 ≤ k → k < j + 1 → cont (tl s p) k = true) := fun k k1 k2 => by
              by_cases e : k = j
              · subst e; rw [hc]; exact beq_iff_eq.2 (by omega)
              · exact hall.out k k1 (by omega)
            clear hc hno2
            go_wp2
            go_roundw
            case rel => exact ⟨j + 1, by go_num, by first | rfl | trivial, by omega, by omega, hall2⟩
            case measure => simp [intOf]; omega
          · have hd : Hid (D = 1) := hno.out (hno2.out (by rw [hc]; exact beq_eq_false_iff_ne.2 (by omega)))
            clear hc hno2
            go_wp2
            go_ret
            exact ⟨congrArg (fun l : Nat => Ending.returned (.int .i64 (l : Int))) hd.out.symm, rfl⟩
        · have hd : Hid (D = 1) := hno.out (hno2.out (by rw [hc]; exact beq_eq_false_iff_ne.2 (by omega)))
          clear hc hno2
          go_wp2
          go_ret
          exact ⟨congrArg (fun l : Nat => Ending.returned (.int .i64 (l : Int))) hd.out.symm, rfl⟩
      · obtain rfl : j = 2 := by omega
        have hV := hV2.out
        rw [← HA.out] at hV
        have hd := hyes.out (hall.out 1 (by omega) (by omega))
        have hV1 := hall
        have v1 : (128 : Int) ≤ V := by omega
        have v2 : (V : Int) ≤ 2047 := by omega
        have HD := Lib.hid hd
        clear hd hV hV1
        go_wp2_with (go_at_call 29; (with_reducible refine (HR.out _).mono ?_); rintro e w1 ⟨rfl, rfl⟩)
        go_ret
        exact ⟨congrArg (fun l : Nat => Ending.returned (.int .i64 (l : Int))) HD.out.symm, rfl⟩
  · have hd : D = 1 := hno.out (cont_out s p 1 (by omega))
    have g1 : ¬ ((p : Int) + 2 ≤ s.size) := by omega
    subst hd
    clear hno hyes ha h1 h2
    go_enter Tryd.func22, Tryd.ntmps22
    go_wp2
    go_ret
    exact ⟨rfl, rfl⟩
set_option maxHeartbeats 4000000 in
set_option maxRecDepth 100000 in
theorem lenR_3 (s : ByteArray) (p : Nat) (w : World) (hs : s.size ≤ 10000000) (hp : p < s.size) (h1 : 224 ≤ s[p].toNat) (h2 : s[p].toNat ≤ 239) : Calls Tryd.prog 22 #[.string s, .int .i64 p] w fun e w' => e = .returned (.int .i64 (dec (tl s p)).2) ∧ w = w' := by
  have b0 := s[p].toNat_lt
  have ha : at' (tl s p) 0 = s[p].toNat := at_tl s p 0 hp
  have hno := Lib.hid (len_no3 (l := tl s p) (by omega) (by omega))
  have hyes := Lib.hid (len_yes3 (l := tl s p) (by omega) (by omega))
  obtain ⟨D, hD⟩ : ∃ D, D = (dec (tl s p)).2 := ⟨_, rfl⟩
  rw [← hD] at hno hyes ⊢
  have t2a : (194 : Int) ≤ s[p].toNat := by omega
  have t2b : ¬ ((s[p].toNat : Int) ≤ 223) := by omega
  have t3a : (224 : Int) ≤ s[p].toNat := by omega
  have t3b : (s[p].toNat : Int) ≤ 239 := by omega
  clear hD
  by_cases hl : p + 3 ≤ s.size
  · have g1 : (p : Int) + 3 ≤ s.size := by omega
    have hR := fun w => runeR_3 (s.extract p (p + 3)) w (by rw [ByteArray.size_extract]; omega)
    have hV1 : runeF (s.extract p (p + 3)).data.toList 16 2 = at' (tl s p) 0 % 16 * 4096 + at' (tl s p) 1 % 64 * 64 + at' (tl s p) 2 % 64 := by
      simp only [runeF]
      simp only [at_ext s p 3 _ hl (show 0 < 3 by omega), at_ext s p 3 _ hl (show 0 + 1 < 3 by omega), at_ext s p 3 _ hl (show 1 + 1 < 3 by omega)]
      show (at' (tl s p) 0 % 16 * 64 + at' (tl s p) 1 % 64) * 64 + at' (tl s p) 2 % 64 = _; omega
    obtain ⟨V, hV⟩ : ∃ V, V = runeF (s.extract p (p + 3)).data.toList 16 2 := ⟨_, rfl⟩
    rw [← hV] at hR
    rw [hV1, ha] at hV
    clear hV1
    have hV1 := Nat.mod_lt (at' (tl s p) 1) (show 0 < 64 by decide)
    have hV2 := Lib.hid hV
    have hV3 : V < 65536 := by
      have := Nat.mod_lt s[p].toNat (show 0 < 16 by decide)
      have := Nat.mod_lt (at' (tl s p) 2) (show 0 < 64 by decide)
      have := Nat.mod_lt (at' (tl s p) 3) (show 0 < 64 by decide)
      omega
    have hV4 : 0 ≤ V := by omega
    have HR := Lib.hid hR
    have HA := Lib.hid ha
    clear ha hV hV1 hR h1 h2
    go_enter Tryd.func22, Tryd.ntmps22
    go_wp2
    go_loopw [8] (fun iv wi => ∃ (j : Nat), iv = .int .i64 j ∧ wi = w ∧ 1 ≤ j ∧ j ≤ 3 ∧ Hid (∀ k, 1 ≤ k → k < j → cont (tl s p) k = true)) (fun iv _ => 3 - (intOf iv).toNat)
    case atStart => exact ⟨1, by first | rfl | trivial, by first | rfl | trivial, by omega, by omega, fun k h1 h2 => absurd h1 (by omega)⟩
    case round =>
      obtain ⟨j, rfl, rfl, hj1, hj2, hall⟩ := hrel
      by_cases hj : j < 3
      · have hpj : p + j < s.size := by omega
        have hc := cont_tl s p j hpj
        have bj := s[p + j].toNat_lt
        have hno2 : Hid (cont (tl s p) j = false → cont (tl s p) 1 = false ∨ cont (tl s p) 2 = false) := fun hf => by
          have : j = 1 ∨ j = 2 := by omega
          rcases this with rfl | rfl
          · exact .inl hf
          · exact .inr hf
        by_cases c1 : 128 ≤ s[p + j].toNat
        · by_cases c2 : s[p + j].toNat ≤ 191
          · have hall2 : Hid (∀ k, 1 ≤ k → k < j + 1 → cont (tl s p) k = true) := fun k k1 k2 => by
              by_cases e : k = j
              · subst e; rw [hc]; exact beq_iff_eq.2 (by omega)
              · exact hall.out k k1 (by omega)
            clear hc hno2
            go_wp2
            go_roundw
            case rel => exact ⟨j + 1, by go_num, by first | rfl | trivial, by omega, by omega, hall2⟩
            case measure => simp [intOf]; omega
          · have hd : Hid (D = 1) := hno.out (hno2.out (by rw [hc]; exact beq_eq_false_iff_ne.2 (by omega)))
            clear hc hno2
            go_wp2
            go_ret
            exact ⟨congrArg (fun l : Nat => Ending.returned (.int .i64 (l : Int))) hd.out.symm, rfl⟩
        · have hd : Hid (D = 1) := hno.out (hno2.out (by rw [hc]; exact beq_eq_false_iff_ne.2 (by omega)))
          clear hc hno2
          go_wp2
          go_ret
          exact ⟨congrArg (fun l : Nat => Ending.returned (.int .i64 (l : Int))) hd.out.symm, rfl⟩
      · obtain rfl : j = 3 := by omega
        have hV := hV2.out
        rw [← HA.out] at hV
        have hd := hyes.out ⟨hall.out 1 (by omega) (by omega), hall.out 2 (by omega) (by omega)⟩ V hV
        have hV1 := hall
        by_cases c1 : V < 2048
        · rw [if_pos (.inl c1)] at hd
          have v1 : (V : Int) < 2048 := by omega
          have HD := Lib.hid hd
          clear hd hV hV1 c1
          go_wp2_with (go_at_call 29; (with_reducible refine (HR.out _).mono ?_); rintro e w1 ⟨rfl, rfl⟩)
          go_ret
          exact ⟨congrArg (fun l : Nat => Ending.returned (.int .i64 (l : Int))) HD.out.symm, rfl⟩
        · by_cases c2 : 55296 ≤ V
          · by_cases c3 : V ≤ 57343
            · rw [if_pos (.inr ⟨c2, c3⟩)] at hd
              have v1 : (55296 : Int) ≤ V := by omega
              have v2 : (V : Int) ≤ 57343 := by omega
              have HD := Lib.hid hd
              clear hd hV hV1 c1 c2 c3
              go_wp2_with (go_at_call 29; (with_reducible refine (HR.out _).mono ?_); rintro e w1 ⟨rfl, rfl⟩)
              go_ret
              exact ⟨congrArg (fun l : Nat => Ending.returned (.int .i64 (l : Int))) HD.out.symm, rfl⟩
            · rw [if_neg (by omega)] at hd
              have v1 : ¬ ((V : Int) ≤ 57343) := by omega
              have v2 : (V : Int) ≤ 65535 := by omega
              have HD := Lib.hid hd
              clear hd hV hV1 c1 c2 c3
              go_wp2_with (go_at_call 29; (with_reducible refine (HR.out _).mono ?_); rintro e w1 ⟨rfl, rfl⟩)
              go_ret
              exact ⟨congrArg (fun l : Nat => Ending.returned (.int .i64 (l : Int))) HD.out.symm, rfl⟩
          · rw [if_neg (by omega)] at hd
            have v1 : ¬ ((V : Int) < 2048) := by omega
            have v2 : (V : Int) ≤ 55295 := by omega
            have HD := Lib.hid hd
            clear hd hV hV1 c1 c2
            go_wp2_with (go_at_call 29; (with_reducible refine (HR.out _).mono ?_); rintro e w1 ⟨rfl, rfl⟩)
            go_ret
            exact ⟨congrArg (fun l : Nat => Ending.returned (.int .i64 (l : Int))) HD.out.symm, rfl⟩
  · have hd : D = 1 := hno.out (.inr (cont_out s p 2 (by omega)))
    have g1 : ¬ ((p : Int) + 3 ≤ s.size) := by omega
    subst hd
    clear hno hyes ha h1 h2
    go_enter Tryd.func22, Tryd.ntmps22
    go_wp2
    go_ret
    exact ⟨rfl, rfl⟩
set_option maxHeartbeats 4000000 in
set_option maxRecDepth 100000 in
theorem lenR_4 (s : ByteArray) (p : Nat) (w : World) (hs : s.size ≤ 10000000) (hp : p < s.size) (h1 : 240 ≤ s[p].toNat) (h2 : s[p].toNat ≤ 244) : Calls Tryd.prog 22 #[.string s, .int .i64 p] w fun e w' => e = .returned (.int .i64 (dec (tl s p)).2) ∧ w = w' := by
  have b0 := s[p].toNat_lt
  have ha : at' (tl s p) 0 = s[p].toNat := at_tl s p 0 hp
  have hno := Lib.hid (len_no4 (l := tl s p) (by omega) (by omega))
  have hyes := Lib.hid (len_yes4 (l := tl s p) (by omega) (by omega))
  obtain ⟨D, hD⟩ : ∃ D, D = (dec (tl s p)).2 := ⟨_, rfl⟩
  rw [← hD] at hno hyes ⊢
  have t2a : (194 : Int) ≤ s[p].toNat := by omega
  have t2b : ¬ ((s[p].toNat : Int) ≤ 223) := by omega
  have t3a : (224 : Int) ≤ s[p].toNat := by omega
  have t3b : ¬ ((s[p].toNat : Int) ≤ 239) := by omega
  have t4a : (240 : Int) ≤ s[p].toNat := by omega
  have t4b : (s[p].toNat : Int) ≤ 244 := by omega
  clear hD
  by_cases hl : p + 4 ≤ s.size
  · have g1 : (p : Int) + 4 ≤ s.size := by omega
    have hR := fun w => runeR_4 (s.extract p (p + 4)) w (by rw [ByteArray.size_extract]; omega)
    have hV1 : runeF (s.extract p (p + 4)).data.toList 8 3 = at' (tl s p) 0 % 8 * 262144 + at' (tl s p) 1 % 64 * 4096 + at' (tl s p) 2 % 64 * 64 + at' (tl s p) 3 % 64 := by
      simp only [runeF]
      simp only [at_ext s p 4 _ hl (show 0 < 4 by omega), at_ext s p 4 _ hl (show 0 + 1 < 4 by omega), at_ext s p 4 _ hl (show 1 + 1 < 4 by omega), at_ext s p 4 _ hl (show 2 + 1 < 4 by omega)]
      show ((at' (tl s p) 0 % 8 * 64 + at' (tl s p) 1 % 64) * 64 + at' (tl s p) 2 % 64) * 64 + at' (tl s p) 3 % 64 = _; omega
    obtain ⟨V, hV⟩ : ∃ V, V = runeF (s.extract p (p + 4)).data.toList 8 3 := ⟨_, rfl⟩
    rw [← hV] at hR
    rw [hV1, ha] at hV
    clear hV1
    have hV1 := Nat.mod_lt (at' (tl s p) 1) (show 0 < 64 by decide)
    have hV2 := Lib.hid hV
    have hV3 : V < 2097152 := by
      have := Nat.mod_lt s[p].toNat (show 0 < 8 by decide)
      have := Nat.mod_lt (at' (tl s p) 2) (show 0 < 64 by decide)
      have := Nat.mod_lt (at' (tl s p) 3) (show 0 < 64 by decide)
      omega
    have hV4 : 0 ≤ V := by omega
    have HR := Lib.hid hR
    have HA := Lib.hid ha
    clear ha hV hV1 hR h1 h2
    go_enter Tryd.func22, Tryd.ntmps22
    go_wp2
    go_loopw [8] (fun iv wi => ∃ (j : Nat), iv = .int .i64 j ∧ wi = w ∧ 1 ≤ j ∧ j ≤ 4 ∧ Hid (∀ k, 1 ≤ k → k < j → cont (tl s p) k = true)) (fun iv _ => 4 - (intOf iv).toNat)
    case atStart => exact ⟨1, by first | rfl | trivial, by first | rfl | trivial, by omega, by omega, fun k h1 h2 => absurd h1 (by omega)⟩
    case round =>
      obtain ⟨j, rfl, rfl, hj1, hj2, hall⟩ := hrel
      by_cases hj : j < 4
      · have hpj : p + j < s.size := by omega
        have hc := cont_tl s p j hpj
        have bj := s[p + j].toNat_lt
        have hno2 : Hid (cont (tl s p) j = false → cont (tl s p) 1 = false ∨ cont (tl s p) 2 = false ∨ cont (tl s p) 3 = false) := fun hf => by
          have : j = 1 ∨ j = 2 ∨ j = 3 := by omega
          rcases this with rfl | rfl | rfl
          · exact .inl hf
          · exact .inr (.inl hf)
          · exact .inr (.inr hf)
        by_cases c1 : 128 ≤ s[p + j].toNat
        · by_cases c2 : s[p + j].toNat ≤ 191
          · have hall2 : Hid (∀ k, 1 ≤ k → k < j + 1 → cont (tl s p) k = true) := fun k k1 k2 => by
              by_cases e : k = j
              · subst e; rw [hc]; exact beq_iff_eq.2 (by omega)
              · exact hall.out k k1 (by omega)
            clear hc hno2
            go_wp2
            go_roundw
            case rel => exact ⟨j + 1, by go_num, by first | rfl | trivial, by omega, by omega, hall2⟩
            case measure => simp [intOf]; omega
          · have hd : Hid (D = 1) := hno.out (hno2.out (by rw [hc]; exact beq_eq_false_iff_ne.2 (by omega)))
            clear hc hno2
            go_wp2
            go_ret
            exact ⟨congrArg (fun l : Nat => Ending.returned (.int .i64 (l : Int))) hd.out.symm, rfl⟩
        · have hd : Hid (D = 1) := hno.out (hno2.out (by rw [hc]; exact beq_eq_false_iff_ne.2 (by omega)))
          clear hc hno2
          go_wp2
          go_ret
          exact ⟨congrArg (fun l : Nat => Ending.returned (.int .i64 (l : Int))) hd.out.symm, rfl⟩
      · obtain rfl : j = 4 := by omega
        have hV := hV2.out
        rw [← HA.out] at hV
        have hd := hyes.out ⟨hall.out 1 (by omega) (by omega), hall.out 2 (by omega) (by omega), hall.out 3 (by omega) (by omega)⟩ V hV
        have hV1 := hall
        by_cases c1 : V < 65536
        · rw [if_pos (.inl c1)] at hd
          have v1 : (V : Int) < 65536 := by omega
          have HD := Lib.hid hd
          clear hd hV hV1 c1
          go_wp2_with (go_at_call 29; (with_reducible refine (HR.out _).mono ?_); rintro e w1 ⟨rfl, rfl⟩)
          go_ret
          exact ⟨congrArg (fun l : Nat => Ending.returned (.int .i64 (l : Int))) HD.out.symm, rfl⟩
        · by_cases c2 : 1114111 < V
          · rw [if_pos (.inr c2)] at hd
            have v1 : (1114111 : Int) < V := by omega
            have HD := Lib.hid hd
            clear hd hV hV1 c1 c2
            go_wp2_with (go_at_call 29; (with_reducible refine (HR.out _).mono ?_); rintro e w1 ⟨rfl, rfl⟩)
            go_ret
            exact ⟨congrArg (fun l : Nat => Ending.returned (.int .i64 (l : Int))) HD.out.symm, rfl⟩
          · rw [if_neg (by omega)] at hd
            have v1 : ¬ ((V : Int) < 65536) := by omega
            have v2 : ¬ ((1114111 : Int) < V) := by omega
            have HD := Lib.hid hd
            clear hd hV hV1 c1 c2
            go_wp2_with (go_at_call 29; (with_reducible refine (HR.out _).mono ?_); rintro e w1 ⟨rfl, rfl⟩)
            go_ret
            exact ⟨congrArg (fun l : Nat => Ending.returned (.int .i64 (l : Int))) HD.out.symm, rfl⟩
  · have hd : D = 1 := hno.out (.inr (.inr (cont_out s p 3 (by omega))))
    have g1 : ¬ ((p : Int) + 4 ≤ s.size) := by omega
    subst hd
    clear hno hyes ha h1 h2
    go_enter Tryd.func22, Tryd.ntmps22
    go_wp2
    go_ret
    exact ⟨rfl, rfl⟩
theorem lenR_any (s : ByteArray) (p : Nat) (w : World) (hs : s.size ≤ 10000000) (hp : p < s.size) : Calls Tryd.prog 22 #[.string s, .int .i64 p] w fun e w' => e = .returned (.int .i64 (dec (tl s p)).2) ∧ w = w' := by
  by_cases h1 : s[p].toNat < 194
  · exact lenR_lo s p w hs hp h1
  · by_cases h2 : s[p].toNat ≤ 223
    · exact lenR_2 s p w hs hp (by omega) h2
    · by_cases h3 : s[p].toNat ≤ 239
      · exact lenR_3 s p w hs hp (by omega) h3
      · by_cases h4 : s[p].toNat ≤ 244
        · exact lenR_4 s p w hs hp (by omega) h4
        · exact lenR_hi s p w hs hp (by omega)
end Go.Proofs.YtlbnhkojfefccaaDoor
