/- Walks: reference 09: Bare, Trim. -/
import Derived.Test.YthchklbnkojkgaaGreatDoorSame9
import Derived.Test.YthchklbnkojkgaaGreatDoorHdQ
namespace Go.Proofs.YthchklbnkojkgaaGreatDoor
open Go.RowKit Pk Hd

theorem last9 (s : ByteArray) (h : 0 < s.size) : s.data.toList.getLast? = some s[s.size - 1] := by
  rw [List.getLast?_eq_getElem?, dataL, List.getElem?_eq_getElem (by rw [dataL]; omega)]
  rfl
theorem dropLast9 (s : ByteArray) : s.data.toList.dropLast = (s.extract 0 (s.size - 1)).data.toList := by
  rw [List.dropLast_eq_take, dataL, ByteArray.data_extract, Array.toList_extract, List.extract_eq_take_drop]
  simp
set_option maxRecDepth 100000 in
theorem rbare_any (s : ByteArray) (w : World) (hs : s.size ≤ 100000000) : Calls Tryz.prog 15 #[.string s] w fun e w' => e = .returned (.string (toB (bareL s.data.toList))) ∧ w = w' := by
  by_cases h0 : 0 < s.size
  · have z0 : (0 : Int) < (s.size : Int) := by omega
    have hl := last9 s h0
    by_cases h1 : s[s.size - 1] = 10
    · have q1 : ((s[s.size - 1].toNat : Int) == 10) = true := by rw [h1]; rfl
      have e1 : bareL s.data.toList = chop 13 (s.extract 0 (s.size - 1)).data.toList := by
        unfold bareL; rw [hl, h1, if_pos rfl, dropLast9]
      by_cases h2 : 1 < s.size
      · have z1 : (0 : Int) < (s.size : Int) - 1 := by omega
        have hx : (s.extract 0 (s.size - 1)).size = s.size - 1 := by rw [ByteArray.size_extract]; omega
        have hl2 : (s.extract 0 (s.size - 1)).data.toList.getLast? = some s[s.size - 1 - 1] := by
          rw [← dropLast9, List.getLast?_dropLast, dataL, if_neg (by omega), show s.size - 2 = s.size - 1 - 1 by omega, List.getElem?_eq_getElem (by rw [dataL]; omega)]
          rfl
        by_cases h3 : s[s.size - 1 - 1] = 13
        · have q2 : ((s[s.size - 1 - 1].toNat : Int) == 13) = true := by rw [h3]; rfl
          have hb : toB (bareL s.data.toList) = s.extract 0 (s.size - 1 - 1) := by
            rw [e1]; unfold chop; rw [hl2, h3, if_pos rfl, dropLast9, toB_back, hx, ByteArray.extract_extract]
            congr 1; omega
          rw [hb]
          clear hb e1 hl hl2 h1 h3 hx
          go_enter Tryz.func15, Tryz.ntmps15
          go_wp2
          go_ret
          exact ⟨rfl, rfl⟩
        · have q2 : ((s[s.size - 1 - 1].toNat : Int) == 13) = false := beq_eq_false_iff_ne.2 (by have := u8_ne (n := 13) h3 (by omega); omega)
          have hb : toB (bareL s.data.toList) = s.extract 0 (s.size - 1) := by
            rw [e1]; unfold chop; rw [hl2, if_neg (by simpa using h3), toB_back]
          rw [hb]
          clear hb e1 hl hl2 h1 h3 hx
          go_enter Tryz.func15, Tryz.ntmps15
          go_wp2
          go_ret
          exact ⟨rfl, rfl⟩
      · have z1 : ¬ (0 : Int) < (s.size : Int) - 1 := by omega
        have hb : toB (bareL s.data.toList) = s.extract 0 (s.size - 1) := by
          have : (s.extract 0 (s.size - 1)).data.toList = [] := List.eq_nil_of_length_eq_zero (by rw [dataL, ByteArray.size_extract]; omega)
          rw [e1, this, ← toB_back (s.extract 0 (s.size - 1)), this]; rfl
        rw [hb]
        clear hb e1 hl h1
        go_enter Tryz.func15, Tryz.ntmps15
        go_wp2
        go_ret
        exact ⟨rfl, rfl⟩
    · have q1 : ((s[s.size - 1].toNat : Int) == 10) = false := beq_eq_false_iff_ne.2 (by have := u8_ne (n := 10) h1 (by omega); omega)
      have hb : toB (bareL s.data.toList) = s := by
        unfold bareL; rw [hl, if_neg (by simpa using h1), toB_back]
      rw [hb]
      clear hb hl h1
      go_enter Tryz.func15, Tryz.ntmps15
      go_wp2
      go_ret
      exact ⟨by first | rfl | simp, rfl⟩
  · have z0 : ¬ (0 : Int) < (s.size : Int) := by omega
    have hb : toB (bareL s.data.toList) = s := by
      have : s.data.toList = [] := List.eq_nil_of_length_eq_zero (by rw [dataL]; omega)
      rw [← toB_back s, this]; rfl
    rw [hb]
    clear hb
    go_enter Tryz.func15, Tryz.ntmps15
    go_wp2
    go_ret
    exact ⟨by first | rfl | simp, rfl⟩
end Go.Proofs.YthchklbnkojkgaaGreatDoor
