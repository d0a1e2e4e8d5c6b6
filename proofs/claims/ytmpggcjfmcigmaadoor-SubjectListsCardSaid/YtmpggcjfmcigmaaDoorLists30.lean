/- Walks: the law SubjectLists. Printed by genL30.py. -/
import Derived.Test.YtmpggcjfmcigmaaDoorLaw30
import Derived.Test.YtmpggcjfmcigmaaDoorPl30c
import Derived.Outline
namespace Go.Proofs.YtmpggcjfmcigmaaDoor
open Go.RowKit Pk U8 Su Fo

theorem nobr_of {T : ByteArray} (h : ∀ q (h : q < T.size), T[q] ≠ 91 ∧ T[q] ≠ 93) : Hid (NoBr T.data.toList) := by
  constructor
  · intro hm
    obtain ⟨q, hq, e⟩ := List.getElem_of_mem hm
    exact (h q hq).1 e
  · intro hm
    obtain ⟨q, hq, e⟩ := List.getElem_of_mem hm
    exact (h q hq).2 e
set_option maxHeartbeats 4000000 in
set_option maxRecDepth 100000 in
theorem lists_any (s l : ByteArray) (w : World) (h : Ready w) :
    Calls Tryd.prog 4 #[.string s, .string l] w fun e w' => e = .returned (.bool true) ∧ Below w.heap.size w w' := by
  have H := Lib.hid h
  have tb := Below.refl w.heap.size w
  clear h
  by_cases hs1 : s.size ≤ 1000
  · by_cases hs2 : l.size ≤ 100
    · have d1 : decide ((1000 : Int) < s.size) = false := decide_eq_false (by omega)
      have d2 : decide ((100 : Int) < l.size) = false := decide_eq_false (by omega)
      go_enter Tryd.func4, Tryd.ntmps4
      go_wp2_with (go_at_call 7; (with_reducible refine (small_any _ (H.out.later tb)).mono ?_); rintro e w1 ⟨rfl, hb1⟩; have tb := tb.trans (hb1.mono tb.size))
      have hz0 := tb.size
      have tb1 := tb.alloc hz0 (.cells #[.string s, .string l] 9)
      have HC0 := Lib.hid (cells_new w1 [.string s, .string l] 9 0 _ rfl)
      have HC1 := Lib.hid (cells_new w1 [.string s, .string l] 9 1 _ rfl)
      rw [Addr.add_lit] at HC0 HC1
      obtain ⟨g, hg⟩ : ∃ g, g = w1.heap.size := ⟨_, rfl⟩
      rw [← hg] at HC0 HC1 ⊢
      generalize w1.alloc (.cells #[.string s, .string l] 9) = W0 at HC0 HC1 tb1 ⊢
      clear hg tb hz0
      go_loopw [24] (fun kv wr => ∃ (k : Nat), kv = .int .i64 k ∧ W0 = wr ∧ k ≤ 2 ∧ (1 ≤ k → Hid (NoBr s.data.toList)) ∧ (2 ≤ k → Hid (NoBr l.data.toList))) (fun kv _ => 2 - (intOf kv).toNat)
      case atStart => exact ⟨0, by first | rfl | trivial, by first | rfl | trivial, by omega, fun h => absurd h (by omega), fun h => absurd h (by omega)⟩
      case round =>
      obtain ⟨k, rfl, hwr, hk2, hn0, hn1⟩ := hrel
      subst hwr
      have hk : k = 0 ∨ k = 1 ∨ k = 2 := by omega
      rcases hk with rfl | rfl | rfl
      · have hc : W0.cell? ⟨g, 0, none⟩ = some (.string s) := HC0.out
        go_wp2
        go_loopw [8] (fun jv wi => ∃ (j : Nat), jv = .int .i64 j ∧ W0 = wi ∧ j ≤ s.size ∧ Hid (∀ q (h : q < s.size), q < j → s[q] ≠ 91 ∧ s[q] ≠ 93)) (fun jv _ => s.size - (intOf jv).toNat)
        case atStart => exact ⟨0, by first | rfl | trivial, by first | rfl | trivial, by omega, fun q _ h => absurd h (by omega)⟩
        case round =>
          obtain ⟨j, rfl, hwi, hj, hno⟩ := hrel
          subst hwi
          by_cases hlt : j < s.size
          · by_cases h91 : s[j] = 91
            · have q1 : ((s[j].toNat : Int) == 91) = true := by rw [h91]; rfl
              clear h91
              go_wp2
              go_ret
              exact ⟨rfl, tb1⟩
            · by_cases h93 : s[j] = 93
              · have q1 : ((s[j].toNat : Int) == 91) = false := by rw [h93]; rfl
                have q2 : ((s[j].toNat : Int) == 93) = true := by rw [h93]; rfl
                clear h91 h93
                go_wp2
                go_ret
                exact ⟨rfl, tb1⟩
              · have q1 : ((s[j].toNat : Int) == 91) = false := beq_eq_false_iff_ne.2 (by have := u8_ne (n := 91) h91 (by omega); omega)
                have q2 : ((s[j].toNat : Int) == 93) = false := beq_eq_false_iff_ne.2 (by have := u8_ne (n := 93) h93 (by omega); omega)
                have hno' : Hid (∀ q (h : q < s.size), q < j + 1 → s[q] ≠ 91 ∧ s[q] ≠ 93) := fun q h hq => by
                  by_cases e : q = j
                  · subst e; exact ⟨h91, h93⟩
                  · exact hno.out q h (by omega)
                clear h91 h93 hno
                go_wp2
                go_roundw
                case rel => exact ⟨j + 1, by go_num, by first | rfl | trivial, by omega, hno'⟩
                case measure => simp [intOf]; omega
          · have hn : Hid (NoBr s.data.toList) := nobr_of fun q h => hno.out q h (by omega)
            clear hno
            go_wp2
            go_roundw
            case rel => exact ⟨1, by first | rfl | trivial, by first | rfl | trivial, by omega, fun _ => hn, fun h => absurd h (by omega)⟩
            case measure => simp [intOf]
      · have hc : W0.cell? ⟨g, 1, none⟩ = some (.string l) := HC1.out
        go_wp2
        go_loopw [8] (fun jv wi => ∃ (j : Nat), jv = .int .i64 j ∧ W0 = wi ∧ j ≤ l.size ∧ Hid (∀ q (h : q < l.size), q < j → l[q] ≠ 91 ∧ l[q] ≠ 93)) (fun jv _ => l.size - (intOf jv).toNat)
        case atStart => exact ⟨0, by first | rfl | trivial, by first | rfl | trivial, by omega, fun q _ h => absurd h (by omega)⟩
        case round =>
          obtain ⟨j, rfl, hwi, hj, hno⟩ := hrel
          subst hwi
          by_cases hlt : j < l.size
          · by_cases h91 : l[j] = 91
            · have q1 : ((l[j].toNat : Int) == 91) = true := by rw [h91]; rfl
              clear h91
              go_wp2
              go_ret
              exact ⟨rfl, tb1⟩
            · by_cases h93 : l[j] = 93
              · have q1 : ((l[j].toNat : Int) == 91) = false := by rw [h93]; rfl
                have q2 : ((l[j].toNat : Int) == 93) = true := by rw [h93]; rfl
                clear h91 h93
                go_wp2
                go_ret
                exact ⟨rfl, tb1⟩
              · have q1 : ((l[j].toNat : Int) == 91) = false := beq_eq_false_iff_ne.2 (by have := u8_ne (n := 91) h91 (by omega); omega)
                have q2 : ((l[j].toNat : Int) == 93) = false := beq_eq_false_iff_ne.2 (by have := u8_ne (n := 93) h93 (by omega); omega)
                have hno' : Hid (∀ q (h : q < l.size), q < j + 1 → l[q] ≠ 91 ∧ l[q] ≠ 93) := fun q h hq => by
                  by_cases e : q = j
                  · subst e; exact ⟨h91, h93⟩
                  · exact hno.out q h (by omega)
                clear h91 h93 hno
                go_wp2
                go_roundw
                case rel => exact ⟨j + 1, by go_num, by first | rfl | trivial, by omega, hno'⟩
                case measure => simp [intOf]; omega
          · have hn : Hid (NoBr l.data.toList) := nobr_of fun q h => hno.out q h (by omega)
            clear hno
            go_wp2
            go_roundw
            case rel => exact ⟨2, by first | rfl | trivial, by first | rfl | trivial, by omega, fun _ => hn0 (by omega), fun _ => hn⟩
            case measure => simp [intOf]
      · have n0 := hn0 (by omega)
        have n1 := hn1 (by omega)
        have tb := tb1
        clear hn0 hn1 HC0 HC1
        have hb := fun w hw => base_rd s w hw (by omega)
        obtain ⟨BA, hBA⟩ : ∃ BA : ByteArray, BA = ⟨(Bs s.data.toList).toArray⟩ := ⟨_, rfl⟩
        have hBl : BA.toList = Bs s.data.toList := by rw [Lib.toList_data, hBA]
        rw [← hBA] at hb
        have HB := Lib.hid hb
        clear hb
        by_cases he : Bs s.data.toList = []
        · rw [he] at hBl
          clear hBA he
          go_wp2_with (go_at_call 9; (with_reducible refine (HB.out _ (H.out.later tb)).mono ?_); rintro e w1 ⟨rfl, hb1⟩; have tb := tb.trans (hb1.mono tb.size))
          go_ret
          exact ⟨rfl, tb⟩
        · have hne : (red (plain s.data.toList)).1 ≠ [] := fun e => he (by unfold Bs; rw [e]; rfl)
          have hL1 : Bs (⟨#[91]⟩ ++ l ++ ⟨#[93]⟩ ++ s : ByteArray).data.toList = Bs s.data.toList := by
            rw [show (⟨#[91]⟩ ++ l ++ ⟨#[93]⟩ ++ s : ByteArray).data.toList = [91] ++ l.data.toList ++ [93] ++ s.data.toList by simp]
            unfold Bs; rw [lists_1 _ _ n1.out hne]
          have hL2 : Bs (⟨#[91]⟩ ++ l ++ ⟨#[93, 32, 91, 120, 93, 32]⟩ ++ s : ByteArray).data.toList = Bs s.data.toList := by
            rw [show (⟨#[91]⟩ ++ l ++ ⟨#[93, 32, 91, 120, 93, 32]⟩ ++ s : ByteArray).data.toList = [91] ++ l.data.toList ++ xS ++ s.data.toList by simp [xS]]
            unfold Bs; rw [lists_2 _ _ n1.out hne]
          have hL3 : Bs (⟨#[91, 70, 87, 68, 58, 32]⟩ ++ s ++ ⟨#[93]⟩ : ByteArray).data.toList = Bs s.data.toList := by
            rw [show (⟨#[91, 70, 87, 68, 58, 32]⟩ ++ s ++ ⟨#[93]⟩ : ByteArray).data.toList = fwdU ++ s.data.toList ++ [93] by simp [fwdU]]
            unfold Bs; rw [lists_3 _ n0.out]
          have hL4 : Ag (⟨#[91, 102, 119, 100, 58]⟩ ++ s ++ ⟨#[32, 93, 32]⟩ : ByteArray).data.toList = true := by
            rw [show (⟨#[91, 102, 119, 100, 58]⟩ ++ s ++ ⟨#[32, 93, 32]⟩ : ByteArray).data.toList = fwdD ++ s.data.toList ++ endS by simp [fwdD, endS]]
            unfold Ag; rw [lists_4 _ n0.out]
          have z1 : ∀ n : Nat, (⟨#[91]⟩ : ByteArray).size = 1 ∧ (⟨#[93]⟩ : ByteArray).size = 1 ∧ (⟨#[93, 32, 91, 120, 93, 32]⟩ : ByteArray).size = 6 ∧ (⟨#[91, 70, 87, 68, 58, 32]⟩ : ByteArray).size = 6 ∧ (⟨#[91, 102, 119, 100, 58]⟩ : ByteArray).size = 5 ∧ (⟨#[32, 93, 32]⟩ : ByteArray).size = 3 := fun _ => ⟨rfl, rfl, rfl, rfl, rfl, rfl⟩
          obtain ⟨y1, y2, y3, y4, y5, y6⟩ := z1 0
          have c1 := fun w hw => base_rd (⟨#[91]⟩ ++ l ++ ⟨#[93]⟩ ++ s) w hw (by simp only [ByteArray.size_append]; omega)
          have c2 := fun w hw => base_rd (⟨#[91]⟩ ++ l ++ ⟨#[93, 32, 91, 120, 93, 32]⟩ ++ s) w hw (by simp only [ByteArray.size_append]; omega)
          have c3 := fun w hw => base_rd (⟨#[91, 70, 87, 68, 58, 32]⟩ ++ s ++ ⟨#[93]⟩) w hw (by simp only [ByteArray.size_append]; omega)
          have c4 := fun w hw => again_rd (⟨#[91, 102, 119, 100, 58]⟩ ++ s ++ ⟨#[32, 93, 32]⟩) w hw (by simp only [ByteArray.size_append]; omega)
          rw [hL1, ← hBA] at c1
          rw [hL2, ← hBA] at c2
          rw [hL3, ← hBA] at c3
          rw [hL4] at c4
          have he2 : BA.toList.isEmpty = false := by rw [hBl]; simpa using he
          have C1 := Lib.hid c1
          have C2 := Lib.hid c2
          have C3 := Lib.hid c3
          have C4 := Lib.hid c4
          clear hL1 hL2 hL3 hL4 hBl hBA he hne c1 c2 c3 c4 y1 y2 y3 y4 y5 y6 z1
          go_wp2_with (first
            | (go_at_call 9; (with_reducible refine (HB.out _ (H.out.later tb)).mono ?_); rintro e w1 ⟨rfl, hb1⟩; have tb := tb.trans (hb1.mono tb.size))
            | (go_at_call 9; (with_reducible refine (C1.out _ (H.out.later tb)).mono ?_); rintro e w1 ⟨rfl, hb1⟩; have tb := tb.trans (hb1.mono tb.size))
            | (go_at_call 9; (with_reducible refine (C2.out _ (H.out.later tb)).mono ?_); rintro e w1 ⟨rfl, hb1⟩; have tb := tb.trans (hb1.mono tb.size))
            | (go_at_call 9; (with_reducible refine (C3.out _ (H.out.later tb)).mono ?_); rintro e w1 ⟨rfl, hb1⟩; have tb := tb.trans (hb1.mono tb.size))
            | (go_at_call 11; (with_reducible refine (C4.out _ (H.out.later tb)).mono ?_); rintro e w1 ⟨rfl, hb1⟩; have tb := tb.trans (hb1.mono tb.size)))
          go_ret
          exact ⟨rfl, tb⟩
    · have d1 : decide ((1000 : Int) < s.size) = false := decide_eq_false (by omega)
      have d2 : decide ((100 : Int) < l.size) = true := decide_eq_true (by omega)
      go_enter Tryd.func4, Tryd.ntmps4
      go_wp2_with (go_at_call 7; (with_reducible refine (small_any _ (H.out.later tb)).mono ?_); rintro e w1 ⟨rfl, hb1⟩; have tb := tb.trans (hb1.mono tb.size))
      go_ret
      exact ⟨rfl, tb⟩
  · have d1 : decide ((1000 : Int) < s.size) = true := decide_eq_true (by omega)
    go_enter Tryd.func4, Tryd.ntmps4
    go_wp2_with (go_at_call 7; (with_reducible refine (small_any _ (H.out.later tb)).mono ?_); rintro e w1 ⟨rfl, hb1⟩; have tb := tb.trans (hb1.mono tb.size))
    go_ret
    exact ⟨rfl, tb⟩
end Go.Proofs.YtmpggcjfmcigmaaDoor
