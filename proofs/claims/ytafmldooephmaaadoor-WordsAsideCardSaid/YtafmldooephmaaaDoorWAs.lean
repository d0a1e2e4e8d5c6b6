/- Walks: the law WordsAside. -/
import Derived.Test.YtafmldooephmaaaDoorWPl
namespace Go.Proofs.YtafmldooephmaaaDoor
open Go.RowKit Pk U8 Cs Wd

theorem aside_fin {a b O T P Q G : ByteArray} (hO : O.data.toList = encW (a.data.toList ++ [1])) (hT : T.data.toList = encW (1 :: b.data.toList)) (hP : P.data.toList = decW O.data.toList) (hQ : Q.data.toList = decW T.data.toList) (hG : ∀ c ∈ G.data.toList, Su.blk c = true) :
    (P ++ Q).data.toList = decW (O ++ G ++ T).data.toList ∧ (P ++ G ++ (⟨#[120]⟩ : ByteArray) ++ G ++ Q).data.toList = decW (O ++ G ++ (⟨#[120]⟩ : ByteArray) ++ G ++ T).data.toList := by
  have ha := plain_one a.data.toList []
  have hb := plain_one [] b.data.toList
  have h1 := aside_two hG ha hb
  have h2 := aside_x hG ha hb
  rw [List.nil_append] at h1 h2
  rw [← hO, ← hT, ← hP, ← hQ] at h1 h2
  simp only [data_app]
  refine ⟨?_, ?_⟩
  · rw [← h1]; simp
  · have : O.data.toList ++ G.data.toList ++ [120] ++ G.data.toList ++ T.data.toList = O.data.toList ++ (G.data.toList ++ 120 :: (G.data.toList ++ T.data.toList)) := by simp
    rw [this, h2]; simp
theorem gap_step {G : ByteArray} {x : UInt8} (h : Hid (∀ c ∈ G.data.toList, Su.blk c = true)) (hx : Su.blk x = true) : Hid (∀ c ∈ (G ++ (⟨#[x]⟩ : ByteArray)).data.toList, Su.blk c = true) := by
  intro c hc
  rw [data_app, List.mem_append] at hc
  rcases hc with hc | hc
  · exact h.out c hc
  · have : c = x := by simpa using hc
    rw [this]; exact hx
theorem size_app (a b : ByteArray) : (a ++ b).size = a.size + b.size := ByteArray.size_append
theorem size_lit (x : UInt8) : (⟨#[x]⟩ : ByteArray).size = 1 := rfl
theorem ixG0 (w : World) (i : Int) (h : i = 0) : (Instr.index 26 (.agg #[.string ⟨#[32]⟩, .string ⟨#[9]⟩, .string ⟨#[13]⟩, .string ⟨#[10]⟩]) (.int .i64 i)).run Tryd.prog w = .ok (.string ⟨#[32]⟩) w := by
  subst h
  kernel_rfl
theorem ixG1 (w : World) (i : Int) (h : i = 1) : (Instr.index 26 (.agg #[.string ⟨#[32]⟩, .string ⟨#[9]⟩, .string ⟨#[13]⟩, .string ⟨#[10]⟩]) (.int .i64 i)).run Tryd.prog w = .ok (.string ⟨#[9]⟩) w := by
  subst h
  kernel_rfl
theorem ixG2 (w : World) (i : Int) (h : i = 2) : (Instr.index 26 (.agg #[.string ⟨#[32]⟩, .string ⟨#[9]⟩, .string ⟨#[13]⟩, .string ⟨#[10]⟩]) (.int .i64 i)).run Tryd.prog w = .ok (.string ⟨#[13]⟩) w := by
  subst h
  kernel_rfl
theorem ixG3 (w : World) (i : Int) (h : i = 3) : (Instr.index 26 (.agg #[.string ⟨#[32]⟩, .string ⟨#[9]⟩, .string ⟨#[13]⟩, .string ⟨#[10]⟩]) (.int .i64 i)).run Tryd.prog w = .ok (.string ⟨#[10]⟩) w := by
  subst h
  kernel_rfl
set_option maxHeartbeats 4000000 in
set_option maxRecDepth 100000 in
theorem asideLaw_any (a b : ByteArray) (n : Int) (w : World) (h : Rdy w) (hn1 : -9223372036854775808 ≤ n) (hn2 : n ≤ 9223372036854775807) :
    Calls Tryd.prog 5 #[.string a, .string b, .int .i64 n] w fun e w' => e = .returned (.bool true) ∧ Below w.heap.size w w' := by
  have H := Lib.hid h
  have tb := Below.refl w.heap.size w
  clear h
  by_cases ha : a.size ≤ 300
  · have hfa := fun w => fewW_any a w
    rw [decide_eq_true ha] at hfa
    have HFA := Lib.hid hfa
    by_cases hb : b.size ≤ 300
    · have hfb := fun w => fewW_any b w
      rw [decide_eq_true hb] at hfb
      have HFB := Lib.hid hfb
      clear hfa hfb
      by_cases hlo : n < 0
      · go_enter Tryd.func5, Tryd.ntmps5
        go_wp2_with (first
            | (go_at_call 7; (with_reducible refine (smallW_any _ (H.out.later tb)).mono ?_); rintro e w1 ⟨rfl, hb1⟩; have tb := tb.trans (hb1.mono tb.size))
            | (go_at_call 8; (with_reducible refine (HFA.out _).mono ?_); rintro e w1 ⟨rfl, rfl⟩)
            | (go_at_call 8; (with_reducible refine (HFB.out _).mono ?_); rintro e w1 ⟨rfl, rfl⟩))
        go_ret
        exact ⟨rfl, tb⟩
      · by_cases hhi : 50 < n
        · go_enter Tryd.func5, Tryd.ntmps5
          go_wp2_with (first
            | (go_at_call 7; (with_reducible refine (smallW_any _ (H.out.later tb)).mono ?_); rintro e w1 ⟨rfl, hb1⟩; have tb := tb.trans (hb1.mono tb.size))
            | (go_at_call 8; (with_reducible refine (HFA.out _).mono ?_); rintro e w1 ⟨rfl, rfl⟩)
            | (go_at_call 8; (with_reducible refine (HFB.out _).mono ?_); rintro e w1 ⟨rfl, rfl⟩))
          go_ret
          exact ⟨rfl, tb⟩
        · obtain ⟨N, rfl⟩ : ∃ N : Nat, n = N := ⟨n.toNat, by omega⟩
          have hNN : N ≤ 50 := by omega
          obtain ⟨O, -, hO, hOs⟩ := arr_ex (encW (a.data.toList ++ [1]))
          obtain ⟨T, -, hT, hTs⟩ := arr_ex (encW (1 :: b.data.toList))
          obtain ⟨P, -, hP, hPs⟩ := arr_ex (decW O.data.toList)
          obtain ⟨Q, -, hQ, hQs⟩ := arr_ex (decW T.data.toList)
          have la : a.data.toList.length = a.size := rfl
          have lb : b.data.toList.length = b.size := rfl
          have lO : O.data.toList.length = O.size := rfl
          have lT : T.data.toList.length = T.size := rfl
          have b1 := encW_length (a.data.toList ++ [1])
          have b2 := encW_length (1 :: b.data.toList)
          rw [List.length_append, List.length_singleton] at b1
          rw [List.length_cons] at b2
          have b3 := decW_length O.data.toList
          have b4 := decW_length T.data.toList
          have hOn : O.size ≤ 23000 := by omega
          have hTn : T.size ≤ 23000 := by omega
          have hPn : P.size ≤ 276000 := by omega
          have hQn : Q.size ≤ 276000 := by omega
          have sa : (a ++ (⟨#[1]⟩ : ByteArray)).size = a.size + 1 := ByteArray.size_append
          have sb : ((⟨#[1]⟩ : ByteArray) ++ b).size = 1 + b.size := ByteArray.size_append
          have HE1 := Lib.hid fun w' (tb : Below w.heap.size w w') => enc_rd (a ++ (⟨#[1]⟩ : ByteArray)) O w' (H.out.later tb) (by omega) (by rw [hO, data_app])
          have HE2 := Lib.hid fun w' (tb : Below w.heap.size w w') => enc_rd ((⟨#[1]⟩ : ByteArray) ++ b) T w' (H.out.later tb) (by omega) (by rw [hT, data_app]; rfl)
          have HD1 := Lib.hid fun w' (tb : Below w.heap.size w w') => dec_rd O P w' (H.out.later tb) (by omega) hP
          have HD2 := Lib.hid fun w' (tb : Below w.heap.size w w') => dec_rd T Q w' (H.out.later tb) (by omega) hQ
          have HFIN := Lib.hid fun (G : ByteArray) hG => aside_fin (a := a) (b := b) (G := G) hO hT hP hQ hG
          clear hO hT hP hQ hOs hTs hPs hQs la lb lO lT b1 b2 b3 b4
          go_enter Tryd.func5, Tryd.ntmps5
          go_wp2_with (first
            | (go_at_call 7; (with_reducible refine (smallW_any _ (H.out.later tb)).mono ?_); rintro e w1 ⟨rfl, hb1⟩; have tb := tb.trans (hb1.mono tb.size))
            | (go_at_call 8; (with_reducible refine (HFA.out _).mono ?_); rintro e w1 ⟨rfl, rfl⟩)
            | (go_at_call 8; (with_reducible refine (HFB.out _).mono ?_); rintro e w1 ⟨rfl, rfl⟩)
            | (go_at_call 11; (with_reducible refine (HE1.out _ tb).mono ?_); rintro e w1 ⟨rfl, hb1⟩; have tb := tb.trans (hb1.mono tb.size))
            | (go_at_call 11; (with_reducible refine (HE2.out _ tb).mono ?_); rintro e w1 ⟨rfl, hb1⟩; have tb := tb.trans (hb1.mono tb.size)))
          have tb1 := tb
          clear tb
          go_loopw [10, 11] (fun gv iv wi => ∃ (i : Nat) (G : ByteArray), gv = .string G ∧ iv = .int .i64 i ∧ Below w.heap.size w wi ∧ i ≤ N ∧ G.size = i ∧ Hid (∀ c ∈ G.data.toList, Su.blk c = true)) (fun _ iv _ => N - (intOf iv).toNat)
          case atStart => exact ⟨0, ⟨#[]⟩, rfl, by first | rfl | trivial, tb1, by omega, rfl, fun c hc => by cases hc⟩
          case round =>
            obtain ⟨i, G, rfl, rfl, tb, hi, hGs, hG⟩ := hrel
            by_cases hlt : i < N
            · have s0 := gap_step (x := 32) hG rfl
              have s1 := gap_step (x := 9) hG rfl
              have s2 := gap_step (x := 13) hG rfl
              have s3 := gap_step (x := 10) hG rfl
              have z0 : (G ++ (⟨#[32]⟩ : ByteArray)).size = G.size + 1 := ByteArray.size_append
              have z1 : (G ++ (⟨#[9]⟩ : ByteArray)).size = G.size + 1 := ByteArray.size_append
              have z2 : (G ++ (⟨#[13]⟩ : ByteArray)).size = G.size + 1 := ByteArray.size_append
              have z3 : (G ++ (⟨#[10]⟩ : ByteArray)).size = G.size + 1 := ByteArray.size_append
              clear hG
              rcases (show i % 4 = 0 ∨ i % 4 = 1 ∨ i % 4 = 2 ∨ i % 4 = 3 by omega) with h4 | h4 | h4 | h4
              · have ht := fun w => ixG0 w ((i : Int) % 4) (by omega)
                clear s1 s2 s3
                go_wp2
                go_roundw
                case rel => exact ⟨i + 1, _, rfl, by go_num, tb, by omega, by omega, s0⟩
                case measure => simp [intOf]; omega
              · have ht := fun w => ixG1 w ((i : Int) % 4) (by omega)
                clear s0 s2 s3
                go_wp2
                go_roundw
                case rel => exact ⟨i + 1, _, rfl, by go_num, tb, by omega, by omega, s1⟩
                case measure => simp [intOf]; omega
              · have ht := fun w => ixG2 w ((i : Int) % 4) (by omega)
                clear s0 s1 s3
                go_wp2
                go_roundw
                case rel => exact ⟨i + 1, _, rfl, by go_num, tb, by omega, by omega, s2⟩
                case measure => simp [intOf]; omega
              · have ht := fun w => ixG3 w ((i : Int) % 4) (by omega)
                clear s0 s1 s2
                go_wp2
                go_roundw
                case rel => exact ⟨i + 1, _, rfl, by go_num, tb, by omega, by omega, s3⟩
                case measure => simp [intOf]; omega
            · obtain ⟨f1, f2⟩ := HFIN.out G hG.out
              have t1 : (O ++ G).size = O.size + G.size := ByteArray.size_append
              have t2 : (O ++ G ++ T).size = O.size + G.size + T.size := by rw [ByteArray.size_append, t1]
              have t3 : (O ++ G ++ (⟨#[120]⟩ : ByteArray)).size = O.size + G.size + 1 := by rw [ByteArray.size_append, t1]; rfl
              have t4 : (O ++ G ++ (⟨#[120]⟩ : ByteArray) ++ G).size = O.size + G.size + 1 + G.size := by rw [ByteArray.size_append, t3]
              have t5 : (O ++ G ++ (⟨#[120]⟩ : ByteArray) ++ G ++ T).size = O.size + G.size + 1 + G.size + T.size := by rw [ByteArray.size_append, t4]
              have u1 : (P ++ G).size = P.size + G.size := ByteArray.size_append
              have u3 : (P ++ G ++ (⟨#[120]⟩ : ByteArray)).size = P.size + G.size + 1 := by rw [ByteArray.size_append, u1]; rfl
              have u4 : (P ++ G ++ (⟨#[120]⟩ : ByteArray) ++ G).size = P.size + G.size + 1 + G.size := by rw [ByteArray.size_append, u3]
              have HDD := Lib.hid fun w' (tb : Below w.heap.size w w') => dec_rd (O ++ G ++ T) (P ++ Q) w' (H.out.later tb) (by omega) f1
              have HDX := Lib.hid fun w' (tb : Below w.heap.size w w') => dec_rd (O ++ G ++ (⟨#[120]⟩ : ByteArray) ++ G ++ T) (P ++ G ++ (⟨#[120]⟩ : ByteArray) ++ G ++ Q) w' (H.out.later tb) (by omega) f2
              clear hG f1 f2
              go_wp2_with (first
            | (go_at_call 9; (with_reducible refine (HDD.out _ tb).mono ?_); rintro e w1 ⟨rfl, hb1⟩; have tb := tb.trans (hb1.mono tb.size))
            | (go_at_call 9; (with_reducible refine (HDX.out _ tb).mono ?_); rintro e w1 ⟨rfl, hb1⟩; have tb := tb.trans (hb1.mono tb.size))
            | (go_at_call 9; (with_reducible refine (HD1.out _ tb).mono ?_); rintro e w1 ⟨rfl, hb1⟩; have tb := tb.trans (hb1.mono tb.size))
            | (go_at_call 9; (with_reducible refine (HD2.out _ tb).mono ?_); rintro e w1 ⟨rfl, hb1⟩; have tb := tb.trans (hb1.mono tb.size)))
              go_ret
              exact ⟨rfl, tb⟩
    · have hfb := fun w => fewW_any b w
      rw [decide_eq_false hb] at hfb
      have HFB := Lib.hid hfb
      clear hfa hfb
      go_enter Tryd.func5, Tryd.ntmps5
      go_wp2_with (first
            | (go_at_call 7; (with_reducible refine (smallW_any _ (H.out.later tb)).mono ?_); rintro e w1 ⟨rfl, hb1⟩; have tb := tb.trans (hb1.mono tb.size))
            | (go_at_call 8; (with_reducible refine (HFA.out _).mono ?_); rintro e w1 ⟨rfl, rfl⟩)
            | (go_at_call 8; (with_reducible refine (HFB.out _).mono ?_); rintro e w1 ⟨rfl, rfl⟩))
      go_ret
      exact ⟨rfl, tb⟩
  · have hfa := fun w => fewW_any a w
    rw [decide_eq_false ha] at hfa
    have HFA := Lib.hid hfa
    clear hfa
    go_enter Tryd.func5, Tryd.ntmps5
    go_wp2_with (first
            | (go_at_call 7; (with_reducible refine (smallW_any _ (H.out.later tb)).mono ?_); rintro e w1 ⟨rfl, hb1⟩; have tb := tb.trans (hb1.mono tb.size))
            | (go_at_call 8; (with_reducible refine (HFA.out _).mono ?_); rintro e w1 ⟨rfl, rfl⟩))
    go_ret
    exact ⟨rfl, tb⟩
end Go.Proofs.YtafmldooephmaaaDoor
