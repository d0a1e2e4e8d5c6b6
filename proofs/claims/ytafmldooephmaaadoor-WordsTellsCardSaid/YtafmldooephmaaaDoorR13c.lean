/- Walks of the reference pouchref13: Decode. -/
import Derived.Test.YtafmldooephmaaaDoorR13b
import Derived.Test.YtafmldooephmaaaDoorWdW
import Derived.Test.YtafmldooephmaaaDoorWd7
import Derived.Test.YtafmldooephmaaaDoorR04f
namespace Go.Proofs.YtafmldooephmaaaDoor
open Go.RowKit Pk U8 Cs Wd

theorem front_at (s : ByteArray) (k : Nat) (w : World) (hs : s.size ≤ 700000) (T : ByteArray) (n : Nat) (hT : T = ⟨(frontT (tl s k)).1.toArray⟩) (hn : n = (frontT (tl s k)).2) :
    Calls Tryd.prog 20 #[.string (s.extract k s.size)] w fun e w' => e = .returned (.tuple #[.string T, .int .i64 n]) ∧ Below w.heap.size w w' := by
  have h := frontR_any (s.extract k s.size) w (by rw [ByteArray.size_extract]; omega)
  unfold WordIs at h
  have e : (s.extract k s.size).data.toList = tl s k := by
    have := extC_tl s k
    rwa [tl_zero] at this
  rw [e, ← hT, ← hn] at h
  exact h
theorem one_ext (s : ByteArray) (k : Nat) (h : k < s.size) : (s.extract k (k + 1)).data.toList = [s[k]] := by
  rw [Su.ext_listS, show k + 1 - k = 1 by omega]
  have : s.data.toList.drop k = tl s k := rfl
  rw [this, tl_cons s k h]; rfl
theorem dw_tl {s : ByteArray} {k q : Nat} (h : (tl s k).dropWhile Su.blk = tl s q) : skipG (tl s k) = if 0 < (frontT (tl s q)).2 then tl s q else tl s k := by
  unfold skipG
  rw [h]
set_option maxHeartbeats 4000000 in
set_option maxRecDepth 100000 in
theorem decodeR13_any (s : ByteArray) (w : World) (hs : s.size ≤ 700000) : Calls Tryd.prog 10 #[.string s] w fun e w' => e = .returned (.string ⟨(decW s.data.toList).toArray⟩) ∧ Below w.heap.size w w' := by
  have htl := Lib.hid (raw_length _ s.data.toList (Nat.le_refl _))
  go_enter Tryd.func10, Tryd.ntmps10
  go_wp2
  go_loopg [3, 4] s.size (fun g ov iv wr => ∃ (k : Nat) (O : ByteArray), k + g = s.size ∧ iv = .int .i64 k ∧ ov = .string O ∧ Below w.heap.size w wr ∧ O.size ≤ 4 * k ∧ Hid (O.data.toList ++ rawL (tl s k) = rawL (tl s 0)))
  case atStart => exact ⟨0, ⟨#[]⟩, by omega, by first | rfl | trivial, rfl, Below.refl _ _, by decide, rfl⟩
  case round =>
    obtain ⟨k, O, hkg, rfl, rfl, hbel, hal, hrel⟩ := hrel
    have hk : k ≤ s.size := by omega
    have hsz := hbel.size
    by_cases hlt : k < s.size
    · have hle := frontT_le (tl s k)
      rw [tl_length] at hle
      have hlen := frontT_len (tl s k)
      have hst0 := raw_step0 hrel hlt
      have hst1 := fun n => raw_step1 (n := n) hrel hlt
      obtain ⟨T, hT, hTl, hTs⟩ := arr_ex (frontT (tl s k)).1
      obtain ⟨n, hn⟩ : ∃ n, n = (frontT (tl s k)).2 := ⟨_, rfl⟩
      have hwd := fun w' => front_at s k w' hs T n hT hn
      rw [← hn] at hle hlen hst0
      rw [← hTl] at hst1 hlen
      have hTn : T.size ≤ 4 * n := by have : T.data.toList.length = T.size := rfl; omega
      have HWD := Lib.hid hwd
      clear hwd hT hTl hTs hrel hlen
      by_cases h0 : n = 0
      · subst h0
        have hd := hst0 rfl
        have e1 : O.data.toList ++ [s[k]] = (O ++ s.extract k (k + 1)).data.toList := by rw [data_app, one_ext s k hlt]
        rw [e1] at hd
        have e2 : (O ++ s.extract k (k + 1)).size = O.size + 1 := by rw [ByteArray.size_append, ByteArray.size_extract]; omega
        have e3 : (s.extract k (k + 1)).size = 1 := by rw [ByteArray.size_extract]; omega
        clear hst0 hst1 hn e1
        go_wp2_with (go_at_call 20; (with_reducible refine (HWD.out _).mono ?_); rintro e w1 ⟨rfl, hb1⟩; have hbel1 := hbel.trans (hb1.mono hsz))
        go_roundg (s.size - (k + 1))
        case rel => exact ⟨k + 1, _, by omega, by go_num, rfl, hbel1, by omega, hd⟩
        case measure => omega
      · have hd := hst1 n hn h0
        have q0 : ((n : Int) == 0) = false := beq_eq_false_iff_ne.2 (by omega)
        have e1 : O.data.toList ++ T.data.toList = (O ++ T).data.toList := by rw [data_app]
        rw [e1] at hd
        have e2 : (O ++ T).size = O.size + T.size := ByteArray.size_append
        clear hst0 hst1 hn e1
        go_upto_block 2 with (go_at_call 20; (with_reducible refine (HWD.out _).mono ?_); rintro e w1 ⟨rfl, hb1⟩; have hbel1 := hbel.trans (hb1.mono hsz))
        have hkn : k + n ≤ s.size := by omega
        have hn1 : 1 ≤ n := by omega
        have hOT : (O ++ T).size ≤ 4 * (k + n) := by omega
        clear hbel hb1 HWD hsz
        have hsz1 := hbel1.size
        generalize O ++ T = O2 at hd e2 hOT
        go_cut [7] (fun qv wc => ∃ (q : Nat), qv = .int .i64 q ∧ wc = w1 ∧ k + n ≤ q ∧ q ≤ s.size ∧ Hid ((tl s (k + n)).dropWhile Su.blk = tl s q))
        case first =>
          clear hd
          go_wp2_with fail
          go_loopg [7] (s.size - (k + n)) (fun g2 qv wy => ∃ (q : Nat), q + g2 = s.size ∧ k + n ≤ q ∧ qv = .int .i64 q ∧ wy = w1 ∧ Hid ((tl s q).dropWhile Su.blk = (tl s (k + n)).dropWhile Su.blk))
          case atStart => exact ⟨k + n, by omega, by omega, by go_num, rfl, rfl⟩
          case round =>
            obtain ⟨q, hqg, hkq, rfl, rfl, hrel⟩ := hrel
            have hend := fun h => dw_stop (s := s) (k := q) hrel h
            by_cases hq : q < s.size
            · have hst := fun h => dw_step hrel hq h
              have hB := fun w => rblank_any s[q] w
              have hfin : Su.blk s[q] = false → Hid ((tl s (k + n)).dropWhile Su.blk = tl s q) := fun e => hend fun _ => e
              have HST := Lib.hid hst
              have HFI := Lib.hid hfin
              clear hst hfin hend hrel
              cases hb : Su.blk s[q] with
              | true =>
                have hd2 := HST.out hb
                rw [hb] at hB
                have HB := Lib.hid hB
                clear hB HST HFI hb
                go_wp2_with (go_at_call 21; (with_reducible refine (HB.out _).mono ?_); rintro e w1 ⟨rfl, rfl⟩)
                go_roundg (s.size - (q + 1))
                case rel => exact ⟨q + 1, by omega, by omega, by go_num, by first | rfl | trivial, hd2⟩
                case measure => omega
              | false =>
                have hd2 := HFI.out hb
                rw [hb] at hB
                have HB := Lib.hid hB
                clear hB HST HFI hb
                go_wp2_with (go_at_call 21; (with_reducible refine (HB.out _).mono ?_); rintro e w1 ⟨rfl, rfl⟩)
                go_meet
                exact ⟨q, rfl, rfl, hkq, by omega, hd2⟩
            · have hd2 : Hid ((tl s (k + n)).dropWhile Su.blk = tl s q) := hend fun h => absurd h hq
              clear hend hrel
              go_wp2
              go_meet
              exact ⟨q, rfl, rfl, hkq, by omega, hd2⟩
        case rest =>
          obtain ⟨q, rfl, rfl, hkq, hqs, hdw⟩ := hcut
          have hsk := dw_tl hdw.out
          obtain ⟨T2, hT2, -, -⟩ := arr_ex (frontT (tl s q)).1
          obtain ⟨n2, hn2⟩ : ∃ n, n = (frontT (tl s q)).2 := ⟨_, rfl⟩
          have hwd2 := fun w' => front_at s q w' hs T2 n2 hT2 hn2
          rw [← hn2] at hsk
          have HWD2 := Lib.hid hwd2
          have hd3 := hd.out
          clear hwd2 hT2 hn2 hdw hd
          by_cases h2 : 0 < n2
          · have q2 : decide ((0 : Int) < (n2 : Int)) = true := decide_eq_true (by omega)
            rw [if_pos h2] at hsk
            rw [hsk] at hd3
            have HD3 := Lib.hid hd3
            clear hd3 hsk
            go_wp2_with (go_at_call 20; (with_reducible refine (HWD2.out _).mono ?_); rintro e w6 ⟨rfl, hb6⟩; have hbel6 := hbel1.trans (hb6.mono hsz1))
            go_roundg (s.size - q)
            case rel => exact ⟨q, O2, by omega, by go_num, rfl, hbel6, by omega, HD3⟩
            case measure => omega
          · have q2 : decide ((0 : Int) < (n2 : Int)) = false := decide_eq_false (by omega)
            rw [if_neg h2] at hsk
            rw [hsk] at hd3
            have HD3 := Lib.hid hd3
            clear hd3 hsk
            go_wp2_with (go_at_call 20; (with_reducible refine (HWD2.out _).mono ?_); rintro e w6 ⟨rfl, hb6⟩; have hbel6 := hbel1.trans (hb6.mono hsz1))
            go_roundg (s.size - (k + n))
            case rel => exact ⟨k + n, O2, by omega, by go_num, rfl, hbel6, by omega, HD3⟩
            case measure => omega
    · have he := raw_end hrel hlt
      rw [tl_zero] at he
      have hRP := fun w' => repairR_any O w' (by have := htl.out; have : s.data.toList.length = s.size := rfl; omega)
      rw [he] at hRP
      have HRP := Lib.hid hRP
      have hfin : Hid (repairL (rawL s.data.toList) = decW s.data.toList) := rfl
      clear hRP hrel he
      go_wp2_with (go_at_call 22; (with_reducible refine (HRP.out _).mono ?_); rintro e w2 ⟨rfl, hb2⟩; have hbel2 := hbel.trans (hb2.mono hsz))
      go_ret
      rw [← hfin.out]
      exact ⟨rfl, hbel2⟩
end Go.Proofs.YtafmldooephmaaaDoor
