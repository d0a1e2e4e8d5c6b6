/- Walks of the reference pouchref13: seen, blank, Front. -/
import Derived.Test.YtafmldooephmaaaDoorR13a
import Derived.Test.YtafmldooephmaaaDoorWdW
import Derived.Test.YtafmldooephmaaaDoorR04l
import Derived.Test.YtafmldooephmaaaDoorRef6d
import Derived.Test.YtafmldooephmaaaDoorRef6b
import Derived.Test.YtafmldooephmaaaDoorWdA
import Derived.Deep.DeepCutAuto
import Derived.Deep.CutBlock
namespace Go.Proofs.YtafmldooephmaaaDoor
open Go.RowKit Pk U8 Cs Wd

set_option maxRecDepth 100000 in
theorem rseen_any (c : UInt8) (w : World) : Calls Tryd.prog 42 #[.int .u8 c.toNat] w fun e w' => e = .returned (.bool (vis c)) ∧ w = w' := by
  have hc := c.toNat_lt
  by_cases h1 : 32 < c.toNat
  · have e : vis c = decide ((c.toNat : Int) < 127) := by unfold vis; rw [decide_eq_true h1, Bool.true_and]; exact decide_eq_decide.2 (by omega)
    rw [e]
    clear e
    go_enter Tryd.func42, Tryd.ntmps42
    go_wp2
    go_ret
    exact ⟨rfl, rfl⟩
  · have e : vis c = false := by unfold vis; rw [decide_eq_false h1]; rfl
    rw [e]
    clear e
    go_enter Tryd.func42, Tryd.ntmps42
    go_wp2
    go_ret
    exact ⟨rfl, rfl⟩
theorem blk_eq (c : UInt8) : Su.blk c = ((((c.toNat : Int) == 9) || ((c.toNat : Int) == 10)) || ((c.toNat : Int) == 13) || ((c.toNat : Int) == 32)) := by
  have e : ∀ n : Nat, n < 256 → Su.blk (UInt8.ofNat n) = ((((n : Int) == 9) || ((n : Int) == 10)) || ((n : Int) == 13) || ((n : Int) == 32)) := by decide +kernel
  have := e c.toNat c.toNat_lt
  simpa using this
set_option maxRecDepth 100000 in
theorem rblank_any (c : UInt8) (w : World) : Calls Tryd.prog 21 #[.int .u8 c.toNat] w fun e w' => e = .returned (.bool (Su.blk c)) ∧ w = w' := by
  rw [blk_eq]
  cases h1 : ((c.toNat : Int) == 9)
  · cases h2 : ((c.toNat : Int) == 10)
    · cases h3 : ((c.toNat : Int) == 13)
      · cases h4 : ((c.toNat : Int) == 32)
        all_goals
          go_enter Tryd.func21, Tryd.ntmps21
          go_wp2
          go_ret
          exact ⟨rfl, rfl⟩
      · go_enter Tryd.func21, Tryd.ntmps21
        go_wp2
        go_ret
        exact ⟨rfl, rfl⟩
    · go_enter Tryd.func21, Tryd.ntmps21
      go_wp2
      go_ret
      exact ⟨rfl, rfl⟩
  · go_enter Tryd.func21, Tryd.ntmps21
    go_wp2
    go_ret
    exact ⟨rfl, rfl⟩
theorem csC_iff (c : UInt8) : csC c = (vis c && ((c.toNat : Int) != 63) && ((c.toNat : Int) != 61)) := by
  have e : ∀ n : Nat, n < 256 → csC (UInt8.ofNat n) = (vis (UInt8.ofNat n) && ((n : Int) != 63) && ((n : Int) != 61)) := by decide +kernel
  have := e c.toNat c.toNat_lt
  simpa using this
theorem txC_iff (c : UInt8) : txC c = (vis c && ((c.toNat : Int) != 63)) := by
  have e : ∀ n : Nat, n < 256 → txC (UInt8.ofNat n) = (vis (UInt8.ofNat n) && ((n : Int) != 63)) := by decide +kernel
  have := e c.toNat c.toNat_lt
  simpa using this
theorem dw_step {p : UInt8 → Bool} {s : ByteArray} {k : Nat} {X : List UInt8} (h : Hid ((tl s k).dropWhile p = X)) (hk : k < s.size) (hp : p s[k] = true) : Hid ((tl s (k + 1)).dropWhile p = X) := by
  have e := h.out
  rw [tl_cons s k hk, List.dropWhile_cons_of_pos hp] at e
  exact e
theorem dw_stop {p : UInt8 → Bool} {s : ByteArray} {k : Nat} {X : List UInt8} (h : Hid ((tl s k).dropWhile p = X)) (hk : ∀ hk : k < s.size, p s[k] = false) : X = tl s k := by
  have e := h.out
  by_cases h1 : k < s.size
  · rw [tl_cons s k h1, List.dropWhile_cons_of_neg (by simp [hk h1]), ← tl_cons s k h1] at e
    exact e.symm
  · rw [tl_end s k (by omega)] at e ⊢
    exact e.symm
theorem fin_two (D : List UInt8) (t : Nat) : Ending.returned (.tuple #[.string ⟨D.toArray⟩, .int .i64 ((t : Int) + 2)]) = Ending.returned (.tuple #[.string ⟨((D, t + 2) : List UInt8 × Nat).1.toArray⟩, .int .i64 (((D, t + 2) : List UInt8 × Nat).2 : Nat)]) := by
  have e2 : (((D, t + 2) : List UInt8 × Nat).2 : Int) = (t : Int) + 2 := by show ((t + 2 : Nat) : Int) = _; omega
  rw [e2]
set_option maxHeartbeats 4000000 in
set_option maxRecDepth 100000 in
theorem frontR_any (s : ByteArray) (w : World) (hs : s.size ≤ 1000000) : Calls Tryd.prog 20 #[.string s] w (WordIs s w) := by
  have hno : frontT s.data.toList = ([], 0) → Hid (WordIs s w (.returned (.tuple #[.string ⟨#[]⟩, .int .i64 0])) w) := fun e => by
    show WordIs _ _ _ _
    unfold WordIs
    rw [e]
    exact ⟨rfl, Below.refl _ _⟩
  by_cases h2 : s.size < 2
  · have hf := hno (fr_pre fun e => by
      have := congrArg List.length e
      rw [List.length_take, show s.data.toList.length = s.size from rfl] at this
      simp at this
      omega)
    clear hno
    go_enter Tryd.func20, Tryd.ntmps20
    go_wp2
    go_ret2
    exact hf.out
  · have he0 : (s.extract 0 2).toList = s.data.toList.take 2 := by rw [Lib.toList_data, Lib.extract_from_zero]
    by_cases hp : s.data.toList.take 2 = [61, 63]
    · have hb : ((s.extract 0 2).toList == [61, 63]) = true := by rw [he0, hp]; rfl
      have HNO := Lib.hid hno
      clear hno he0
      go_enter Tryd.func20, Tryd.ntmps20
      go_upto_block 0 with fail
      go_cut [4] (fun kv wc => ∃ (k : Nat), kv = .int .i64 k ∧ wc = w ∧ At1 s k)
      case first =>
        go_wp2_with fail
        go_loopw [4] (fun kv wr => ∃ (k : Nat), kv = .int .i64 k ∧ wr = w ∧ 2 ≤ k ∧ k ≤ s.size ∧ Hid ((tl s k).dropWhile csC = (tl s 2).dropWhile csC)) (fun kv _ => s.size - (intOf kv).toNat)
        case atStart => exact ⟨2, by first | rfl | trivial, rfl, by omega, by omega, rfl⟩
        case round =>
          obtain ⟨k, rfl, rfl, hk2, hks, hrel⟩ := hrel
          have hend := fun h => dw_stop (s := s) (k := k) hrel h
          by_cases hlt : k < s.size
          · have hst := fun h => dw_step hrel hlt h
            have hS := fun w => rseen_any s[k] w
            have hc := csC_iff s[k]
            have hfin : csC s[k] = false → At1 s k := fun e => ⟨hp, hend fun _ => e, hk2, hks⟩
            have HST := Lib.hid hst
            have HFI := Lib.hid hfin
            clear hst hfin hend hrel HNO
            cases hv : vis s[k] with
            | false =>
              have e : csC s[k] = false := by rw [hc, hv]; rfl
              rw [hv] at hS
              have HS := Lib.hid hS
              clear hS hc
              go_wp2_with (go_at_call 42; (with_reducible refine (HS.out _).mono ?_); rintro e w1 ⟨rfl, rfl⟩)
              go_meet
              exact ⟨k, rfl, rfl, HFI.out e⟩
            | true =>
              rw [hv] at hS
              have HS := Lib.hid hS
              cases h63 : ((s[k].toNat : Int) != 63) with
              | false =>
                have e : csC s[k] = false := by rw [hc, hv, h63]; rfl
                clear hS hc
                go_wp2_with (go_at_call 42; (with_reducible refine (HS.out _).mono ?_); rintro e w1 ⟨rfl, rfl⟩)
                go_meet
                exact ⟨k, rfl, rfl, HFI.out e⟩
              | true =>
                cases h61 : ((s[k].toNat : Int) != 61) with
                | false =>
                  have e : csC s[k] = false := by rw [hc, hv, h63, h61]; rfl
                  clear hS hc
                  go_wp2_with (go_at_call 42; (with_reducible refine (HS.out _).mono ?_); rintro e w1 ⟨rfl, rfl⟩)
                  go_meet
                  exact ⟨k, rfl, rfl, HFI.out e⟩
                | true =>
                  have e : csC s[k] = true := by rw [hc, hv, h63, h61]; rfl
                  have hd := Lib.hid (HST.out e)
                  clear hS hc
                  go_wp2_with (go_at_call 42; (with_reducible refine (HS.out _).mono ?_); rintro e w1 ⟨rfl, rfl⟩)
                  go_roundw
                  case rel => exact ⟨k + 1, by go_num, by first | rfl | trivial, by omega, by omega, hd.out⟩
                  case measure => simp [intOf]; omega
          · have hat : At1 s k := ⟨hp, hend fun h => absurd h hlt, hk2, hks⟩
            have HAT := Lib.hid hat
            clear hat hend hrel HNO
            go_wp2
            go_meet
            exact ⟨k, rfl, rfl, HAT.out⟩
      case rest =>
        obtain ⟨k, rfl, rfl, hat⟩ := hcut
        have HAT := Lib.hid hat
        have hk2 := hat.lo
        have hks := hat.hi
        clear hat
        by_cases c1 : k = 2
        · have hf := HNO.out (HAT.out.none (.inl c1))
          have q1 : ((k : Int) == 2) = true := beq_iff_eq.2 (by omega)
          clear HNO HAT
          go_wp2
          go_ret2
          exact hf.out
        · have q1 : ((k : Int) == 2) = false := beq_eq_false_iff_ne.2 (by omega)
          by_cases c2 : s.size < k + 3
          · have hf := HNO.out (HAT.out.none (.inr (.inl c2)))
            clear HNO HAT
            go_wp2
            go_ret2
            exact hf.out
          · have l1 : k < s.size := by omega
            have l2 : k + 2 < s.size := by omega
            have l3 : k + 1 < s.size := by omega
            by_cases c3 : s[k] = 63
            · have q3 : ((s[k].toNat : Int) != 63) = false := by rw [c3]; rfl
              by_cases c4 : s[k + 2] = 63
              · have q4 : ((s[k + 2].toNat : Int) != 63) = false := by rw [c4]; rfl
                have HQ := Lib.hid (show s[k] = 63 ∧ s[k + 2] = 63 from ⟨c3, c4⟩)
                clear c3 c4
                go_upto_block 2 with fail
                go_cut [7] (fun tv wd => ∃ (t : Nat), tv = .int .i64 t ∧ wd = wc ∧ At2 s k t)
                case first =>
                  have hmk := fun t (a : (tl s (k + 3)).dropWhile txC = tl s t) (b : k + 3 ≤ t) (c : t ≤ s.size) => At2.mk HAT.out c1 l2 HQ.out.1 HQ.out.2 a b c
                  have HMK := Lib.hid hmk
                  clear hmk HNO HAT HQ
                  go_wp2_with fail
                  go_loopw [7] (fun tv wr => ∃ (t : Nat), tv = .int .i64 t ∧ wr = wc ∧ k + 3 ≤ t ∧ t ≤ s.size ∧ Hid ((tl s t).dropWhile txC = (tl s (k + 3)).dropWhile txC)) (fun tv _ => s.size - (intOf tv).toNat)
                  case atStart => exact ⟨k + 3, by go_num, rfl, by omega, by omega, rfl⟩
                  case round =>
                    obtain ⟨t, rfl, rfl, ht2, hts, hrel⟩ := hrel
                    have hend := fun h => dw_stop (s := s) (k := t) hrel h
                    by_cases hlt : t < s.size
                    · have hst := fun h => dw_step hrel hlt h
                      have hS := fun w => rseen_any s[t] w
                      have hc := txC_iff s[t]
                      have hfin : txC s[t] = false → At2 s k t := fun e => HMK.out t (hend fun _ => e) ht2 hts
                      have HST := Lib.hid hst
                      have HFI := Lib.hid hfin
                      clear hst hfin hend hrel HMK
                      cases hv : vis s[t] with
                      | false =>
                        have e : txC s[t] = false := by rw [hc, hv]; rfl
                        rw [hv] at hS
                        have HS := Lib.hid hS
                        clear hS hc
                        go_wp2_with (go_at_call 42; (with_reducible refine (HS.out _).mono ?_); rintro e w1 ⟨rfl, rfl⟩)
                        go_meet
                        exact ⟨t, rfl, rfl, HFI.out e⟩
                      | true =>
                        rw [hv] at hS
                        have HS := Lib.hid hS
                        cases h63 : ((s[t].toNat : Int) != 63) with
                        | false =>
                          have e : txC s[t] = false := by rw [hc, hv, h63]; rfl
                          clear hS hc
                          go_wp2_with (go_at_call 42; (with_reducible refine (HS.out _).mono ?_); rintro e w1 ⟨rfl, rfl⟩)
                          go_meet
                          exact ⟨t, rfl, rfl, HFI.out e⟩
                        | true =>
                          have e : txC s[t] = true := by rw [hc, hv, h63]; rfl
                          have hd := Lib.hid (HST.out e)
                          clear hS hc
                          go_wp2_with (go_at_call 42; (with_reducible refine (HS.out _).mono ?_); rintro e w1 ⟨rfl, rfl⟩)
                          go_roundw
                          case rel => exact ⟨t + 1, by go_num, by first | rfl | trivial, by omega, by omega, hd.out⟩
                          case measure => simp [intOf]; omega
                    · have hat : At2 s k t := HMK.out t (hend fun h => absurd h hlt) ht2 hts
                      have HAT := Lib.hid hat
                      clear hat hend hrel HMK
                      go_wp2
                      go_meet
                      exact ⟨t, rfl, rfl, HAT.out⟩
                case rest =>
                  obtain ⟨t, rfl, rfl, hat⟩ := hcut
                  have HAT2 := Lib.hid hat
                  have ht1 := hat.lo
                  have ht2 := hat.hi
                  clear hat HAT HQ
                  by_cases d1 : s.size < t + 2
                  · have hf := HNO.out (HAT2.out.none (.inl (take2_short s t (by omega))))
                    clear HNO HAT2
                    go_wp2
                    go_ret2
                    exact hf.out
                  · have htk := take2_tl s t (by omega)
                    rw [← Lib.toList_data] at htk
                    cases d2 : ((s.extract t (t + 2)).toList == [63, 61]) with
                    | false =>
                      have hf := HNO.out (HAT2.out.none (.inl (by rw [htk]; exact beq_eq_false_iff_ne.1 d2)))
                      clear HNO HAT2 htk
                      go_wp2
                      go_ret2
                      exact hf.out
                    | true =>
                      have hX := Lib.hid (show (tl s t).take 2 = [63, 61] by rw [htk]; exact beq_iff_eq.1 d2)
                      clear htk
                      have hfs := fun hh => HAT2.out.some hX.out hh
                      have hfn := fun hh => HNO.out (HAT2.out.none (.inr hh))
                      have hB := fun w (hl : (s.extract (k + 3) t).size ≤ 1000000) => unB64R_any (s.extract (k + 3) t) w hl
                      have hQ := fun w (hl : (s.extract (k + 3) t).size ≤ 1000000) => unQR_any (s.extract (k + 3) t) w (by omega)
                      have hl : (s.extract (k + 3) t).size ≤ 1000000 := by rw [ByteArray.size_extract]; omega
                      have hl2 : (s.extract 2 k).size ≤ 3000000 := by rw [ByteArray.size_extract]; omega
                      obtain ⟨B, hBe, hBl, hBs⟩ := arr_ex (readL s[k + 1] (s.extract (k + 3) t).data.toList)
                      have hBn : B.size ≤ 3000000 := by
                        have h1 := readL_length s[k + 1] (s.extract (k + 3) t).data.toList
                        have h2 : (s.extract (k + 3) t).data.toList.length = (s.extract (k + 3) t).size := rfl
                        omega
                      rw [← hBl] at hfs
                      have hD := fun w => decode4_any (s.extract 2 k) B w hl2 hBn
                      obtain ⟨D, hDe⟩ : ∃ D, D = decCS (s.extract 2 k).data.toList B.data.toList := ⟨_, rfl⟩
                      rw [← hDe] at hD hfs
                      have HD := Lib.hid hD
                      clear hD hDe
                      have HFS := Lib.hid hfs
                      have HFN := Lib.hid hfn
                      by_cases h64 : s[k + 1] = 66 ∨ s[k + 1] = 98
                      · have hh : howOK s[k + 1] = true := by rcases h64 with e | e <;> (rw [e]; rfl)
                        have HF := Lib.hid (HFS.out hh)
                        have hrd : readL s[k + 1] (s.extract (k + 3) t).data.toList = C6.unB64R (s.extract (k + 3) t).data.toList := by unfold readL; rw [if_pos h64]
                        rw [hrd] at hBe
                        have hU := fun w => hB w hl
                        rw [← hBe] at hU
                        have HU := Lib.hid hU
                        clear hB hQ hfs hfn HFS HFN HAT2 HNO hBe hBl hBs hrd hU hX hh
                        rcases h64 with e | e
                        · have q5 : ((s[k + 1].toNat : Int) == 66) = true := by rw [e]; rfl
                          clear e
                          go_wp2_with (first
                            | (go_at_call 43; (with_reducible refine (HU.out _).mono ?_); rintro e w5 ⟨rfl, hb5⟩)
                            | (go_at_call 45; (with_reducible refine (HD.out _).mono ?_); rintro e w6 ⟨⟨b, rfl⟩, hb6⟩; have tb6 := hb5.trans (hb6.mono hb5.size)))
                          go_ret2
                          unfold WordIs
                          rw [HF.out]
                          exact ⟨fin_two D t, tb6⟩
                        · have q5 : ((s[k + 1].toNat : Int) == 66) = false := by rw [e]; rfl
                          have q6 : ((s[k + 1].toNat : Int) == 98) = true := by rw [e]; rfl
                          clear e
                          go_wp2_with (first
                            | (go_at_call 43; (with_reducible refine (HU.out _).mono ?_); rintro e w5 ⟨rfl, hb5⟩)
                            | (go_at_call 45; (with_reducible refine (HD.out _).mono ?_); rintro e w6 ⟨⟨b, rfl⟩, hb6⟩; have tb6 := hb5.trans (hb6.mono hb5.size)))
                          go_ret2
                          unfold WordIs
                          rw [HF.out]
                          exact ⟨fin_two D t, tb6⟩
                      · have n5 : ((s[k + 1].toNat : Int) == 66) = false := beq_eq_false_iff_ne.2 (by have := u8_ne (n := 66) (fun e => h64 (.inl e)) (by decide); omega)
                        have n6 : ((s[k + 1].toNat : Int) == 98) = false := beq_eq_false_iff_ne.2 (by have := u8_ne (n := 98) (fun e => h64 (.inr e)) (by decide); omega)
                        by_cases hq : s[k + 1] = 81 ∨ s[k + 1] = 113
                        · have hh : howOK s[k + 1] = true := by rcases hq with e | e <;> (rw [e]; rfl)
                          have HF := Lib.hid (HFS.out hh)
                          have hrd : readL s[k + 1] (s.extract (k + 3) t).data.toList = C6.unQR (s.extract (k + 3) t).data.toList := by unfold readL; rw [if_neg h64]
                          rw [hrd] at hBe
                          have hU := fun w => hQ w hl
                          rw [← hBe] at hU
                          have HU := Lib.hid hU
                          clear hB hQ hfs hfn HFS HFN HAT2 HNO hBe hBl hBs hrd hU hX hh h64
                          rcases hq with e | e
                          · have q5 : ((s[k + 1].toNat : Int) == 81) = true := by rw [e]; rfl
                            clear e
                            go_wp2_with (first
                              | (go_at_call 44; (with_reducible refine (HU.out _).mono ?_); rintro e w5 ⟨rfl, hb5⟩)
                              | (go_at_call 45; (with_reducible refine (HD.out _).mono ?_); rintro e w6 ⟨⟨b, rfl⟩, hb6⟩; have tb6 := hb5.trans (hb6.mono hb5.size)))
                            go_ret2
                            unfold WordIs
                            rw [HF.out]
                            exact ⟨fin_two D t, tb6⟩
                          · have q5 : ((s[k + 1].toNat : Int) == 81) = false := by rw [e]; rfl
                            have q6 : ((s[k + 1].toNat : Int) == 113) = true := by rw [e]; rfl
                            clear e
                            go_wp2_with (first
                              | (go_at_call 44; (with_reducible refine (HU.out _).mono ?_); rintro e w5 ⟨rfl, hb5⟩)
                              | (go_at_call 45; (with_reducible refine (HD.out _).mono ?_); rintro e w6 ⟨⟨b, rfl⟩, hb6⟩; have tb6 := hb5.trans (hb6.mono hb5.size)))
                            go_ret2
                            unfold WordIs
                            rw [HF.out]
                            exact ⟨fin_two D t, tb6⟩
                        · have n7 : ((s[k + 1].toNat : Int) == 81) = false := beq_eq_false_iff_ne.2 (by have := u8_ne (n := 81) (fun e => hq (.inl e)) (by decide); omega)
                          have n8 : ((s[k + 1].toNat : Int) == 113) = false := beq_eq_false_iff_ne.2 (by have := u8_ne (n := 113) (fun e => hq (.inr e)) (by decide); omega)
                          have hh : howOK s[k + 1] = false := by
                            cases he : howOK s[k + 1] with
                            | false => rfl
                            | true =>
                              rcases howOK_cases he with e | e | e | e
                              · exact absurd (.inl e) h64
                              · exact absurd (.inr e) h64
                              · exact absurd (.inl e) hq
                              · exact absurd (.inr e) hq
                          have hf := HFN.out hh
                          clear hB hQ hfs hfn HFS HFN HAT2 HNO hBe hBl hBs hX hh h64 hq HD
                          go_wp2
                          go_ret2
                          exact hf.out
              · have hf := HNO.out (HAT.out.none (.inr (.inr ⟨l2, .inr c4⟩)))
                have q4 : ((s[k + 2].toNat : Int) != 63) = true := by
                  have := u8_ne c4 (n := 63) (by decide)
                  rw [bne_iff_ne]; omega
                clear HNO HAT c3 c4
                go_wp2
                go_ret2
                exact hf.out
            · have hf := HNO.out (HAT.out.none (.inr (.inr ⟨l2, .inl c3⟩)))
              have q3 : ((s[k].toNat : Int) != 63) = true := by
                have := u8_ne c3 (n := 63) (by decide)
                rw [bne_iff_ne]; omega
              clear HNO HAT c3
              go_wp2
              go_ret2
              exact hf.out
    · have hb : ((s.extract 0 2).toList == [61, 63]) = false := by
        rw [he0]
        exact beq_eq_false_iff_ne.2 hp
      have hf := hno (fr_pre hp)
      clear hno he0 hp
      go_enter Tryd.func20, Tryd.ntmps20
      go_wp2
      go_ret2
      exact hf.out
end Go.Proofs.YtafmldooephmaaaDoor
