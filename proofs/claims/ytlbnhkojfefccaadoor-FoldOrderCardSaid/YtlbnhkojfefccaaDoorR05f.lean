/- Walks of the reference pouchref05: compared, number, Seen, Equal, Order. -/
import Derived.Test.YtlbnhkojfefccaaDoorR05d
import Derived.Test.YtlbnhkojfefccaaDoorFdP
import Derived.Deep.DeepCutAuto
import Derived.Deep.CutBlock
namespace Go.Proofs.YtlbnhkojfefccaaDoor
open Go.RowKit Pk U8 Su Fo

set_option maxRecDepth 100000 in
theorem cmpR_any (a b : ByteArray) (w : World) : Calls Tryd.prog 35 #[.string a, .string b] w fun e w' => e = .returned (.int .i64 (cmpL a.data.toList b.data.toList)) ∧ w = w' := by
  rw [← Lib.toList_data, ← Lib.toList_data]
  obtain ⟨v, hv⟩ : ∃ v, v = cmpL a.toList b.toList := ⟨_, rfl⟩
  rw [← hv]
  unfold cmpL at hv
  cases h1 : Go.Op.bytesLess a.toList b.toList with
  | true =>
    obtain rfl : v = -1 := by rw [hv, h1]; rfl
    clear hv
    go_enter Tryd.func35, Tryd.ntmps35
    go_wp2
    go_ret
    exact ⟨rfl, rfl⟩
  | false =>
    cases h2 : (a.toList == b.toList) with
    | true =>
      obtain rfl : v = 0 := by rw [hv, h1, h2]; rfl
      clear hv
      go_enter Tryd.func35, Tryd.ntmps35
      go_wp2
      go_ret
      exact ⟨rfl, rfl⟩
    | false =>
      obtain rfl : v = 1 := by rw [hv, h1, h2]; rfl
      clear hv
      go_enter Tryd.func35, Tryd.ntmps35
      go_wp2
      go_ret
      exact ⟨rfl, rfl⟩
theorem zero_step {l X : List UInt8} {k : Nat} (h : Hid ((l.drop k).dropWhile (· == 48) = X)) (hk : k < l.length) :
    (l[k] = 48 → Hid ((l.drop (k + 1)).dropWhile (· == 48) = X)) ∧ (l[k] ≠ 48 → l.drop k = X) := by
  have e := h.out
  rw [List.drop_eq_getElem_cons hk, List.dropWhile_cons] at e
  refine ⟨fun h1 => ?_, fun h1 => ?_⟩
  · rw [if_pos (by rw [h1]; rfl)] at e; exact e
  · rw [if_neg (by simpa using h1), ← List.drop_eq_getElem_cons hk] at e; exact e
set_option maxHeartbeats 1000000 in
set_option maxRecDepth 100000 in
theorem numR_any (s : ByteArray) (w : World) (hs : s.size ≤ 10000000) : Calls Tryd.prog 37 #[.string s] w (NumIs s.data.toList w) := by
  have HI := Lib.hid (fun (c : UInt8) w => in_any (c.toNat : Int) 48 57 w)
  go_enter Tryd.func37, Tryd.ntmps37
  go_upto_block 0 with fail
  go_cut [4] (fun nv wc => ∃ (n : Nat), nv = .int .i64 n ∧ wc = w ∧ n ≤ s.size ∧ Hid (s.data.toList.take n = digs s.data.toList))
  case first =>
    go_wp2_with fail
    go_loopw [4] (fun nv wi => ∃ (n : Nat), nv = .int .i64 n ∧ wi = w ∧ n ≤ s.size ∧ Hid (s.data.toList.take n ++ digs (tl s n) = digs s.data.toList)) (fun nv _ => s.size - (intOf nv).toNat)
    case atStart => exact ⟨0, by first | rfl | trivial, rfl, by omega, by show _ = _; rw [tl_zero]; rfl⟩
    case round =>
      obtain ⟨n, rfl, rfl, hn, hrel⟩ := hrel
      by_cases hlt : n < s.size
      · cases hd : dig s[n] with
        | true =>
          have hd2 := digs_step hrel hlt hd
          have hin : inB (s[n].toNat : Int) 48 57 = true := by
            unfold dig at hd
            rw [Bool.and_eq_true, decide_eq_true_eq, decide_eq_true_eq] at hd
            exact inB_t (by omega) (by omega)
          have hc := HI.out s[n] wr
          have hwr : IntKind.i64.wrap (s[n].toNat : Int) = (s[n].toNat : Int) := w64 rfl (by have := s[n].toNat_lt; omega) (by have := s[n].toNat_lt; omega)
          rw [hin] at hc
          have HC := Lib.hid hc
          clear hrel hd hin hc
          go_wp2_with (go_at_call 48; (with_reducible refine HC.out.mono ?_); rintro e w1 ⟨rfl, rfl⟩)
          go_roundw
          case rel => exact ⟨n + 1, by go_num, by first | rfl | trivial, by omega, hd2⟩
          case measure => simp [intOf]; omega
        | false =>
          have hfin := Lib.hid (digs_stop hrel hlt hd)
          have hin : inB (s[n].toNat : Int) 48 57 = false := by
            unfold dig at hd
            rw [Bool.and_eq_false_iff, decide_eq_false_iff_not, decide_eq_false_iff_not] at hd
            exact inB_f (by omega)
          have hc := HI.out s[n] wr
          have hwr : IntKind.i64.wrap (s[n].toNat : Int) = (s[n].toNat : Int) := w64 rfl (by have := s[n].toNat_lt; omega) (by have := s[n].toNat_lt; omega)
          rw [hin] at hc
          have HC := Lib.hid hc
          clear hrel hd hin hc
          go_wp2_with (go_at_call 48; (with_reducible refine HC.out.mono ?_); rintro e w1 ⟨rfl, rfl⟩)
          go_meet
          exact ⟨n, rfl, rfl, hn, hfin⟩
      · have hfin := Lib.hid (digs_end hrel hlt)
        clear hrel
        go_wp2
        go_meet
        exact ⟨n, rfl, rfl, hn, hfin⟩
  case rest =>
    obtain ⟨n, rfl, rfl, hn, hfin⟩ := hcut
    have hl : (s.data.toList.take n).length = n := by rw [List.length_take, show s.data.toList.length = s.size from rfl]; omega
    have hnum : isNum s.data.toList = decide (0 < n) := by
      unfold isNum; rw [← hfin.out, hl]
    have hz : Hid (((s.data.toList.take n).drop 0).dropWhile (· == 48) = numL s.data.toList) := by
      show _ = _
      unfold numL; rw [List.drop_zero, hfin.out]
    have hget : ∀ k (h : k < n) (h2 : k < (s.data.toList.take n).length), (s.data.toList.take n)[k] = s[k]'(Nat.lt_of_lt_of_le h hn) := fun k h h2 => by
      rw [List.getElem_take]; rfl
    have hend : ∀ k, k ≤ n → (s.data.toList.take n).drop k = numL s.data.toList → NumIs s.data.toList wc (.returned (.tuple #[.string (s.extract k n), .bool (decide (0 < n))])) wc := fun k hk h => by
      unfold NumIs
      rw [hnum, ← h]
      refine ⟨?_, rfl⟩
      have : s.extract k n = ⟨((s.data.toList.take n).drop k).toArray⟩ := by
        refine ba_ext ?_
        rw [ext_listS, List.drop_take]
      rw [this]
    have HE := Lib.hid hend
    have HG := Lib.hid hget
    have HL := Lib.hid hl
    clear hend hget hl hfin hnum
    go_wp2
    go_loopw [5] (fun kv wi => ∃ (k : Nat), kv = .int .i64 k ∧ wi = wc ∧ k ≤ n ∧ Hid (((s.data.toList.take n).drop k).dropWhile (· == 48) = numL s.data.toList)) (fun kv _ => n - (intOf kv).toNat)
    case atStart => exact ⟨0, by first | rfl | trivial, rfl, by omega, hz⟩
    case round =>
      clear hz
      obtain ⟨k, rfl, rfl, hk, hrel⟩ := hrel
      by_cases hlt : k < n
      · have hks : k < s.size := by omega
        obtain ⟨s1, s2⟩ := zero_step hrel (show k < (s.data.toList.take n).length by rw [HL.out]; exact hlt)
        rw [HG.out k hlt (by rw [HL.out]; exact hlt)] at s1 s2
        by_cases h48 : s[k] = 48
        · have hd := s1 h48
          have q1 : ((s[k].toNat : Int) == 48) = true := by rw [h48]; rfl
          clear s1 s2 hrel h48
          go_wp2
          go_roundw
          case rel => exact ⟨k + 1, by go_num, by first | rfl | trivial, by omega, hd⟩
          case measure => simp [intOf]; omega
        · have hp := Lib.hid (HE.out k hk (s2 h48))
          have q1 : ((s[k].toNat : Int) == 48) = false := beq_eq_false_iff_ne.2 fun h => h48 (UInt8.toNat_inj.1 (by show s[k].toNat = 48; omega))
          by_cases h0 : 0 < n
          · have hp2 := hp.out
            rw [decide_eq_true h0] at hp2
            have HP := Lib.hid hp2
            clear s1 s2 hrel h48 hp hp2
            go_wp2
            go_ret2
            exact HP.out
          · omega
      · have e := hrel.out
        have hkn : k = n := by omega
        have hp := HE.out k hk (by
          rw [List.drop_eq_nil_of_le (by rw [HL.out]; omega)] at e ⊢
          exact e)
        clear hrel e
        subst hkn
        have he : s.extract k k = ByteArray.empty := ba_ext (by rw [ext_listS, Nat.sub_self]; rfl)
        rw [he] at hp
        clear he
        by_cases h0 : 0 < k
        · rw [decide_eq_true h0] at hp
          have HP := Lib.hid hp
          clear hp
          go_wp2
          go_ret2
          exact HP.out
        · rw [decide_eq_false h0] at hp
          have HP := Lib.hid hp
          clear hp
          go_wp2
          go_ret2
          exact HP.out
set_option maxRecDepth 100000 in
theorem seenR_any (comp : Int) (s : ByteArray) (w : World) (hs : s.size ≤ 10000000) :
    Calls Tryd.prog 36 #[.int .i64 comp, .string s] w fun e w' => e = .returned (.string ⟨(keyL comp s.data.toList).toArray⟩) ∧ Below w.heap.size w w' := by
  unfold keyL
  by_cases h : comp = 1
  · subst h
    rw [if_pos rfl]
    have HF := Lib.hid (foldR_any s w hs)
    go_enter Tryd.func36, Tryd.ntmps36
    go_wp2_with (go_at_call 13; (with_reducible refine HF.out.mono ?_); rintro e w1 ⟨rfl, hb1⟩)
    go_ret
    exact ⟨rfl, hb1⟩
  · rw [if_neg h]
    have q1 : (comp == 1) = false := beq_eq_false_iff_ne.2 h
    go_enter Tryd.func36, Tryd.ntmps36
    go_wp2
    go_ret
    exact ⟨rfl, Below.refl _ _⟩
set_option maxRecDepth 100000 in
theorem equalR_any (a b : ByteArray) (w : World) (ha : a.size ≤ 10000000) (hb : b.size ≤ 10000000) : Calls Tryd.prog 15 #[.string a, .string b] w fun e w' => e = .returned (.bool (foldL a.data.toList == foldL b.data.toList)) ∧ Below w.heap.size w w' := by
  have hA := fun w' => foldR_any a w' ha
  have hB := fun w' => foldR_any b w' hb
  obtain ⟨X, hX, hXl, -⟩ : ∃ X : ByteArray, X = ⟨(foldL a.data.toList).toArray⟩ ∧ X.data.toList = foldL a.data.toList ∧ X.size = (foldL a.data.toList).length := ⟨_, rfl, by simp, by simp [ByteArray.size]⟩
  obtain ⟨Y, hY, hYl, -⟩ : ∃ X : ByteArray, X = ⟨(foldL b.data.toList).toArray⟩ ∧ X.data.toList = foldL b.data.toList ∧ X.size = (foldL b.data.toList).length := ⟨_, rfl, by simp, by simp [ByteArray.size]⟩
  rw [← hX] at hA
  rw [← hY] at hB
  rw [← hXl, ← hYl, ← Lib.toList_data, ← Lib.toList_data]
  obtain ⟨v, hv⟩ : ∃ v, (X.toList == Y.toList) = v := ⟨_, rfl⟩
  rw [hv]
  have HA := Lib.hid hA
  have HB := Lib.hid hB
  have tb := Below.refl w.heap.size w
  clear hA hB hX hY hXl hYl
  go_enter Tryd.func15, Tryd.ntmps15
  go_wp2_with (first
    | (go_at_call 13; (with_reducible refine (HA.out _).mono ?_); rintro e w1 ⟨rfl, hb1⟩; have tb := tb.trans (hb1.mono tb.size))
    | (go_at_call 13; (with_reducible refine (HB.out _).mono ?_); rintro e w1 ⟨rfl, hb1⟩; have tb := tb.trans (hb1.mono tb.size)))
  go_ret
  exact ⟨by rw [← hv]; rfl, tb⟩
set_option maxHeartbeats 1000000 in
set_option maxRecDepth 100000 in
theorem orderR_any (comp : Int) (a b : ByteArray) (w : World) (ha : a.size ≤ 10000000) (hb : b.size ≤ 10000000) :
    Calls Tryd.prog 17 #[.int .i64 comp, .string a, .string b] w fun e w' => e = .returned (.int .i64 (ordL comp a.data.toList b.data.toList)) ∧ Below w.heap.size w w' := by
  have tb := Below.refl w.heap.size w
  unfold ordL
  by_cases h3 : comp = 3
  · subst h3
    rw [if_pos rfl]
    have hNA := fun w => numR_any a w ha
    have hNB := fun w => numR_any b w hb
    unfold NumIs at hNA hNB
    unfold ordN
    obtain ⟨X, hX, hXl, hXs⟩ : ∃ X : ByteArray, X = ⟨(numL a.data.toList).toArray⟩ ∧ X.data.toList = numL a.data.toList ∧ X.size = (numL a.data.toList).length := ⟨_, rfl, by simp, by simp [ByteArray.size]⟩
    obtain ⟨Y, hY, hYl, hYs⟩ : ∃ X : ByteArray, X = ⟨(numL b.data.toList).toArray⟩ ∧ X.data.toList = numL b.data.toList ∧ X.size = (numL b.data.toList).length := ⟨_, rfl, by simp, by simp [ByteArray.size]⟩
    rw [← hX] at hNA
    rw [← hY] at hNB
    rw [← hXs, ← hYs]
    rw [← hXl, ← hYl]
    generalize isNum a.data.toList = p at hNA ⊢
    generalize isNum b.data.toList = q at hNB ⊢
    have HNA := Lib.hid hNA
    have HNB := Lib.hid hNB
    clear hNA hNB hX hXl hXs hY hYl hYs
    cases p with
    | false =>
      rw [if_pos rfl]
      cases q with
      | false =>
        rw [if_pos rfl]
        go_enter Tryd.func17, Tryd.ntmps17
        go_wp2_with (first
            | (go_at_call 37; (with_reducible refine (HNA.out _).mono ?_); rintro e w1 ⟨rfl, rfl⟩)
            | (go_at_call 37; (with_reducible refine (HNB.out _).mono ?_); rintro e w1 ⟨rfl, rfl⟩))
        go_ret
        exact ⟨rfl, tb⟩
      | true =>
        rw [if_neg (by decide)]
        go_enter Tryd.func17, Tryd.ntmps17
        go_wp2_with (first
            | (go_at_call 37; (with_reducible refine (HNA.out _).mono ?_); rintro e w1 ⟨rfl, rfl⟩)
            | (go_at_call 37; (with_reducible refine (HNB.out _).mono ?_); rintro e w1 ⟨rfl, rfl⟩))
        go_ret
        exact ⟨rfl, tb⟩
    | true =>
      rw [if_neg (by decide)]
      cases q with
      | false =>
        rw [if_pos rfl]
        go_enter Tryd.func17, Tryd.ntmps17
        go_wp2_with (first
            | (go_at_call 37; (with_reducible refine (HNA.out _).mono ?_); rintro e w1 ⟨rfl, rfl⟩)
            | (go_at_call 37; (with_reducible refine (HNB.out _).mono ?_); rintro e w1 ⟨rfl, rfl⟩))
        go_ret
        exact ⟨rfl, tb⟩
      | true =>
        rw [if_neg (by decide)]
        have HCS := Lib.hid fun w => cmpR_any X Y w
        by_cases he : X.size = Y.size
        · have hz : cmpZ (X.size : Int) (Y.size : Int) = 0 := by unfold cmpZ; rw [if_neg (by omega), if_neg (by omega)]
          rw [if_pos hz]
          generalize cmpL X.data.toList Y.data.toList = d at HCS ⊢
          have q1 : ((X.size : Int) != (Y.size : Int)) = false := by rw [he]; simp
          clear hz he
          go_enter Tryd.func17, Tryd.ntmps17
          go_wp2_with (first
            | (go_at_call 37; (with_reducible refine (HNA.out _).mono ?_); rintro e w1 ⟨rfl, rfl⟩)
            | (go_at_call 37; (with_reducible refine (HNB.out _).mono ?_); rintro e w1 ⟨rfl, rfl⟩)
            | (go_at_call 35; (with_reducible refine (HCS.out _).mono ?_); rintro e w1 ⟨rfl, rfl⟩))
          go_ret
          exact ⟨rfl, tb⟩
        · have q1 : ((X.size : Int) != (Y.size : Int)) = true := by rw [bne_iff_ne]; omega
          by_cases hl : X.size < Y.size
          · have hz : cmpZ (X.size : Int) (Y.size : Int) = -1 := by unfold cmpZ; rw [if_pos (by omega)]
            rw [hz, if_neg (by decide)]
            have q2 : (X.size : Int) < (Y.size : Int) := by omega
            clear hz he
            go_enter Tryd.func17, Tryd.ntmps17
            go_wp2_with (first
            | (go_at_call 37; (with_reducible refine (HNA.out _).mono ?_); rintro e w1 ⟨rfl, rfl⟩)
            | (go_at_call 37; (with_reducible refine (HNB.out _).mono ?_); rintro e w1 ⟨rfl, rfl⟩))
            go_ret
            exact ⟨rfl, tb⟩
          · have hz : cmpZ (X.size : Int) (Y.size : Int) = 1 := by unfold cmpZ; rw [if_neg (by omega), if_pos (by omega)]
            rw [hz, if_neg (by decide)]
            have q2 : ¬ (X.size : Int) < (Y.size : Int) := by omega
            clear hz he
            go_enter Tryd.func17, Tryd.ntmps17
            go_wp2_with (first
            | (go_at_call 37; (with_reducible refine (HNA.out _).mono ?_); rintro e w1 ⟨rfl, rfl⟩)
            | (go_at_call 37; (with_reducible refine (HNB.out _).mono ?_); rintro e w1 ⟨rfl, rfl⟩))
            go_ret
            exact ⟨rfl, tb⟩
  · rw [if_neg h3]
    have q1 : (comp != 3) = true := by simp [h3]
    have hKA := fun w' => seenR_any comp a w' ha
    have hKB := fun w' => seenR_any comp b w' hb
    obtain ⟨X, hX, hXl⟩ : ∃ X : ByteArray, X = ⟨(keyL comp a.data.toList).toArray⟩ ∧ X.data.toList = keyL comp a.data.toList := ⟨_, rfl, by simp⟩
    obtain ⟨Y, hY, hYl⟩ : ∃ X : ByteArray, X = ⟨(keyL comp b.data.toList).toArray⟩ ∧ X.data.toList = keyL comp b.data.toList := ⟨_, rfl, by simp⟩
    rw [← hX] at hKA
    rw [← hY] at hKB
    rw [← hXl, ← hYl]
    have HKA := Lib.hid hKA
    have HKB := Lib.hid hKB
    have HCS := Lib.hid fun w => cmpR_any X Y w
    generalize cmpL X.data.toList Y.data.toList = d at HCS ⊢
    clear hKA hKB hX hXl hY hYl
    go_enter Tryd.func17, Tryd.ntmps17
    go_wp2_with (first
            | (go_at_call 36; (with_reducible refine (HKA.out _).mono ?_); rintro e w1 ⟨rfl, hb1⟩; have tb := tb.trans (hb1.mono tb.size))
            | (go_at_call 36; (with_reducible refine (HKB.out _).mono ?_); rintro e w1 ⟨rfl, hb1⟩; have tb := tb.trans (hb1.mono tb.size))
            | (go_at_call 35; (with_reducible refine (HCS.out _).mono ?_); rintro e w1 ⟨rfl, rfl⟩))
    go_ret
    exact ⟨rfl, tb⟩
end Go.Proofs.YtlbnhkojfefccaaDoor
