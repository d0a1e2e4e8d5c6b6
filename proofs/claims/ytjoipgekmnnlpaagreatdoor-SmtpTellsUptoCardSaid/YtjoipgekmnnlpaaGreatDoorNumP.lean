/- Walks: the program's num: Text, Parse (by themselves). -/
import Derived.Test.YtjoipgekmnnlpaaGreatDoorPlain1
import Derived.Test.YtjoipgekmnnlpaaGreatDoorRows
import Derived.Test.YtjoipgekmnnlpaaGreatDoorShelf
import Derived.WalkSmall
import Derived.Lib.AppendIntMem
import Derived.Deep.DeepCutAuto
import Derived.Deep.CutBlock
import Derived.Lib.AtoiErrMem
namespace Go.Proofs.YtjoipgekmnnlpaaGreatDoor
open Go.RowKit Pk Hx C1

theorem arr_ex1 (l : List UInt8) : ∃ A : ByteArray, A = ⟨l.toArray⟩ ∧ A.data.toList = l ∧ A.size = l.length := ⟨⟨l.toArray⟩, rfl, by simp, by simp [ByteArray.size]⟩
def TabN (w : World) : Prop := Lib.TabIs Tryz.prog w "internal/strconv.uint64pow10" .u64 Lib.pow10Tab
theorem TabN.later {w w' : World} (h : TabN w) (hb : Below w.heap.size w w') : TabN w' := Lib.tabBelow_of_tabIs h w' hb
theorem text_any (n : Int) (w : World) (h0 : -9223372036854775808 ≤ n) (h1 : n ≤ 9223372036854775807) (ht : TabN w) :
    Calls Tryz.prog 28 #[.int .i64 n] w fun e w' => e = .returned (.string ⟨(Lib.itoa n).toArray⟩) ∧ Below w.heap.size w w' := by
  have H := Lib.hid ht
  clear ht
  go_enter Tryz.func28, Tryz.ntmps28
  go_wp2_with (go_at_call 50; refine (Tryz.strconv_Itoa n h0 h1 _ H.out).mono ?_; rintro e w' ⟨rfl, k, os, rfl⟩)
  go_ret
  exact ⟨rfl, Lib.below_grow _ _ (Nat.le_refl _) _ _⟩

theorem trim_body (l : List UInt8) : Lib.trimPrefix l [45] = body l := by
  unfold Lib.trimPrefix Lib.hasPrefix body negL
  cases l with
  | nil => rfl
  | cons c r =>
    by_cases h : c = 45
    · subst h; rfl
    · have h1 : ([45] : List UInt8).isPrefixOf (c :: r) = false := by simp [List.isPrefixOf]; exact fun e => h e.symm
      rw [h1]; simp [h]
theorem below_iter (w : World) (s : ByteArray) (p : Nat) : Below w.heap.size w (w.iter s p) := (Below.refl _ _).alloc (Nat.le_refl _) _
theorem ret_ib {a b : Int} {x y : Bool} (h : a = b) (h' : x = y) : Ending.returned (.tuple #[.int .i64 a, .bool x]) = .returned (.tuple #[.int .i64 b, .bool y]) := by rw [h, h']
theorem digs_snoc {s : ByteArray} {p : Nat} (h : ∀ c ∈ s.data.toList.take p, digC c = true) (hp : p < s.size) (hd : digC s[p] = true) : ∀ c ∈ s.data.toList.take (p + 1), digC c = true := by
  rw [List.take_succ_eq_append_getElem (by simpa using hp)]
  intro c hc
  rcases List.mem_append.1 hc with hc | hc
  · exact h c hc
  · rw [List.mem_singleton] at hc; subst hc; exact hd
theorem not_can {l : List UInt8} {s : ByteArray} {p : Nat} (hb : s.data.toList = body l) (hp : p < s.size) (hd : digC s[p] = false) : prs l = none :=
  prs_none fun h => by
    have := h.1.1 s[p] (by rw [← hb]; exact List.getElem_mem _)
    rw [hd] at this; cases this

theorem str_nile {S : ByteArray} (h : S.size = 0) : S.toList = [] := by
  rw [Lib.toList_data]; exact List.eq_nil_of_length_eq_zero h
theorem str_neq {S : ByteArray} (h : 0 < S.size) : S.toList.isEmpty = false := by
  rw [Lib.toList_data]
  have : S.data.toList.length = S.size := rfl
  cases hd : S.data.toList with
  | nil => rw [hd] at this; simp at this; omega
  | cons c r => rfl
theorem head_arr {S : ByteArray} (h : 0 < S.size) : S.data.toList.head? = some S[0] := by
  have := tl_cons S 0 h
  rw [tl_zero] at this
  rw [this]; rfl
theorem atoi_below {w w' : World} (h : w' = w ∨ ∃ t, w' = Lib.bytesWorld w 5 t) : Below w.heap.size w w' := by
  rcases h with rfl | ⟨t, rfl⟩
  · exact Below.refl _ _
  · exact Lib.bytesWorld_below _ _ _

set_option maxHeartbeats 4000000 in
theorem parse_any (s : ByteArray) (lo hi : Int) (w : World) (hs : s.size ≤ 10000000) (ev : Value) (hv : w.cell? ⟨2, 0, none⟩ = some ev) (hev : ev = .nilIface ∨ ∃ te pe, ev = .iface te pe) :
    Calls Tryz.prog 26 #[.string s, .int .i64 lo, .int .i64 hi] w fun e w' => e = .returned (.tuple #[.int .i64 (parseL s.data.toList lo hi).1, .bool (parseL s.data.toList lo hi).2]) ∧ Below w.heap.size w w' := by
  have htp := Tryz.strings_TrimPrefix s ⟨#[45]⟩ w
  obtain ⟨D, hD, hDl, hDs⟩ := arr_ex1 (Lib.trimPrefix s.data.toList (⟨#[45]⟩ : ByteArray).data.toList)
  rw [← hD] at htp
  have hDb : D.data.toList = body s.data.toList := hDl.trans (trim_body _)
  have hDs' : D.size ≤ s.size := by
    have h1 : D.data.toList.length = D.size := rfl
    have h2 : s.data.toList.length = s.size := rfl
    rw [← h1, ← h2, hDb]
    unfold body; split <;> simp
  have HTP := Lib.hid htp
  have HDB := Lib.hid hDb
  have HEV := Lib.hid hev
  clear htp hD hDl hDs hDb hev
  go_enter Tryz.func26, Tryz.ntmps26
  go_wp2_with (go_at_call 48; go_must (refine HTP.out.mono ?_; rintro e w' ⟨rfl, rfl⟩))
  go_loopw [10] (fun _ wr => ∃ pos : Nat, wr = w'.iter D pos ∧ pos ≤ D.size ∧ Hid (∀ c ∈ D.data.toList.take pos, digC c = true)) (fun _ wr => D.size - wr.iterPos w'.heap.size)
  case atStart => exact ⟨0, rfl, by omega, fun c hc => by simp at hc⟩
  case round =>
    obtain ⟨pos, rfl, hpos, hdig⟩ := hrel
    by_cases hp : pos < D.size
    · by_cases ha : D[pos].toNat < 128
      · have hnx : ∀ ty, (Instr.next (.pointer (some ⟨w'.heap.size, 0, none⟩)) true ty).run Tryz.prog (w'.iter D pos) = _ := fun ty => run_next_ascii w' D pos ty hp ha
        by_cases hd : 48 ≤ D[pos].toNat ∧ D[pos].toNat ≤ 57
        · have hnd := Lib.hid (digs_snoc hdig.out hp ((digC_iff _).2 hd))
          obtain ⟨d1, d2⟩ := hd
          clear hdig
          go_wp2
          go_roundw
          case rel => exact ⟨pos + 1, rfl, by omega, hnd⟩
          case measure => simp; omega
        · have hn := Lib.hid (not_can HDB.out hp (by rw [← Bool.not_eq_true]; intro h; exact hd ((digC_iff _).1 h)))
          rcases (show D[pos].toNat < 48 ∨ (48 ≤ D[pos].toNat ∧ 57 < D[pos].toNat) by omega) with d | ⟨d, d'⟩
          all_goals
            clear hd hdig
            go_wp2
            go_ret2
            exact ⟨ret_ib (by rw [parseL, hn.out]; rfl) (by rw [parseL, hn.out]; rfl), below_iter _ _ _⟩
      · have hnx : ∀ ty, (Instr.next (.pointer (some ⟨w'.heap.size, 0, none⟩)) true ty).run Tryz.prog (w'.iter D pos) = _ := fun ty => run_next_any w' D pos ty hp
        have hn := Lib.hid (not_can HDB.out hp (by rw [← Bool.not_eq_true]; intro h; have := (digC_iff _).1 h; omega))
        have hh := (decode_high D pos hp (by omega)).1
        obtain ⟨R, hR⟩ : ∃ R, R = Utf8.decode D pos := ⟨_, rfl⟩
        rw [← hR] at hnx hh
        clear hR hdig
        have hgt : 57 < R.1 := by omega
        go_wp2
        go_ret2
        exact ⟨ret_ib (by rw [parseL, hn.out]; rfl) (by rw [parseL, hn.out]; rfl), below_iter _ _ _⟩
    · have hnx : ∀ ty, (Instr.next (.pointer (some ⟨w'.heap.size, 0, none⟩)) true ty).run Tryz.prog (w'.iter D pos) = _ := fun ty => run_next_end w' D pos ty hp
      have hall : ∀ c ∈ body s.data.toList, digC c = true := by
        have := hdig.out
        rw [List.take_of_length_le (by show D.size ≤ pos; omega), HDB.out] at this
        exact this
      have HALL := Lib.hid hall
      clear hall hdig
      have hbi := below_iter w' D pos
      have hvi := cell_later hbi hv
      by_cases h0 : 0 < D.size
      · have hne := str_neq h0
        have hh0 : (body s.data.toList).head? = some D[0] := by rw [← HDB.out]; exact head_arr h0
        have hbn : body s.data.toList ≠ [] := by intro e; rw [e] at hh0; cases hh0
        by_cases hcan : C1.Can s.data.toList
        · have HC := Lib.hid hcan
          have hor : D[0] ≠ 48 ∨ s.data.toList = [48] := by
            rcases hcan.2.2 with h | h
            · exact .inl (h _ hh0)
            · exact .inr h
          have HAT := Lib.hid (atoi_can hcan)
          have hway : ((D[0].toNat : Int) == 48) = false ∨ (((D[0].toNat : Int) == 48) = true ∧ (!s.toList == [48]) = false) := by
            by_cases h48 : D[0] = 48
            · right
              rcases hor with h | h
              · exact absurd h48 h
              · exact ⟨by rw [h48]; rfl, by rw [Lib.toList_data, h]; rfl⟩
            · left; exact beq_eq_false_iff_ne.2 (fun e => h48 (by rw [← UInt8.toNat_inj]; show D[0].toNat = 48; omega))
          clear hor hcan hh0 hbn hp
          by_cases hr : -9223372036854775808 ≤ ival s.data.toList ∧ ival s.data.toList ≤ 9223372036854775807
          · have hps := Lib.hid (prs_some HC.out hr.1 hr.2)
            have hat := HAT.out
            rw [if_pos hr] at hat
            obtain ⟨v, hvv⟩ : ∃ v, v = ival s.data.toList := ⟨_, rfl⟩
            rw [← hvv] at hps hat
            have HA := Lib.hid hat
            clear hat hvv hr HAT
            rcases (show v < lo ∨ (lo ≤ v ∧ hi < v) ∨ (lo ≤ v ∧ v ≤ hi) by omega) with c | ⟨c, c'⟩ | ⟨c, c'⟩
            · have HF := Lib.hid (show parseL s.data.toList lo hi = (0, false) by rw [parseL, hps.out, pickR]; exact if_neg (by omega))
              rcases hway with q1 | ⟨q1, q2⟩
              all_goals
                go_wp2_with (go_at_call 49; go_must (refine (Tryz.strconv_Atoi_ok s (by omega) v HA.out _).mono ?_; rintro e w2 ⟨rfl, hw2⟩; have hb2 := atoi_below hw2; clear hw2))
                go_ret2
                rw [HF.out]
                exact ⟨rfl, hbi.trans (hb2.mono hbi.size)⟩
            · have HF := Lib.hid (show parseL s.data.toList lo hi = (0, false) by rw [parseL, hps.out, pickR]; exact if_neg (by omega))
              rcases hway with q1 | ⟨q1, q2⟩
              all_goals
                go_wp2_with (go_at_call 49; go_must (refine (Tryz.strconv_Atoi_ok s (by omega) v HA.out _).mono ?_; rintro e w2 ⟨rfl, hw2⟩; have hb2 := atoi_below hw2; clear hw2))
                go_ret2
                rw [HF.out]
                exact ⟨rfl, hbi.trans (hb2.mono hbi.size)⟩
            · have HF := Lib.hid (show parseL s.data.toList lo hi = (v, true) by rw [parseL, hps.out, pickR]; exact if_pos ⟨c, c'⟩)
              rcases hway with q1 | ⟨q1, q2⟩
              all_goals
                go_wp2_with (go_at_call 49; go_must (refine (Tryz.strconv_Atoi_ok s (by omega) v HA.out _).mono ?_; rintro e w2 ⟨rfl, hw2⟩; have hb2 := atoi_below hw2; clear hw2))
                go_ret2
                rw [HF.out]
                exact ⟨rfl, hbi.trans (hb2.mono hbi.size)⟩
          · have HF := Lib.hid (show parseL s.data.toList lo hi = (0, false) by rw [parseL, prs_none (fun h => hr h.2)]; rfl)
            have hat := HAT.out
            rw [if_neg hr] at hat
            have HA := Lib.hid hat
            clear hat hr HAT
            rcases hway with q1 | ⟨q1, q2⟩
            all_goals
              go_wp2_with (go_at_call 49; go_must (refine (Tryz.strconv_Atoi_range s (by omega) HA.out ev _ hvi HEV.out).mono ?_; rintro e w2 ⟨N, rfl, -, -, hb2⟩))
              go_ret2
              rw [HF.out]
              exact ⟨rfl, hbi.trans (hb2.mono hbi.size)⟩
        · have HF := Lib.hid (show parseL s.data.toList lo hi = (0, false) by rw [parseL, prs_none (fun h => hcan h.1)]; rfl)
          have q1 : ((D[0].toNat : Int) == 48) = true := by
            rw [beq_iff_eq]
            refine Classical.byContradiction fun h => hcan ⟨HALL.out, hbn, .inl fun c hc => ?_⟩
            rw [hh0] at hc
            injection hc with hc
            subst hc
            intro e
            exact h (by rw [e]; rfl)
          have q2 : (!s.toList == [48]) = true := by
            have : (s.toList == [48]) = false := beq_eq_false_iff_ne.2 fun e => hcan ⟨HALL.out, hbn, .inr (by rw [← Lib.toList_data]; exact e)⟩
            rw [this]; rfl
          clear hcan hh0 hbn hp
          go_wp2
          go_ret2
          rw [HF.out]
          exact ⟨rfl, hbi⟩
      · have he := str_nile (S := D) (by omega)
        have HF := Lib.hid (show parseL s.data.toList lo hi = (0, false) by rw [parseL, prs_none (fun h => h.1.2.1 (by rw [← HDB.out]; exact List.eq_nil_of_length_eq_zero (by show D.size = 0; omega)))]; rfl)
        go_wp2
        go_ret2
        rw [HF.out]
        exact ⟨rfl, hbi⟩
end Go.Proofs.YtjoipgekmnnlpaaGreatDoor
