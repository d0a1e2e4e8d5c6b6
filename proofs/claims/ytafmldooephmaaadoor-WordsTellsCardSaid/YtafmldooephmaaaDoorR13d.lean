/- Walks of the reference pouchref13: plain, Encode. -/
import Derived.Test.YtafmldooephmaaaDoorWd7
import Derived.Test.YtafmldooephmaaaDoorR04f
import Derived.Test.YtafmldooephmaaaDoorRef6c
namespace Go.Proofs.YtafmldooephmaaaDoor
open Go.RowKit Pk U8 Cs Wd

/-- the reference's test, byte by byte: the byte ahead, if there is one -/
def plainFrom : Option UInt8 → List UInt8 → Bool
  | _, [] => true
  | p, c :: r => okB c && !(p == some 61 && c == 63) && plainFrom (some c) r
theorem plainFrom_eq : ∀ (l : List UInt8) (p : Option UInt8), plainFrom p l = (l.all okB && noEq l && !(p == some 61 && l.head? == some 63))
  | [], p => by cases p <;> simp [plainFrom, noEq]
  | [c], p => by
    have e : plainFrom p [c] = (okB c && !(p == some 61 && c == 63) && true) := rfl
    rw [e]
    simp [noEq]
  | c :: d :: r, p => by
    have ih := plainFrom_eq (d :: r) (some c)
    have e : plainFrom p (c :: d :: r) = (okB c && !(p == some 61 && c == 63) && plainFrom (some c) (d :: r)) := rfl
    have e2 : noEq (c :: d :: r) = (!(c == 61 && d == 63) && noEq (d :: r)) := rfl
    have e3 : (c :: d :: r).all okB = (okB c && (d :: r).all okB) := rfl
    rw [e, ih, e2, e3]
    simp only [List.head?_cons]
    have e4 : (some c == some (61 : UInt8)) = (c == 61) := rfl
    have e5 : (some d == some (63 : UInt8)) = (d == 63) := rfl
    have e6 : (some c == some (63 : UInt8)) = (c == 63) := rfl
    rw [e4, e5, e6]
    generalize okB c = a1
    generalize (p == some 61) = a2
    generalize (c == 63) = a3
    generalize (d :: r).all okB = a4
    generalize noEq (d :: r) = a5
    generalize (c == 61) = a6
    generalize (d == 63) = a7
    cases a1 <;> cases a2 <;> cases a3 <;> cases a4 <;> cases a5 <;> cases a6 <;> cases a7 <;> rfl
theorem plain_from (l : List UInt8) : plainFrom none l = plainS l := by
  rw [plainFrom_eq]
  unfold plainS
  simp [Bool.and_comm]
def prev (s : ByteArray) (i : Nat) : Option UInt8 := if h : 0 < i ∧ i ≤ s.size then some (s[i - 1]'(by omega)) else none
theorem prev_step {s : ByteArray} {i : Nat} {X : Bool} (h : Hid (plainFrom (prev s i) (tl s i) = X)) (hi : i < s.size) :
    (okB s[i] = true → (∀ h0 : 0 < i, ¬ (s[i - 1] = 61 ∧ s[i] = 63)) → Hid (plainFrom (prev s (i + 1)) (tl s (i + 1)) = X)) ∧ (okB s[i] = false ∨ (∃ h0 : 0 < i, s[i - 1] = 61 ∧ s[i] = 63) → X = false) := by
  have e := h.out
  have e2 : plainFrom (prev s i) (s[i] :: tl s (i + 1)) = (okB s[i] && !(prev s i == some 61 && s[i] == 63) && plainFrom (some s[i]) (tl s (i + 1))) := rfl
  have e3 : prev s (i + 1) = some s[i] := by
    unfold prev
    rw [dif_pos ⟨by omega, by omega⟩]
    simp
  rw [tl_cons s i hi, e2] at e
  refine ⟨fun h1 h2 => ?_, fun h1 => ?_⟩
  · have h3 : (prev s i == some 61 && s[i] == 63) = false := by
      unfold prev
      split
      · rename_i hx
        have := h2 hx.1
        rw [Bool.and_eq_false_iff]
        by_cases ha : s[i - 1] = 61
        · exact .inr (beq_eq_false_iff_ne.2 fun hb => this ⟨ha, hb⟩)
        · refine .inl ?_
          simp [ha]
      · rfl
    rw [h1, h3] at e
    show _ = _
    rw [e3]
    simpa using e
  · rcases h1 with h1 | ⟨h0, h1, h2⟩
    · rw [h1] at e
      simpa using e.symm
    · have h3 : (prev s i == some 61 && s[i] == 63) = true := by
        unfold prev
        rw [dif_pos ⟨h0, by omega⟩, h1, h2]
        rfl
      rw [h3] at e
      simpa using e.symm
theorem ext2_at (s : ByteArray) (i : Nat) (h0 : 0 < i) (h : i < s.size) : ((s.extract (i - 1) (i + 1)).toList == [61, 63]) = (s[i - 1] == 61 && s[i] == 63) := by
  obtain ⟨j, rfl⟩ : ∃ j, i = j + 1 := ⟨i - 1, by omega⟩
  have e : (s.extract j (j + 2)).toList = [s[j], s[j + 1]] := by
    rw [Lib.toList_data]
    have h1 : (s.extract j (j + 2)).data.toList = (s.data.toList.drop j).take (j + 2 - j) := by rw [← Lib.extract_toList, Lib.toList_data]
    rw [h1, show j + 2 - j = 2 by omega]
    have h2 : s.data.toList.drop j = tl s j := rfl
    rw [h2, tl_cons s j (by omega), tl_cons s (j + 1) h]
    rfl
  show ((s.extract j (j + 2)).toList == [61, 63]) = _
  rw [e]
  simp [List.cons_beq_cons]
theorem okB_f {c : UInt8} (h : okB c = false) : c.toNat < 32 ∨ 126 < c.toNat := by
  unfold okB at h
  rw [Bool.and_eq_false_iff, decide_eq_false_iff_not, decide_eq_false_iff_not] at h
  omega
theorem okB_t {c : UInt8} (h : okB c = true) : 32 ≤ c.toNat ∧ c.toNat ≤ 126 := by
  unfold okB at h
  simpa using h
set_option maxHeartbeats 2000000 in
set_option maxRecDepth 100000 in
theorem plainR13_any (s : ByteArray) (w : World) (hs : s.size ≤ 10000000) : Calls Tryd.prog 28 #[.string s] w fun e w' => e = .returned (.bool (plainS s.data.toList)) ∧ w = w' := by
  have hz : Hid (plainFrom (prev s 0) (tl s 0) = plainS s.data.toList) := by
    show _ = _
    rw [tl_zero]
    exact plain_from _
  generalize plainS s.data.toList = X at hz ⊢
  go_enter Tryd.func28, Tryd.ntmps28
  go_wp2
  go_loopw [3] (fun iv wi => ∃ (i : Nat), iv = .int .i64 i ∧ wi = w ∧ i ≤ s.size ∧ Hid (plainFrom (prev s i) (tl s i) = X)) (fun iv _ => s.size - (intOf iv).toNat)
  case atStart => exact ⟨0, by first | rfl | trivial, rfl, by omega, hz⟩
  case round =>
    clear hz
    obtain ⟨i, rfl, rfl, hi, hrel⟩ := hrel
    by_cases hlt : i < s.size
    · obtain ⟨st, bad⟩ := prev_step hrel hlt
      cases hok : okB s[i] with
      | false =>
        obtain rfl := bad (.inl hok)
        have hb := okB_f hok
        clear st bad hrel hok
        rcases hb with hb | hb
        · go_wp2
          go_ret
          exact ⟨rfl, rfl⟩
        · have hb2 : ¬ s[i].toNat < 32 := by omega
          go_wp2
          go_ret
          exact ⟨rfl, rfl⟩
      | true =>
        obtain ⟨o1, o2⟩ := okB_t hok
        by_cases h0 : 0 < i
        · have hx := ext2_at s i h0 hlt
          have hsz : i - 1 < s.size := by omega
          have hi1 : ((i - 1 : Nat) : Int) = (i : Int) - 1 := by omega
          cases hq : (s[i - 1] == 61 && s[i] == 63) with
          | true =>
            rw [hq] at hx
            have hq2 := hq
            rw [Bool.and_eq_true, beq_iff_eq, beq_iff_eq] at hq2
            obtain rfl := bad (.inr ⟨h0, hq2⟩)
            clear st bad hrel hok hq hq2
            go_wp2
            go_ret
            exact ⟨rfl, rfl⟩
          | false =>
            rw [hq] at hx
            have hd := st hok fun _ hh => by
              rw [hh.1, hh.2] at hq
              cases hq
            clear st bad hrel hok hq
            go_wp2
            go_roundw
            case rel => exact ⟨i + 1, by go_num, by first | rfl | trivial, by omega, hd⟩
            case measure => simp [intOf]; omega
        · have hd := st hok fun h => absurd h h0
          clear st bad hrel hok
          go_wp2
          go_roundw
          case rel => exact ⟨i + 1, by go_num, by first | rfl | trivial, by omega, hd⟩
          case measure => simp [intOf]; omega
    · have e := hrel.out
      rw [tl_end s i (by omega)] at e
      obtain rfl : X = true := e.symm
      clear hrel e
      go_wp2
      go_ret
      exact ⟨rfl, rfl⟩
def preJ (L : List (List UInt8)) : List UInt8 := L.flatMap fun w => wrapW w ++ [32]
theorem preJ_snoc (L : List (List UInt8)) (d : List UInt8) : preJ (L ++ [d]) = preJ L ++ (wrapW d ++ [32]) := by unfold preJ; rw [List.flatMap_append, List.flatMap_singleton]
theorem joinW_snoc : ∀ (L : List (List UInt8)) (d : List UInt8), joinW (L ++ [d]) = preJ L ++ wrapW d
  | [], d => rfl
  | [w], d => by
    show wrapW w ++ 32 :: wrapW d = (wrapW w ++ [32] ++ []) ++ wrapW d
    simp
  | w :: v :: r, d => by
    have ih := joinW_snoc (v :: r) d
    have e : joinW ((w :: v :: r) ++ [d]) = wrapW w ++ 32 :: joinW ((v :: r) ++ [d]) := rfl
    have e2 : preJ (w :: v :: r) = (wrapW w ++ [32]) ++ preJ (v :: r) := rfl
    rw [e, ih, e2]
    simp
theorem ba_ofD {S : ByteArray} {l : List UInt8} (h : S.data.toList = l) : (⟨l.toArray⟩ : ByteArray) = S := by
  subst h
  rfl
set_option maxRecDepth 100000 in
theorem runeR4_any (n : Nat) (w : World) (h : Sca n) : Calls Tryd.prog 31 #[.int .i64 n] w fun e w' => e = .returned (.string ⟨(Lib.encodeRune (n : Int)).toArray⟩) ∧ Below w.heap.size w w' := by
  have hS := fun w => sign_any (n : Int) w
  rw [sign_of h] at hS
  have hL := fun w => laid_any n w h
  have hl4 := (enc_len n).2
  have hcv := fun w : World => run_string_lit (P := Tryd.prog) w (ts := 9) bsl04 Tryd.underlying9 (Lib.encodeRune (n : Int)) (Lib.encodeRune (n : Int)).length rfl (by omega)
  unfold Laid at hL
  generalize Lib.encodeRune (n : Int) = L at hL hcv ⊢
  have HS := Lib.hid hS
  have HL := Lib.hid hL
  clear hS hL hl4
  have tb : Below w.heap.size w (w.alloc (.cells (Lib.byteCells L).toArray 5)) := (Below.refl _ _).alloc (Nat.le_refl _) _
  go_enter Tryd.func31, Tryd.ntmps31
  go_wp2_with (first
    | (go_at_call 55; (with_reducible refine (HS.out _).mono ?_); rintro e w3 ⟨rfl, rfl⟩)
    | (go_at_call 46; (with_reducible refine (HL.out _).mono ?_); rintro e w3 ⟨rfl, rfl⟩))
  go_ret
  exact ⟨rfl, tb⟩
set_option maxHeartbeats 4000000 in
set_option maxRecDepth 100000 in
theorem encodeR13_any (s : ByteArray) (w : World) (hs : s.size ≤ 700000) : Calls Tryd.prog 12 #[.string s] w fun e w' => e = .returned (.string ⟨(encW s.data.toList).toArray⟩) ∧ Below w.heap.size w w' := by
  have hp := fun w => plainR13_any s w (by omega)
  cases hpl : plainS s.data.toList with
  | true =>
    rw [hpl] at hp
    have HP := Lib.hid hp
    have he : encW s.data.toList = s.data.toList := by unfold encW; rw [if_pos hpl]
    rw [he]
    clear hp hpl he
    go_enter Tryd.func12, Tryd.ntmps12
    go_wp2_with (go_at_call 28; (with_reducible refine (HP.out _).mono ?_); rintro e w1 ⟨rfl, rfl⟩)
    go_ret
    exact ⟨rfl, Below.refl _ _⟩
  | false =>
    rw [hpl] at hp
    have HP := Lib.hid hp
    have he : encW s.data.toList = joinW (wordsL s.data.toList) := by unfold encW; rw [if_neg (by rw [hpl]; decide)]
    have hne : 0 < (runesZ s.data.toList).length := by
      rcases Nat.eq_zero_or_pos s.size with h0 | h0
      · have : s.data.toList = [] := List.eq_nil_of_length_eq_zero h0
        rw [this] at hpl
        cases hpl
      · have hl : s.data.toList ≠ [] := fun e => by have : s.data.toList.length = s.size := rfl; rw [e] at this; simp at this; omega
        unfold runesZ
        rw [walk_cons _ _ hl]
        simp
    have hlen := runesZ_length s.data.toList
    have hmem := runesZ_mem s.data.toList
    have hpk : Hid (([] : List (List UInt8)) ++ pack [] (((runesZ s.data.toList).drop 0).map qZ) = wordsL s.data.toList) := by
      show _ = _
      rw [List.drop_zero, qZ_map]; rfl
    have hR := fun w' => runesR_any s w' (by omega)
    unfold RunesIs at hR
    obtain ⟨ns, hns⟩ : ∃ ns, ns = runesZ s.data.toList := ⟨_, rfl⟩
    rw [← hns] at hne hlen hmem hpk hR
    rw [he]
    obtain ⟨W, hW⟩ : ∃ W, W = wordsL s.data.toList := ⟨_, rfl⟩
    rw [← hW] at hpk ⊢
    have HR := Lib.hid hR
    have HM := Lib.hid hmem
    have hnl : ns.length ≤ 700000 := by have : s.data.toList.length = s.size := rfl; omega
    clear hp hpl he hR hmem hlen hns hW
    go_enter Tryd.func12, Tryd.ntmps12
    go_wp2_with (first
      | (go_at_call 28; (with_reducible refine (HP.out _).mono ?_); rintro e w1 ⟨rfl, rfl⟩)
      | (go_at_call 29; (with_reducible refine (HR.out _).mono ?_); rintro e w2 ⟨v, rfl, hown, hb2⟩; rcases hown.form with ⟨h1, h2⟩ | ⟨g, cap, rfl, hBg, hlc, hcm, hcells⟩; (exact absurd (h2 ▸ hne) (by simp))))
    have HC := Lib.hid hcells
    have hz2 := hb2.size
    clear hown hcells hBg hlc hcm
    go_loopw [3, 4, 6] (fun ov dv iv wr => ∃ (k : Nat) (L : List (List UInt8)) (O D : ByteArray), iv = .int .i64 k ∧ ov = .string O ∧ dv = .string D ∧ Below w2.heap.size w2 wr ∧ k ≤ ns.length ∧ O.size ≤ 76 * k ∧ D.size ≤ 63 ∧ Hid (O.data.toList = preJ L ∧ L ++ pack D.data.toList ((ns.drop k).map qZ) = W)) (fun _ _ iv _ => ns.length - (intOf iv).toNat)
    case atStart => exact ⟨0, [], ⟨#[]⟩, ⟨#[]⟩, by first | rfl | trivial, rfl, rfl, Below.refl _ _, by omega, by decide, by decide, ⟨rfl, hpk.out⟩⟩
    case round =>
      obtain ⟨k, L, O, D, rfl, rfl, rfl, hbel, hk, hO, hD, hrel⟩ := hrel
      have hsz := hbel.size
      have hrO := hrel.out.1
      have hrP : Hid (L ++ pack D.data.toList ((ns.drop k).map qZ) = W) := hrel.out.2
      clear hrel
      by_cases hlt : k < ns.length
      · have hc := cell_later hbel (HC.out k hlt)
        obtain ⟨m, hm, hsm⟩ := HM.out ns[k] (List.getElem_mem _)
        have hpn := pk_new hrP hlt
        have hpa := pk_add hrP hlt
        rw [hm] at hc hpn hpa
        obtain ⟨E, hE, hEl, hEs⟩ := arr_ex (Lib.encodeRune (m : Int))
        have hrn := fun w => runeR4_any m w hsm
        rw [← hE] at hrn
        have hE4 : E.size ≤ 4 := by have := (enc_len m).2; omega
        have hq := fun w => qR_any E w (by omega)
        have hqe : C6.qR E.data.toList = qZ (m : Int) := by rw [hEl]; rfl
        rw [hqe] at hq
        obtain ⟨Q, hQ, hQl, hQs⟩ := arr_ex (qZ (m : Int))
        rw [← hQ] at hq
        rw [← hQl] at hpn hpa
        have hQ12 : Q.size ≤ 12 := by
          have := qF_len m
          have e : qF m = qZ (m : Int) := rfl
          rw [e] at this; omega
        have HRN := Lib.hid hrn
        have HQ := Lib.hid hq
        have hDl : D.data.toList.length = D.size := rfl
        have hQl2 : Q.data.toList.length = Q.size := rfl
        rw [hDl, hQl2] at hpn hpa
        have hemp : ((⟨#[]⟩ : ByteArray) ++ Q).data.toList = Q.data.toList := by rw [data_app]; rfl
        have hempS : ((⟨#[]⟩ : ByteArray) ++ Q).size = Q.size := emp_size Q
        have hadd : (D ++ Q).data.toList = D.data.toList ++ Q.data.toList := data_app D Q
        have haddS : (D ++ Q).size = D.size + Q.size := ByteArray.size_append
        have p1 : (O ++ (⟨#[61, 63, 117, 116, 102, 45, 56, 63, 81, 63]⟩ : ByteArray)).size = O.size + 10 := ByteArray.size_append
        have p2 : (O ++ (⟨#[61, 63, 117, 116, 102, 45, 56, 63, 81, 63]⟩ : ByteArray) ++ D).size = O.size + 10 + D.size := by rw [ByteArray.size_append, p1]
        have p3 : (O ++ (⟨#[61, 63, 117, 116, 102, 45, 56, 63, 81, 63]⟩ : ByteArray) ++ D ++ (⟨#[63, 61, 32]⟩ : ByteArray)).size = O.size + 10 + D.size + 3 := by rw [ByteArray.size_append, p2]; rfl
        clear hrP hm hsm hE hEl hEs hrn hq hqe hQ hQl hQs hDl hQl2
        by_cases hgt : 63 < D.size + Q.size
        · have hd := hpn hgt
          rw [← hemp] at hd
          have HD : Hid ((O ++ (⟨#[61, 63, 117, 116, 102, 45, 56, 63, 81, 63]⟩ : ByteArray) ++ D ++ (⟨#[63, 61, 32]⟩ : ByteArray)).data.toList = preJ (L ++ [D.data.toList]) ∧ (L ++ [D.data.toList]) ++ pack ((⟨#[]⟩ : ByteArray) ++ Q).data.toList ((ns.drop (k + 1)).map qZ) = W) := by
            refine ⟨?_, hd.out⟩
            rw [preJ_snoc, data_app, data_app, data_app, hrO]
            unfold wrapW
            simp
          clear hpn hpa hd hadd haddS hemp hrO
          go_wp2_with (first
            | (go_at_call 31; (with_reducible refine (HRN.out _).mono ?_); rintro e w3 ⟨rfl, hb3⟩; have hbel3 := hbel.trans (hb3.mono hsz))
            | (go_at_call 30; (with_reducible refine (HQ.out _).mono ?_); rintro e w4 ⟨rfl, hb4⟩; have hbel1 := hbel3.trans (hb4.mono hbel3.size)))
          go_roundw
          case rel => exact ⟨k + 1, _, _, _, by go_num, rfl, rfl, hbel1, by omega, by omega, by rw [hempS]; omega, HD⟩
          case measure => simp [intOf]; omega
        · have hd := hpa hgt
          rw [← hadd] at hd
          have HD : Hid (O.data.toList = preJ L ∧ L ++ pack (D ++ Q).data.toList ((ns.drop (k + 1)).map qZ) = W) := ⟨hrO, hd.out⟩
          clear hpn hpa hadd hemp hempS hd hrO p1 p2 p3
          go_wp2_with (first
            | (go_at_call 31; (with_reducible refine (HRN.out _).mono ?_); rintro e w3 ⟨rfl, hb3⟩; have hbel3 := hbel.trans (hb3.mono hsz))
            | (go_at_call 30; (with_reducible refine (HQ.out _).mono ?_); rintro e w4 ⟨rfl, hb4⟩; have hbel1 := hbel3.trans (hb4.mono hbel3.size)))
          go_roundw
          case rel => exact ⟨k + 1, _, _, _, by go_num, rfl, rfl, hbel1, by omega, by omega, by rw [haddS]; omega, HD⟩
          case measure => simp [intOf]; omega
      · have he := pk_end hrP hlt
        have p1 : (O ++ (⟨#[61, 63, 117, 116, 102, 45, 56, 63, 81, 63]⟩ : ByteArray)).size = O.size + 10 := ByteArray.size_append
        have p2 : (O ++ (⟨#[61, 63, 117, 116, 102, 45, 56, 63, 81, 63]⟩ : ByteArray) ++ D).size = O.size + 10 + D.size := by rw [ByteArray.size_append, p1]
        have HD : Hid ((⟨(joinW W).toArray⟩ : ByteArray) = O ++ (⟨#[61, 63, 117, 116, 102, 45, 56, 63, 81, 63]⟩ : ByteArray) ++ D ++ (⟨#[63, 61]⟩ : ByteArray)) := by
          show _ = _
          refine ba_ofD ?_
          rw [← he, joinW_snoc, data_app, data_app, data_app, hrO]
          unfold wrapW
          simp
        have hb3 := hb2.trans (hbel.mono hz2)
        clear hrP he hrO
        go_wp2
        go_ret
        exact ⟨by rw [HD.out]; rfl, hb3⟩
end Go.Proofs.YtafmldooephmaaaDoor
