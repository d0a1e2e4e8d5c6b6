/- Walks: the law FoldGlob. -/
import Derived.Test.YtlbnhkojfefccaaDoorLaw5
import Derived.Test.YtlbnhkojfefccaaDoorFdO
import Derived.Test.YtlbnhkojfefccaaDoorR05m
namespace Go.Proofs.YtlbnhkojfefccaaDoor
open Go.RowKit Pk U8 Su Fo

theorem drop_cons {α : Type} {l : List α} {k : Nat} {o : α} {r : List α} (h : l.drop k = o :: r) : ∃ hk : k < l.length, l[k] = o ∧ l.drop (k + 1) = r := by
  have hk : k < l.length := by
    by_cases hk : k < l.length
    · exact hk
    · rw [List.drop_eq_nil_of_le (by omega)] at h; cases h
  rw [List.drop_eq_getElem_cons hk] at h
  injection h with h1 h2
  exact ⟨hk, h1, h2⟩
/-- where the law's loop stands -/
structure At5 (M : List El) (out : List ByteArray) (i k : Nat) (B A : List UInt8) : Prop where
  b : B ++ bk (M.drop i) (out.drop k) = bk M out
  a : A ++ al (M.drop i) (out.drop k) = al M out
  o : okM (M.drop i) (out.drop k) = true
theorem at_start {M : List El} {out : List ByteArray} (h : okM M out = true) : At5 M out 0 0 [] [] := ⟨rfl, rfl, h⟩
theorem bk_lit {x : El} (m : List El) (out : List ByteArray) (h : x.kind = 0) : bk (x :: m) out = x.text.data.toList ++ bk m out := by
  conv => lhs; unfold bk
  rw [if_pos h]
theorem al_lit {x : El} (m : List El) (out : List ByteArray) (h : x.kind = 0) : al (x :: m) out = al m out := by
  conv => lhs; unfold al
  rw [if_pos h]
theorem ok_lit {x : El} (m : List El) (out : List ByteArray) (h : x.kind = 0) : okM (x :: m) out = okM m out := by
  conv => lhs; unfold okM
  rw [if_pos h]
theorem bk_take {x : El} (m : List El) (o : ByteArray) (r : List ByteArray) (h : x.kind ≠ 0) : bk (x :: m) (o :: r) = o.data.toList ++ bk m r := by
  conv => lhs; unfold bk
  rw [if_neg h]
theorem al_take {x : El} (m : List El) (o : ByteArray) (r : List ByteArray) (h : x.kind ≠ 0) : al (x :: m) (o :: r) = o.data.toList ++ al m r := by
  conv => lhs; unfold al
  rw [if_neg h]
theorem ok_take {x : El} (m : List El) (o : ByteArray) (r : List ByteArray) (h : x.kind ≠ 0) : okM (x :: m) (o :: r) = ((decide (x.kind ≠ 1) || decide ((unitsB o.data.toList).length = 1)) && okM m r) := by
  conv => lhs; unfold okM
  rw [if_neg h]
theorem ok_nil {x : El} (m : List El) (h : x.kind ≠ 0) : okM (x :: m) [] = false := by
  conv => lhs; unfold okM
  rw [if_neg h]
theorem at_lit {M : List El} {out : List ByteArray} {i k : Nat} {B A : List UInt8} (h : At5 M out i k B A) (hi : i < M.length) (h0 : M[i].kind = 0) : At5 M out (i + 1) k (B ++ M[i].text.data.toList) A := by
  obtain ⟨hb, ha, ho⟩ := h
  rw [List.drop_eq_getElem_cons hi] at hb ha ho
  rw [bk_lit _ _ h0] at hb
  rw [al_lit _ _ h0] at ha
  rw [ok_lit _ _ h0] at ho
  exact ⟨by rw [List.append_assoc]; exact hb, ha, ho⟩
theorem at_take {M : List El} {out : List ByteArray} {i k : Nat} {B A : List UInt8} (h : At5 M out i k B A) (hi : i < M.length) (h0 : M[i].kind ≠ 0) :
    ∃ hk : k < out.length, (M[i].kind = 1 → (unitsB out[k].data.toList).length = 1) ∧ At5 M out (i + 1) (k + 1) (B ++ out[k].data.toList) (A ++ out[k].data.toList) := by
  obtain ⟨hb, ha, ho⟩ := h
  rw [List.drop_eq_getElem_cons hi] at hb ha ho
  cases hd : out.drop k with
  | nil => rw [hd, ok_nil _ h0] at ho; cases ho
  | cons o r =>
    rw [hd] at hb ha ho
    rw [bk_take _ _ _ h0] at hb
    rw [al_take _ _ _ h0] at ha
    rw [ok_take _ _ _ h0] at ho
    obtain ⟨hk, e1, e2⟩ := drop_cons hd
    have ho2 := ho
    rw [Bool.and_eq_true, Bool.or_eq_true, decide_eq_true_eq, decide_eq_true_eq] at ho2
    refine ⟨hk, fun h1 => ?_, ?_, ?_, ?_⟩
    · rw [e1]
      rcases ho2.1 with h | h
      · exact absurd h1 h
      · exact h
    · rw [e1, e2, List.append_assoc]; exact hb
    · rw [e1, e2, List.append_assoc]; exact ha
    · rw [e2]; exact ho2.2
theorem at_end {M : List El} {out : List ByteArray} {i k : Nat} {B A : List UInt8} (h : At5 M out i k B A) (hi : ¬ i < M.length) (hk : k ≤ out.length) : k = out.length ∧ B = bk M out ∧ A = al M out := by
  obtain ⟨hb, ha, ho⟩ := h
  rw [List.drop_eq_nil_of_le (show M.length ≤ i by omega)] at hb ha ho
  have : (out.drop k).isEmpty = true := ho
  rw [List.isEmpty_iff, List.drop_eq_nil_iff] at this
  refine ⟨by omega, ?_, ?_⟩
  · rw [← hb]; simp [bk]
  · rw [← ha]; simp [al]
set_option maxHeartbeats 4000000 in
set_option maxRecDepth 100000 in
theorem glob5_any (comp : Int) (pat s : ByteArray) (w : World) (h : Rd w) : Calls Tryd.prog 4 #[.int .i64 comp, .string pat, .string s] w fun e w' => e = .returned (.bool true) ∧ Below w.heap.size w w' := by
  have HS := Lib.hid (fun w' (hb : Below w.heap.size w w') => small_any w' (h.later hb))
  have hFW := fun w' => few_any s pat w'
  have tb := Below.refl w.heap.size w
  by_cases hf : s.size ≤ 300 ∧ pat.size ≤ 60
  · have hfb : (decide (s.size ≤ 300) && decide (pat.size ≤ 60)) = true := by rw [decide_eq_true hf.1, decide_eq_true hf.2]; rfl
    rw [hfb] at hFW
    have HFW := Lib.hid hFW
    obtain ⟨ls, lp⟩ := hf
    have hG := fun w' (hb : Below w.heap.size w w') => glob_rd comp pat s w' (h.later hb) (by omega) (by omega)
    cases hR : globR comp pat.data.toList s.data.toList with
    | none =>
      rw [hR] at hG
      have HG := Lib.hid hG
      clear hG hR hFW hfb h
      go_enter Tryd.func4, Tryd.ntmps4
      go_wp2_with (first
        | (go_at_call 8; (with_reducible refine (HS.out _ tb).mono ?_); rintro e w1 ⟨rfl, hb1⟩; have tb := tb.trans (hb1.mono tb.size))
        | (go_at_call 18; (with_reducible refine (HFW.out _).mono ?_); rintro e w2 ⟨rfl, rfl⟩)
        | (go_at_call 19; (with_reducible refine (HG.out _ tb).mono ?_); rintro e w3 ⟨rfl, hb3⟩; have tb := tb.trans (hb3.mono tb.size)))
      go_ret
      exact ⟨rfl, tb⟩
    | some out =>
      have hc3 : comp ≠ 3 := fun e => by
        unfold globR at hR
        rw [if_pos e] at hR; cases hR
      have hgl : globL comp pat.data.toList s.data.toList = some out := by
        unfold globR at hR
        rwa [if_neg hc3] at hR
      obtain ⟨k1, k2, k3, k4⟩ := glob_law hgl
      rw [hR] at hG
      have hM := fun w' => marks_any pat w' (by omega)
      have hml := parse_length (unitsB pat.data.toList)
      have hml2 := units_length pat.data.toList
      have hpz : pat.data.toList.length = pat.size := rfl
      have hsz : s.data.toList.length = s.size := rfl
      generalize parseL (unitsB pat.data.toList) = M at k1 k2 k3 k4 hM hml
      have hMl : M.length ≤ 100 := by omega
      have hat := Lib.hid (at_start k1)
      have hend : ∀ (B A : ByteArray), B.data.toList = bk M out → A.data.toList = al M out → Hid (B.size = s.size ∧ A.size ≤ s.size ∧ ∀ w', Below w.heap.size w w' → Calls Tryd.prog 16 #[.int .i64 comp, .string B, .string s] w' fun e w'' => e = .returned (.int .i64 0) ∧ Below w'.heap.size w' w'') := fun B A hB hA => by
        have hBs : B.size = s.size := by rw [← size_l, hB, k3, hsz]
        refine ⟨hBs, by rw [← size_l, hA]; omega, fun w' hb => ?_⟩
        have hO := order_rd comp B s w' (h.later hb) (by omega) (by omega)
        rw [hB, ord_same hc3 k2] at hO
        exact hO
      have hUn := fun (u : ByteArray) (hu : u.size ≤ 300) w' => unitsP_any u w' (by omega)
      have HEND := Lib.hid hend
      have HG := Lib.hid hG
      have HM := Lib.hid hM
      have HUN := Lib.hid hUn
      have HK := Lib.hid (show (bk M out).length ≤ 300 ∧ (al M out).length ≤ 300 by omega)
      clear hend hG hM hUn hFW hfb hgl hR k1 k2 k3 k4 hml hml2 hpz hsz h hc3
      go_enter Tryd.func4, Tryd.ntmps4
      go_upto_region 9 with (first
        | (go_at_call 8; (with_reducible refine (HS.out _ tb).mono ?_); rintro e w1 ⟨rfl, hb1⟩; have tb := tb.trans (hb1.mono tb.size))
        | (go_at_call 18; (with_reducible refine (HFW.out _).mono ?_); rintro e w2 ⟨rfl, rfl⟩)
        | (go_at_call 19; (with_reducible refine (HG.out _ tb).mono ?_); rintro e w3 ⟨v3, rfl, hown3, hb3⟩; have tb := tb.trans (hb3.mono tb.size); obtain ⟨pl, cl, rfl, hcl, hsl⟩ := ownsS.seesS hown3)
        | (go_at_call 20; (with_reducible refine (HM.out _).mono ?_); rintro e w4 ⟨v4, rfl, hown4, hb4⟩; have tb := tb.trans (hb4.mono tb.size); obtain ⟨pm, cm, rfl, hcm, hsm⟩ := (ownsE.sees hown4 (Nat.le_refl _)).form))
      have hsl4 : out = [] ∨ ∃ g o, pl = some ⟨g, o, none⟩ ∧ ∀ j (hj : j < out.length), w4.cell? ⟨g, o + j, none⟩ = some (.string out[j]) := by
        rcases hsl with h | ⟨g, o, h1, h2⟩
        · exact .inl h
        · exact .inr ⟨g, o, h1, fun j hj => cell_later hb4 (h2 j hj)⟩
      have HSL := Lib.hid hsl4
      have HSM := Lib.hid hsm
      have hb0 := Below.refl w4.heap.size w4
      clear hsl hsl4 hsm hown3 hown4 hb3 hb4
      go_wp2
      go_loopw [12, 13, 14, 15] (fun bv av kv iv wr => ∃ (i k : Nat) (B A : ByteArray), bv = .string B ∧ av = .string A ∧ kv = .int .i64 k ∧ iv = .int .i64 i ∧ Below w4.heap.size w4 wr ∧ i ≤ M.length ∧ k ≤ out.length ∧ k ≤ i ∧ Hid (At5 M out i k B.data.toList A.data.toList)) (fun _ _ _ iv _ => M.length - (intOf iv).toNat)
      case atStart => exact ⟨0, 0, ⟨#[]⟩, ⟨#[]⟩, by first | rfl | trivial, by first | rfl | trivial, by first | rfl | trivial, by first | rfl | trivial, hb0, by omega, by omega, by omega, hat⟩
      case round =>
        clear hat hb0
        obtain ⟨i, k, B, A, rfl, rfl, rfl, rfl, hbel, hi, hk, hki, hrel⟩ := hrel
        have tbr := tb.trans (hbel.mono tb.size)
        by_cases hlt : i < M.length
        · rcases HSM.out with h0 | ⟨gm, rfl, hgm, hcm2⟩
          · rw [h0, List.length_nil] at hlt; omega
          · obtain ⟨c0, c1⟩ := hcm2 i hlt
            have c0 := cell_later hbel c0
            have c1 := cell_later hbel c1
            clear hcm2
            by_cases h0 : M[i].kind = 0
            · have hd := at_lit hrel.out hlt h0
              have hl := congrArg List.length hd.b
              have hl2 := HK.out.1
              rw [List.length_append, List.length_append, size_l, size_l] at hl
              have qk : ((M[i].kind : Int) == 0) = true := beq_iff_eq.2 (by omega)
              have HD := Lib.hid hd
              clear hd h0 hrel
              generalize M[i].kind = kd at c0 qk
              generalize M[i].text = tx at c1 HD hl
              have hsum : B.size + tx.size ≤ 300 := by omega
              clear hl hl2
              go_wp2
              go_roundw
              case rel => exact ⟨i + 1, k, B ++ tx, A, by first | rfl | trivial, by first | rfl | trivial, by first | rfl | trivial, by go_num, hbel, by omega, hk, by omega, by show At5 _ _ _ _ _ _; rw [ByteArray.data_append, Array.toList_append]; exact HD.out⟩
              case measure => simp [intOf]; omega
            · obtain ⟨hk2, h1, hd⟩ := at_take hrel.out hlt h0
              have hl := congrArg List.length hd.b
              have hl2 := HK.out.1
              rw [List.length_append, List.length_append, size_l, size_l] at hl
              have hm := congrArg List.length hd.a
              have hm2 := HK.out.2
              rw [List.length_append, List.length_append, size_l, size_l] at hm
              have qk : ((M[i].kind : Int) == 0) = false := beq_eq_false_iff_ne.2 (by omega)
              have qg : decide ((out.length : Int) ≤ (k : Int)) = false := decide_eq_false (by omega)
              rcases HSL.out with e0 | ⟨gl, ol, rfl, hcl2⟩
              · rw [e0, List.length_nil] at hk2; omega
              · have c2 := cell_later hbel (hcl2 k hk2)
                clear hcl2
                have HD := Lib.hid hd
                generalize out[k] = u at c2 HD hl hm h1
                have hsum : B.size + u.size ≤ 300 := by omega
                have hsum2 : A.size + u.size ≤ 300 := by omega
                have hus : u.size ≤ 300 := by omega
                by_cases hone : M[i].kind = 1
                · have q1 : ((M[i].kind : Int) == 1) = true := beq_iff_eq.2 (by omega)
                  have hu1 := h1 hone
                  have hun := HUN.out u hus wr
                  unfold UnitsP at hun
                  generalize unitsB u.data.toList = ul at hu1 hun
                  have HU := Lib.hid hun
                  clear hd h0 hrel h1 hl hl2 hm hm2 hone hun
                  generalize M[i].kind = kd at c0 qk q1
                  go_upto_region 19 with (go_at_call 10; (with_reducible refine HU.out.mono ?_); rintro e w5 ⟨v5, rfl, hown5, hb5⟩; obtain ⟨p5, c5, hv5, -, -⟩ := ownsS.seesS hown5; rw [hu1] at hv5; subst hv5)
                  have c2 := cell_later hb5 c2
                  have hbel5 := hbel.trans (hb5.mono hbel.size)
                  clear hown5
                  go_wp2
                  go_roundw
                  case rel => exact ⟨i + 1, k + 1, B ++ u, A ++ u, by first | rfl | trivial, by first | rfl | trivial, by go_num, by go_num, hbel5, by omega, by omega, by omega, by show At5 _ _ _ _ _ _; rw [ByteArray.data_append, Array.toList_append, ByteArray.data_append, Array.toList_append]; exact HD.out⟩
                  case measure => simp [intOf]; omega
                · have q1 : ((M[i].kind : Int) == 1) = false := beq_eq_false_iff_ne.2 (by omega)
                  clear hd h0 hrel h1 hl hl2 hm hm2 hone
                  generalize M[i].kind = kd at c0 qk q1
                  go_wp2
                  go_roundw
                  case rel => exact ⟨i + 1, k + 1, B ++ u, A ++ u, by first | rfl | trivial, by first | rfl | trivial, by go_num, by go_num, hbel, by omega, by omega, by omega, by show At5 _ _ _ _ _ _; rw [ByteArray.data_append, Array.toList_append, ByteArray.data_append, Array.toList_append]; exact HD.out⟩
                  case measure => simp [intOf]; omega
        · obtain ⟨hkl, hB, hA⟩ := at_end hrel.out hlt hk
          obtain ⟨e1, e2, e3⟩ := (HEND.out B A hB hA).out
          have HO := Lib.hid e3
          have r1 : ((k : Int) == (out.length : Int)) = true := by rw [hkl]; exact beq_self_eq_true _
          have r2 : ((B.size : Int) == (s.size : Int)) = true := by rw [e1]; exact beq_self_eq_true _
          have r3 : (A.size : Int) ≤ (s.size : Int) := by omega
          clear hkl hB hA e1 e2 e3 hrel
          go_wp2_with (go_at_call 16; (with_reducible refine (HO.out _ tbr).mono ?_); rintro e w5 ⟨rfl, hb5⟩; have tbr := tbr.trans (hb5.mono tbr.size))
          go_ret
          exact ⟨rfl, tbr⟩
  · have hfb : (decide (s.size ≤ 300) && decide (pat.size ≤ 60)) = false := by
      rw [Bool.and_eq_false_iff, decide_eq_false_iff_not, decide_eq_false_iff_not]; omega
    rw [hfb] at hFW
    have HFW := Lib.hid hFW
    clear hFW hfb h hf
    go_enter Tryd.func4, Tryd.ntmps4
    go_wp2_with (first
      | (go_at_call 8; (with_reducible refine (HS.out _ tb).mono ?_); rintro e w1 ⟨rfl, hb1⟩; have tb := tb.trans (hb1.mono tb.size))
      | (go_at_call 18; (with_reducible refine (HFW.out _).mono ?_); rintro e w2 ⟨rfl, rfl⟩))
    go_ret
    exact ⟨rfl, tb⟩
end Go.Proofs.YtlbnhkojfefccaaDoor
