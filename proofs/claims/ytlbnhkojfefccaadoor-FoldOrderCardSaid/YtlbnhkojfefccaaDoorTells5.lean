/- Walks: the laws FoldTells and FoldOrder. -/
import Derived.Test.YtlbnhkojfefccaaDoorLaw5
import Derived.Test.YtlbnhkojfefccaaDoorR05f
import Derived.Test.YtlbnhkojfefccaaDoorFdO
namespace Go.Proofs.YtlbnhkojfefccaaDoor
open Go.RowKit Pk U8 Su Fo

def Truth (w : World) (e : Ending) (w' : World) : Prop := e = .returned (.bool true) ∧ Below w.heap.size w w'
set_option maxHeartbeats 2000000 in
set_option maxRecDepth 100000 in
theorem tells_any (comp : Int) (a b : ByteArray) (w : World) (h : Rd w) : Calls Tryd.prog 3 #[.int .i64 comp, .string a, .string b] w (Truth w) := by
  have HS := Lib.hid (fun w' (hb : Below w.heap.size w w') => small_any w' (h.later hb))
  have tb := Below.refl w.heap.size w
  by_cases la : a.size ≤ 1000
  · have q1 : decide ((1000 : Int) < (a.size : Int)) = false := decide_eq_false (by omega)
    by_cases lb : b.size ≤ 1000
    · have q2 : decide ((1000 : Int) < (b.size : Int)) = false := decide_eq_false (by omega)
      have hU := fun w' => unitsP_any a w' (by omega)
      have hV := fun w' => unitsR_any a w' (by omega)
      unfold UnitsP at hU
      unfold UnitsIs at hV
      have hlen := units_length a.data.toList
      have hsz : a.data.toList.length = a.size := rfl
      have hF := fun w' (hb : Below w.heap.size w w') => fold_rd a w' (h.later hb) (by omega)
      have hG := fun w' => foldR_any a w' (by omega)
      have hE := fun w' (hb : Below w.heap.size w w') => equal_rd a b w' (h.later hb) (by omega) (by omega)
      have hD := fun w' => equalR_any a b w' (by omega) (by omega)
      have hO := fun w' (hb : Below w.heap.size w w') => order_rd comp a b w' (h.later hb) (by omega) (by omega)
      have hP := fun w' => orderR_any comp a b w' (by omega) (by omega)
      unfold eqF at hE
      generalize unitsB a.data.toList = us at hU hV hlen
      generalize (⟨(foldL a.data.toList).toArray⟩ : ByteArray) = X at hF hG
      generalize (foldL a.data.toList == foldL b.data.toList) = v at hE hD
      generalize ordL comp a.data.toList b.data.toList = z at hO hP
      have hul : us.length ≤ 1000000 := by omega
      have HU := Lib.hid hU
      have HV := Lib.hid hV
      have HF := Lib.hid hF
      have HG := Lib.hid hG
      have HE := Lib.hid hE
      have HD := Lib.hid hD
      have HO := Lib.hid hO
      have HP := Lib.hid hP
      clear hU hV hF hG hE hD hO hP h hlen hsz
      go_enter Tryd.func3, Tryd.ntmps3
      go_wp2_with (first
        | (go_at_call 8; (with_reducible refine (HS.out _ tb).mono ?_); rintro e w1 ⟨rfl, hb1⟩; have tb := tb.trans (hb1.mono tb.size))
        | (go_at_call 10; (with_reducible refine (HU.out _).mono ?_); rintro e w2 ⟨v2, rfl, hown2, hb2⟩; have tb := tb.trans (hb2.mono tb.size); have hs2 := ownsS.seesS hown2)
        | (go_at_call 11; (with_reducible refine (HV.out _).mono ?_); rintro e w3 ⟨v3, rfl, hown3, hb3⟩; have tb := tb.trans (hb3.mono tb.size); have hs3 := ownsS.seesS hown3; have hs2 := hs2.later hb3; clear hown2 hown3)
        | (go_at_call 9; (with_reducible refine (sameT_refl _ _ us _ hs2 hs3 hul).mono ?_); rintro e w5 ⟨rfl, hb5⟩; have tb := tb.trans (hb5.mono tb.size))
        | (go_at_call 12; (with_reducible refine (HF.out _ tb).mono ?_); rintro e w1 ⟨rfl, hb1⟩; have tb := tb.trans (hb1.mono tb.size))
        | (go_at_call 13; (with_reducible refine (HG.out _).mono ?_); rintro e w1 ⟨rfl, hb1⟩; have tb := tb.trans (hb1.mono tb.size))
        | (go_at_call 14; (with_reducible refine (HE.out _ tb).mono ?_); rintro e w1 ⟨rfl, hb1⟩; have tb := tb.trans (hb1.mono tb.size))
        | (go_at_call 15; (with_reducible refine (HD.out _).mono ?_); rintro e w1 ⟨rfl, hb1⟩; have tb := tb.trans (hb1.mono tb.size))
        | (go_at_call 16; (with_reducible refine (HO.out _ tb).mono ?_); rintro e w1 ⟨rfl, hb1⟩; have tb := tb.trans (hb1.mono tb.size))
        | (go_at_call 17; (with_reducible refine (HP.out _).mono ?_); rintro e w1 ⟨rfl, hb1⟩; have tb := tb.trans (hb1.mono tb.size)))
      go_ret
      exact ⟨rfl, tb⟩
    · have q2 : decide ((1000 : Int) < (b.size : Int)) = true := decide_eq_true (by omega)
      clear h
      go_enter Tryd.func3, Tryd.ntmps3
      go_wp2_with (go_at_call 8; (with_reducible refine (HS.out _ tb).mono ?_); rintro e w1 ⟨rfl, hb1⟩; have tb := tb.trans (hb1.mono tb.size))
      go_ret
      exact ⟨rfl, tb⟩
  · have q1 : decide ((1000 : Int) < (a.size : Int)) = true := decide_eq_true (by omega)
    clear h
    go_enter Tryd.func3, Tryd.ntmps3
    go_wp2_with (go_at_call 8; (with_reducible refine (HS.out _ tb).mono ?_); rintro e w1 ⟨rfl, hb1⟩; have tb := tb.trans (hb1.mono tb.size))
    go_ret
    exact ⟨rfl, tb⟩
set_option maxHeartbeats 4000000 in
set_option maxRecDepth 100000 in
theorem orders_any (comp : Int) (a b c : ByteArray) (w : World) (h : Rd w) : Calls Tryd.prog 6 #[.int .i64 comp, .string a, .string b, .string c] w (Truth w) := by
  have HS := Lib.hid (fun w' (hb : Below w.heap.size w w') => small_any w' (h.later hb))
  have tb := Below.refl w.heap.size w
  by_cases la : a.size ≤ 1000
  · have q1 : decide ((1000 : Int) < (a.size : Int)) = false := decide_eq_false (by omega)
    by_cases lb : b.size ≤ 1000
    · have q2 : decide ((1000 : Int) < (b.size : Int)) = false := decide_eq_false (by omega)
      by_cases lc : c.size ≤ 1000
      · have q3 : decide ((1000 : Int) < (c.size : Int)) = false := decide_eq_false (by omega)
        have hab := fun w' (hb : Below w.heap.size w w') => order_rd comp a b w' (h.later hb) (by omega) (by omega)
        have hbc := fun w' (hb : Below w.heap.size w w') => order_rd comp b c w' (h.later hb) (by omega) (by omega)
        have hac := fun w' (hb : Below w.heap.size w w') => order_rd comp a c w' (h.later hb) (by omega) (by omega)
        have hba := fun w' (hb : Below w.heap.size w w') => order_rd comp b a w' (h.later hb) (by omega) (by omega)
        have haa := fun w' (hb : Below w.heap.size w w') => order_rd comp a a w' (h.later hb) (by omega) (by omega)
        have h1 := fun w' (hb : Below w.heap.size w w') => holds_rd comp 1 a b w' (h.later hb) (by omega) (by omega)
        have h4 := fun w' (hb : Below w.heap.size w w') => holds_rd comp 4 a b w' (h.later hb) (by omega) (by omega)
        have h5 := fun w' (hb : Below w.heap.size w w') => holds_rd comp 5 a b w' (h.later hb) (by omega) (by omega)
        have ho := ord_ordered comp
        have t0 := ho.rng a.data.toList b.data.toList
        have t1 := ho.trans a.data.toList b.data.toList c.data.toList
        have e1 : holdsL comp 1 a.data.toList b.data.toList = (ordL comp a.data.toList b.data.toList == 0) := rfl
        have e4 : holdsL comp 4 a.data.toList b.data.toList = decide (0 < ordL comp a.data.toList b.data.toList) := rfl
        have e5 : holdsL comp 5 a.data.toList b.data.toList = decide (ordL comp a.data.toList b.data.toList < 0) := rfl
        rw [e1] at h1
        rw [e4] at h4
        rw [e5] at h5
        rw [ho.sym a.data.toList b.data.toList] at hba
        rw [ho.refl a.data.toList] at haa
        generalize ordL comp a.data.toList b.data.toList = x at hab hba h1 h4 h5 t0 t1
        generalize ordL comp b.data.toList c.data.toList = y at hbc t1
        generalize ordL comp a.data.toList c.data.toList = z at hac t1
        have HBC := Lib.hid hbc
        have HAC := Lib.hid hac
        have HAA := Lib.hid haa
        have hx : x = -1 ∨ x = 0 ∨ x = 1 := by omega
        clear hbc hac haa h e1 e4 e5 ho
        rcases hx with rfl | rfl | rfl
        · have HAB := Lib.hid hab
          have HBA := Lib.hid hba
          have H1 := Lib.hid h1
          have H4 := Lib.hid h4
          have H5 := Lib.hid h5
          clear hab hba h1 h4 h5 t0
          by_cases hy : y ≤ 0
          · have hz := t1 (by decide) hy
            have qz : decide ((0 : Int) < z) = false := decide_eq_false (by omega)
            have qz2 : (z == 0) = false := beq_eq_false_iff_ne.2 fun e => by have := (hz.2 e).1; cases this
            clear t1 hz
            go_enter Tryd.func6, Tryd.ntmps6
            go_wp2_with (first
              | (go_at_call 8; (with_reducible refine (HS.out _ tb).mono ?_); rintro e w1 ⟨rfl, hb1⟩; have tb := tb.trans (hb1.mono tb.size))
              | (go_at_call 16; (with_reducible refine (HAB.out _ tb).mono ?_); rintro e w1 ⟨rfl, hb1⟩; have tb := tb.trans (hb1.mono tb.size))
              | (go_at_call 16; (with_reducible refine (HBC.out _ tb).mono ?_); rintro e w1 ⟨rfl, hb1⟩; have tb := tb.trans (hb1.mono tb.size))
              | (go_at_call 16; (with_reducible refine (HAC.out _ tb).mono ?_); rintro e w1 ⟨rfl, hb1⟩; have tb := tb.trans (hb1.mono tb.size))
              | (go_at_call 16; (with_reducible refine (HBA.out _ tb).mono ?_); rintro e w1 ⟨rfl, hb1⟩; have tb := tb.trans (hb1.mono tb.size))
              | (go_at_call 16; (with_reducible refine (HAA.out _ tb).mono ?_); rintro e w1 ⟨rfl, hb1⟩; have tb := tb.trans (hb1.mono tb.size))
              | (go_at_call 21; (with_reducible refine (H1.out _ tb).mono ?_); rintro e w1 ⟨rfl, hb1⟩; have tb := tb.trans (hb1.mono tb.size))
              | (go_at_call 21; (with_reducible refine (H4.out _ tb).mono ?_); rintro e w1 ⟨rfl, hb1⟩; have tb := tb.trans (hb1.mono tb.size))
              | (go_at_call 21; (with_reducible refine (H5.out _ tb).mono ?_); rintro e w1 ⟨rfl, hb1⟩; have tb := tb.trans (hb1.mono tb.size)))
            go_ret
            exact ⟨rfl, tb⟩
          · have hy2 : 0 < y := by omega
            clear t1
            go_enter Tryd.func6, Tryd.ntmps6
            go_wp2_with (first
              | (go_at_call 8; (with_reducible refine (HS.out _ tb).mono ?_); rintro e w1 ⟨rfl, hb1⟩; have tb := tb.trans (hb1.mono tb.size))
              | (go_at_call 16; (with_reducible refine (HAB.out _ tb).mono ?_); rintro e w1 ⟨rfl, hb1⟩; have tb := tb.trans (hb1.mono tb.size))
              | (go_at_call 16; (with_reducible refine (HBC.out _ tb).mono ?_); rintro e w1 ⟨rfl, hb1⟩; have tb := tb.trans (hb1.mono tb.size))
              | (go_at_call 16; (with_reducible refine (HAC.out _ tb).mono ?_); rintro e w1 ⟨rfl, hb1⟩; have tb := tb.trans (hb1.mono tb.size))
              | (go_at_call 16; (with_reducible refine (HBA.out _ tb).mono ?_); rintro e w1 ⟨rfl, hb1⟩; have tb := tb.trans (hb1.mono tb.size))
              | (go_at_call 16; (with_reducible refine (HAA.out _ tb).mono ?_); rintro e w1 ⟨rfl, hb1⟩; have tb := tb.trans (hb1.mono tb.size))
              | (go_at_call 21; (with_reducible refine (H1.out _ tb).mono ?_); rintro e w1 ⟨rfl, hb1⟩; have tb := tb.trans (hb1.mono tb.size))
              | (go_at_call 21; (with_reducible refine (H4.out _ tb).mono ?_); rintro e w1 ⟨rfl, hb1⟩; have tb := tb.trans (hb1.mono tb.size))
              | (go_at_call 21; (with_reducible refine (H5.out _ tb).mono ?_); rintro e w1 ⟨rfl, hb1⟩; have tb := tb.trans (hb1.mono tb.size)))
            go_ret
            exact ⟨rfl, tb⟩
        · have HAB := Lib.hid hab
          have HBA := Lib.hid hba
          have H1 := Lib.hid h1
          have H4 := Lib.hid h4
          have H5 := Lib.hid h5
          clear hab hba h1 h4 h5 t0
          by_cases hy : y ≤ 0
          · have hz := t1 (by decide) hy
            have qz : decide ((0 : Int) < z) = false := decide_eq_false (by omega)
            by_cases hz0 : z = 0
            · obtain ⟨-, rfl⟩ := hz.2 hz0
              subst hz0
              clear t1 hz hy qz
              go_enter Tryd.func6, Tryd.ntmps6
              go_wp2_with (first
                | (go_at_call 8; (with_reducible refine (HS.out _ tb).mono ?_); rintro e w1 ⟨rfl, hb1⟩; have tb := tb.trans (hb1.mono tb.size))
                | (go_at_call 16; (with_reducible refine (HAB.out _ tb).mono ?_); rintro e w1 ⟨rfl, hb1⟩; have tb := tb.trans (hb1.mono tb.size))
                | (go_at_call 16; (with_reducible refine (HBC.out _ tb).mono ?_); rintro e w1 ⟨rfl, hb1⟩; have tb := tb.trans (hb1.mono tb.size))
                | (go_at_call 16; (with_reducible refine (HAC.out _ tb).mono ?_); rintro e w1 ⟨rfl, hb1⟩; have tb := tb.trans (hb1.mono tb.size))
                | (go_at_call 16; (with_reducible refine (HBA.out _ tb).mono ?_); rintro e w1 ⟨rfl, hb1⟩; have tb := tb.trans (hb1.mono tb.size))
                | (go_at_call 16; (with_reducible refine (HAA.out _ tb).mono ?_); rintro e w1 ⟨rfl, hb1⟩; have tb := tb.trans (hb1.mono tb.size))
                | (go_at_call 21; (with_reducible refine (H1.out _ tb).mono ?_); rintro e w1 ⟨rfl, hb1⟩; have tb := tb.trans (hb1.mono tb.size))
                | (go_at_call 21; (with_reducible refine (H4.out _ tb).mono ?_); rintro e w1 ⟨rfl, hb1⟩; have tb := tb.trans (hb1.mono tb.size))
                | (go_at_call 21; (with_reducible refine (H5.out _ tb).mono ?_); rintro e w1 ⟨rfl, hb1⟩; have tb := tb.trans (hb1.mono tb.size)))
              go_ret
              exact ⟨rfl, tb⟩
            · have qz2 : (z == 0) = false := beq_eq_false_iff_ne.2 hz0
              clear t1 hz hz0
              go_enter Tryd.func6, Tryd.ntmps6
              go_wp2_with (first
                | (go_at_call 8; (with_reducible refine (HS.out _ tb).mono ?_); rintro e w1 ⟨rfl, hb1⟩; have tb := tb.trans (hb1.mono tb.size))
                | (go_at_call 16; (with_reducible refine (HAB.out _ tb).mono ?_); rintro e w1 ⟨rfl, hb1⟩; have tb := tb.trans (hb1.mono tb.size))
                | (go_at_call 16; (with_reducible refine (HBC.out _ tb).mono ?_); rintro e w1 ⟨rfl, hb1⟩; have tb := tb.trans (hb1.mono tb.size))
                | (go_at_call 16; (with_reducible refine (HAC.out _ tb).mono ?_); rintro e w1 ⟨rfl, hb1⟩; have tb := tb.trans (hb1.mono tb.size))
                | (go_at_call 16; (with_reducible refine (HBA.out _ tb).mono ?_); rintro e w1 ⟨rfl, hb1⟩; have tb := tb.trans (hb1.mono tb.size))
                | (go_at_call 16; (with_reducible refine (HAA.out _ tb).mono ?_); rintro e w1 ⟨rfl, hb1⟩; have tb := tb.trans (hb1.mono tb.size))
                | (go_at_call 21; (with_reducible refine (H1.out _ tb).mono ?_); rintro e w1 ⟨rfl, hb1⟩; have tb := tb.trans (hb1.mono tb.size))
                | (go_at_call 21; (with_reducible refine (H4.out _ tb).mono ?_); rintro e w1 ⟨rfl, hb1⟩; have tb := tb.trans (hb1.mono tb.size))
                | (go_at_call 21; (with_reducible refine (H5.out _ tb).mono ?_); rintro e w1 ⟨rfl, hb1⟩; have tb := tb.trans (hb1.mono tb.size)))
              go_ret
              exact ⟨rfl, tb⟩
          · have hy2 : 0 < y := by omega
            clear t1
            go_enter Tryd.func6, Tryd.ntmps6
            go_wp2_with (first
              | (go_at_call 8; (with_reducible refine (HS.out _ tb).mono ?_); rintro e w1 ⟨rfl, hb1⟩; have tb := tb.trans (hb1.mono tb.size))
              | (go_at_call 16; (with_reducible refine (HAB.out _ tb).mono ?_); rintro e w1 ⟨rfl, hb1⟩; have tb := tb.trans (hb1.mono tb.size))
              | (go_at_call 16; (with_reducible refine (HBC.out _ tb).mono ?_); rintro e w1 ⟨rfl, hb1⟩; have tb := tb.trans (hb1.mono tb.size))
              | (go_at_call 16; (with_reducible refine (HAC.out _ tb).mono ?_); rintro e w1 ⟨rfl, hb1⟩; have tb := tb.trans (hb1.mono tb.size))
              | (go_at_call 16; (with_reducible refine (HBA.out _ tb).mono ?_); rintro e w1 ⟨rfl, hb1⟩; have tb := tb.trans (hb1.mono tb.size))
              | (go_at_call 16; (with_reducible refine (HAA.out _ tb).mono ?_); rintro e w1 ⟨rfl, hb1⟩; have tb := tb.trans (hb1.mono tb.size))
              | (go_at_call 21; (with_reducible refine (H1.out _ tb).mono ?_); rintro e w1 ⟨rfl, hb1⟩; have tb := tb.trans (hb1.mono tb.size))
              | (go_at_call 21; (with_reducible refine (H4.out _ tb).mono ?_); rintro e w1 ⟨rfl, hb1⟩; have tb := tb.trans (hb1.mono tb.size))
              | (go_at_call 21; (with_reducible refine (H5.out _ tb).mono ?_); rintro e w1 ⟨rfl, hb1⟩; have tb := tb.trans (hb1.mono tb.size)))
            go_ret
            exact ⟨rfl, tb⟩
        · have HAB := Lib.hid hab
          have HBA := Lib.hid hba
          have H1 := Lib.hid h1
          have H4 := Lib.hid h4
          have H5 := Lib.hid h5
          clear hab hba h1 h4 h5 t0 t1
          go_enter Tryd.func6, Tryd.ntmps6
          go_wp2_with (first
            | (go_at_call 8; (with_reducible refine (HS.out _ tb).mono ?_); rintro e w1 ⟨rfl, hb1⟩; have tb := tb.trans (hb1.mono tb.size))
            | (go_at_call 16; (with_reducible refine (HAB.out _ tb).mono ?_); rintro e w1 ⟨rfl, hb1⟩; have tb := tb.trans (hb1.mono tb.size))
            | (go_at_call 16; (with_reducible refine (HBC.out _ tb).mono ?_); rintro e w1 ⟨rfl, hb1⟩; have tb := tb.trans (hb1.mono tb.size))
            | (go_at_call 16; (with_reducible refine (HAC.out _ tb).mono ?_); rintro e w1 ⟨rfl, hb1⟩; have tb := tb.trans (hb1.mono tb.size))
            | (go_at_call 16; (with_reducible refine (HBA.out _ tb).mono ?_); rintro e w1 ⟨rfl, hb1⟩; have tb := tb.trans (hb1.mono tb.size))
            | (go_at_call 16; (with_reducible refine (HAA.out _ tb).mono ?_); rintro e w1 ⟨rfl, hb1⟩; have tb := tb.trans (hb1.mono tb.size))
            | (go_at_call 21; (with_reducible refine (H1.out _ tb).mono ?_); rintro e w1 ⟨rfl, hb1⟩; have tb := tb.trans (hb1.mono tb.size))
            | (go_at_call 21; (with_reducible refine (H4.out _ tb).mono ?_); rintro e w1 ⟨rfl, hb1⟩; have tb := tb.trans (hb1.mono tb.size))
            | (go_at_call 21; (with_reducible refine (H5.out _ tb).mono ?_); rintro e w1 ⟨rfl, hb1⟩; have tb := tb.trans (hb1.mono tb.size)))
          go_ret
          exact ⟨rfl, tb⟩
      · have q3 : decide ((1000 : Int) < (c.size : Int)) = true := decide_eq_true (by omega)
        clear h
        go_enter Tryd.func6, Tryd.ntmps6
        go_wp2_with (go_at_call 8; (with_reducible refine (HS.out _ tb).mono ?_); rintro e w1 ⟨rfl, hb1⟩; have tb := tb.trans (hb1.mono tb.size))
        go_ret
        exact ⟨rfl, tb⟩
    · have q2 : decide ((1000 : Int) < (b.size : Int)) = true := decide_eq_true (by omega)
      clear h
      go_enter Tryd.func6, Tryd.ntmps6
      go_wp2_with (go_at_call 8; (with_reducible refine (HS.out _ tb).mono ?_); rintro e w1 ⟨rfl, hb1⟩; have tb := tb.trans (hb1.mono tb.size))
      go_ret
      exact ⟨rfl, tb⟩
  · have q1 : decide ((1000 : Int) < (a.size : Int)) = true := decide_eq_true (by omega)
    clear h
    go_enter Tryd.func6, Tryd.ntmps6
    go_wp2_with (go_at_call 8; (with_reducible refine (HS.out _ tb).mono ?_); rintro e w1 ⟨rfl, hb1⟩; have tb := tb.trans (hb1.mono tb.size))
    go_ret
    exact ⟨rfl, tb⟩
end Go.Proofs.YtlbnhkojfefccaaDoor
