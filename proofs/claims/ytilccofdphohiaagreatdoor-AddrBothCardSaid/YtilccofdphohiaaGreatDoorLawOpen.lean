/- Walks: chapter 11's laws: open. -/
import Derived.Test.YtilccofdphohiaaGreatDoorLawBlanks
namespace Go.Proofs.YtilccofdphohiaaGreatDoor
open Go.RowKit Pk Ad Tk Fo Su

theorem op_step {m : List El} {i : Nat} {b X : Bool} (h : Hid (openE b (m.drop i) = X)) (hi : i < m.length) :
    (bad3 m[i] = true → X = true) ∧ (bad3 m[i] = false → Hid (openE (if b = true then !isT 62 m[i] else isT 60 m[i]) (m.drop (i + 1)) = X)) := by
  have e := h.out
  rw [List.drop_eq_getElem_cons hi, openE] at e
  refine ⟨fun h1 => ?_, fun h1 => ?_⟩
  · rw [if_pos h1] at e; exact e.symm
  · rw [if_neg (by rw [h1]; decide)] at e; exact e
theorem op_end {m : List El} {i : Nat} {b X : Bool} (h : Hid (openE b (m.drop i) = X)) (hi : ¬ i < m.length) : b = X := by
  have e := h.out
  rw [List.drop_eq_nil_of_le (by omega)] at e
  exact e
theorem isT_eqB (b : UInt8) (k : Nat) (T : ByteArray) : isT b ⟨k, T⟩ = (((k : Int) == 4) && (T.toList == [b])) := isT_eq b k T
theorem bad3_eq (k : Nat) (T : ByteArray) (h : 0 < T.size) : bad3 ⟨k, T⟩ = (((k : Int) == 7) && (((T[0].toNat : Int) == 40) || (((T[0].toNat : Int) == 34) || ((T[0].toNat : Int) == 91)))) := by
  have h0 : T.data.toList = T[0] :: (T.data.toList).drop 1 := by
    have := tl_cons T 0 h
    rw [tl_zero] at this
    rw [this]; rfl
  have hb : ∀ c : UInt8, (c == 40 || c == 34 || c == 91) = (((c.toNat : Int) == 40) || (((c.toNat : Int) == 34) || ((c.toNat : Int) == 91))) := fun c => by
    have h0 : ∀ n : Nat, n < 256 → ((UInt8.ofNat n) == 40 || (UInt8.ofNat n) == 34 || (UInt8.ofNat n) == 91) = ((((UInt8.ofNat n).toNat : Int) == 40) || ((((UInt8.ofNat n).toNat : Int) == 34) || (((UInt8.ofNat n).toNat : Int) == 91))) := by decide +kernel
    have := h0 c.toNat c.toNat_lt
    rwa [UInt8.ofNat_toNat] at this
  have hk : ((k : Int) == 7) = (k == 7) := by
    by_cases h : k = 7
    · rw [h]; rfl
    · rw [beq_eq_false_iff_ne.2 h, beq_eq_false_iff_ne.2 (by omega)]
  unfold Ad.bad3
  show (k == 7 && (match T.data.toList with | c :: _ => c == 40 || c == 34 || c == 91 | [] => false)) = _
  rw [h0]
  show (k == 7 && (T[0] == 40 || T[0] == 34 || T[0] == 91)) = _
  rw [hb, hk]
def TrueIs (b : Bool) (w : World) (e : Ending) (w' : World) : Prop := e = .returned (.bool b) ∧ Below w.heap.size w w'
set_option maxHeartbeats 4000000 in
set_option maxRecDepth 100000 in
theorem open_any (s : ByteArray) (w : World) (hs : s.size ≤ 1000000) : Calls Tryz.prog 24 #[.string s] w (TrueIs (openE false (sc s.data.toList)) w) := by
  have HSc := Lib.hid (scan_any s w (by omega))
  have hpos : ∀ x ∈ sc s.data.toList, 0 < x.text.size := fun x hx => by
    obtain ⟨i, hi, rfl⟩ := List.getElem_of_mem hx
    have := (sc_one s.data.toList i hi).2.1
    omega
  have hml : (sc s.data.toList).length ≤ 1000000 := by
    have h2 := sc_length _ s.data.toList (Nat.le_refl _)
    rw [dataL] at h2
    omega
  have hst : Hid (openE false ((sc s.data.toList).drop 0) = openE false (sc s.data.toList)) := rfl
  generalize openE false (sc s.data.toList) = X at hst ⊢
  generalize sc s.data.toList = m at *
  have HPos := Lib.hid hpos
  clear hpos
  go_enter Tryz.func24, Tryz.ntmps24
  go_wp2_with (go_at_call 26; (with_reducible refine HSc.out.mono ?_); rintro e w1 ⟨v1, rfl, hown1, tb⟩; obtain ⟨p0, c0, rfl, hT0⟩ := ownsE.tsk hown1)
  have HT := Lib.hid hT0
  clear hown1 hT0
  go_loopg [4, 5] m.length (fun g bv iv wr => ∃ (i : Nat) (b : Bool), iv = .int .i64 i ∧ bv = .bool b ∧ i + g = m.length ∧ w1 = wr ∧ Hid (openE b (m.drop i) = X))
  case atStart => exact ⟨0, false, by first | rfl | trivial, rfl, by omega, rfl, hst⟩
  case round =>
    clear hst
    obtain ⟨i, b, rfl, rfl, hig, rfl, hrel⟩ := hrel
    by_cases hlt : i < m.length
    · obtain ⟨gg, o, rfl, hcells⟩ : ∃ g o, p0 = some ⟨g, o, none⟩ ∧ tokAt w1 g o m := HT.out.sl.ne (by omega)
      obtain ⟨k0, k1⟩ := hcells i hlt
      obtain ⟨s1, s2⟩ := op_step hrel hlt
      have hT0 := HPos.out m[i] (List.getElem_mem hlt)
      have z0 : (0 : Int) ≤ (i : Int) := by omega
      have z1 : (i : Int) < (m.length : Int) := by omega
      generalize m[i] = tk at *
      obtain ⟨kd, T⟩ := tk
      have hT0 : 0 < T.size := hT0
      have k0 : w1.cell? ⟨gg, o + i * 2, none⟩ = some (.int .i64 kd) := k0
      have k1 : w1.cell? ⟨gg, o + i * 2 + 1, none⟩ = some (.string T) := k1
      have hbad := bad3_eq kd T hT0
      have hisT := fun b => isT_eqB b kd T
      have hne := neS hT0
      clear hcells hrel
      cases d7 : ((kd : Int) == 7) with
      | true =>
        have d4 : ((kd : Int) == 4) = false := beq_eq_false_iff_ne.2 (by have := beq_iff_eq.1 d7; omega)
        rw [d7] at hbad
        simp only [d4, Bool.false_and] at hisT
        cases e1 : ((T[0].toNat : Int) == 40) with
        | true =>
          rw [e1] at hbad
          obtain rfl := s1 (by rw [hbad]; rfl)
          clear s1 s2 hbad hisT
          go_wp2
          go_ret
          exact ⟨rfl, tb⟩
        | false =>
          cases e2 : ((T[0].toNat : Int) == 34) with
          | true =>
            rw [e1, e2] at hbad
            obtain rfl := s1 (by rw [hbad]; rfl)
            clear s1 s2 hbad hisT
            go_wp2
            go_ret
            exact ⟨rfl, tb⟩
          | false =>
            cases e3 : ((T[0].toNat : Int) == 91) with
            | true =>
              rw [e1, e2, e3] at hbad
              obtain rfl := s1 (by rw [hbad]; rfl)
              clear s1 s2 hbad hisT
              go_wp2
              go_ret
              exact ⟨rfl, tb⟩
            | false =>
              rw [e1, e2, e3] at hbad
              cases b <;> (
                have hd := s2 (by rw [hbad]; rfl)
                rw [hisT, hisT] at hd
                clear s1 s2 hbad hisT
                go_wp2
                go_roundg (m.length - (i + 1))
                case rel => exact ⟨i + 1, _, by go_num, rfl, by omega, rfl, by first | exact hd | (simpa using hd) | (simpa [e1] using hd)⟩
                case measure => omega
              )
      | false =>
        rw [d7] at hbad
        cases d4 : ((kd : Int) == 4) with
        | false =>
          simp only [d4, Bool.false_and] at hisT
          cases b <;> (
            have hd := s2 (by rw [hbad]; rfl)
            rw [hisT, hisT] at hd
            clear s1 s2 hbad hisT
            go_wp2
            go_roundg (m.length - (i + 1))
            case rel => exact ⟨i + 1, _, by go_num, rfl, by omega, rfl, by first | exact hd | (simpa using hd) | (simpa [e1] using hd)⟩
            case measure => omega
          )
        | true =>
          simp only [d4, Bool.true_and] at hisT
          cases b with
          | true =>
            cases e1 : (T.toList == [62]) <;> (
              have hd := s2 (by rw [hbad]; rfl)
              rw [hisT, hisT] at hd
              clear s1 s2 hbad hisT
              go_wp2
              go_roundg (m.length - (i + 1))
              case rel => exact ⟨i + 1, _, by go_num, rfl, by omega, rfl, by first | exact hd | (simpa using hd) | (simpa [e1] using hd)⟩
              case measure => omega
            )
          | false =>
            cases e1 : (T.toList == [60]) <;> (
              have hd := s2 (by rw [hbad]; rfl)
              rw [hisT, hisT] at hd
              clear s1 s2 hbad hisT
              go_wp2
              go_roundg (m.length - (i + 1))
              case rel => exact ⟨i + 1, _, by go_num, rfl, by omega, rfl, by first | exact hd | (simpa using hd) | (simpa [e1] using hd)⟩
              case measure => omega
            )
    · obtain rfl := op_end hrel hlt
      clear hrel
      go_wp2
      go_ret
      exact ⟨rfl, tb⟩
end Go.Proofs.YtilccofdphohiaaGreatDoor
