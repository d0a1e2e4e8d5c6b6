/- Walks: chapter 11's laws: AddrBlanks. -/
import Derived.Test.YtilccofdphohiaaGreatDoorAdXY
import Derived.Test.YtilccofdphohiaaGreatDoorAdZ
namespace Go.Proofs.YtilccofdphohiaaGreatDoor
open Go.RowKit Pk Ad Tk Fo Su

def adrsL (s : List UInt8) : List AdB := (parseA s).1.map adB
theorem adrsL_lst (s : List UInt8) : parseA s = ((adrsL s).map AdB.lst, (parseA s).2) := by
  unfold adrsL
  rw [List.map_map]
  have : AdB.lst ∘ adB = id := funext adB_lst
  rw [this, List.map_id]
theorem adrsL_len (s : ByteArray) (h : s.size ≤ 1000000) : (adrsL s.data.toList).length ≤ 2000000 := by
  unfold adrsL
  rw [List.length_map]
  have h1 : (goodL (piecesL s.data.toList)).length ≤ (piecesL s.data.toList).length := List.length_filterMap_le _ _
  have h2 := pieces_le (s := s.data.toList)
  rw [dataL] at h2
  show (goodL (piecesL s.data.toList)).length ≤ _
  omega
theorem parse_prs (s : ByteArray) (w : World) (hs : s.size ≤ 1000000) : Calls Tryz.prog 11 #[.string s] w (Prs (adrsL s.data.toList) (parseA s.data.toList).2 w) :=
  (parse_any s w hs).mono fun _ _ h => pars_to h (adrsL_lst _)
theorem rend_len (f : Nat → Bool) : ∀ (l : List El) (i : Nat), (rend f i l).length ≤ 7 * l.length + sumE (fun t => t.text.size) l
  | [], _ => Nat.zero_le _
  | x :: r, i => by
    have ih := rend_len f r (i + 1)
    unfold rend
    rw [sumE_cons, List.length_cons, List.length_append, List.length_cons, List.length_append, dataL]
    have : (if f i = true then cmt else []).length ≤ 6 := by split <;> simp [cmt]
    omega
theorem bare_len {s : ByteArray} (h : s.size ≤ 500) : (bareE (sc s.data.toList)).length ≤ 500 ∧ (∀ f i, (rend f i (bareE (sc s.data.toList))).length ≤ 4000) ∧ ∀ x ∈ bareE (sc s.data.toList), x.text.size ≤ 500 := by
  have h1 := bareE_sum (fun _ => 1) (sc s.data.toList)
  have h2 := bareE_sum (fun t => t.text.size) (sc s.data.toList)
  have h3 := sc_length _ s.data.toList (Nat.le_refl _)
  have h4 := join_sc _ s.data.toList (Nat.le_refl _)
  simp only [sum_one] at h1
  rw [sum_text (sc s.data.toList), h4] at h2
  rw [dataL] at h2 h3
  refine ⟨by omega, fun f i => ?_, fun x hx => ?_⟩
  · have := rend_len f (bareE (sc s.data.toList)) i
    omega
  · have := mem_sum (fun t => t.text.size) _ x hx
    have h5 : (fun t : El => t.text.size) x = x.text.size := rfl
    omega
/-- the string so far, and what is to come -/
def RnAt (f : Nat → Bool) (m : List El) (i : Nat) (S : ByteArray) : Prop := S.data.toList ++ rend f i (m.drop i) = rend f 0 m
theorem rn_step {f : Nat → Bool} {m : List El} {i : Nat} {S : ByteArray} (h : Hid (RnAt f m i S)) (hi : i < m.length) :
    (f i = true → Hid (RnAt f m (i + 1) (S ++ ⟨#[40, 120, 32, 34, 121, 41]⟩ ++ ⟨#[32]⟩ ++ m[i].text))) ∧ (f i = false → Hid (RnAt f m (i + 1) (S ++ ⟨#[32]⟩ ++ m[i].text))) := by
  have e := h.out
  unfold RnAt at e
  rw [List.drop_eq_getElem_cons hi, rend] at e
  have ap : ∀ A B : ByteArray, (A ++ B).data.toList = A.data.toList ++ B.data.toList := fun A B => by simp [ByteArray.data_append]
  refine ⟨fun hf => ?_, fun hf => ?_⟩
  · rw [if_pos hf] at e
    show _ ++ _ = _
    rw [← e, ap, ap, ap]
    show S.data.toList ++ cmt ++ [32] ++ _ ++ _ = _
    simp
  · rw [if_neg (by rw [hf]; decide)] at e
    show _ ++ _ = _
    rw [← e, ap, ap]
    show S.data.toList ++ [32] ++ _ ++ _ = _
    simp
theorem rn_size {f : Nat → Bool} {m : List El} {i : Nat} {S : ByteArray} (h : Hid (RnAt f m i S)) : S.size ≤ (rend f 0 m).length := by
  have := congrArg List.length h.out
  rw [List.length_append, dataL] at this
  omega
theorem rn_end {f : Nat → Bool} {m : List El} {i : Nat} {S : ByteArray} (h : Hid (RnAt f m i S)) (hi : ¬ i < m.length) : S.data.toList = rend f 0 m := by
  have e := h.out
  unfold RnAt at e
  rw [List.drop_eq_nil_of_le (by omega)] at e
  rw [← e]
  exact (List.append_nil _).symm
/-- the bit that the law looks at -/
def bitF (n : Int) (i : Nat) : Bool := bits BinOp.and IntKind.i64 (n / 2 ^ (i % 60)) 1 == 1
set_option maxHeartbeats 4000000 in
set_option maxRecDepth 100000 in
theorem blanks_of (s : ByteArray) (n : Int) (w : World) (h : Ra w) : Calls Tryz.prog 7 #[.string s, .int .i64 n] w (Truth w) := by
  have HS := Lib.hid (small_any w h)
  clear h
  have tb := Below.refl w.heap.size w
  by_cases hs : s.size ≤ 500
  · have q1 : decide ((500 : Int) < (s.size : Int)) = false := decide_eq_false (by omega)
    have q1' : decide ((s.size : Int) > 500) = false := decide_eq_false (by omega)
    have hpar := blanks_adr (bitF n) s.data.toList
    obtain ⟨m1, m2, m3⟩ := bare_len hs
    have hP1 := fun W => parse_prs s W (by omega)
    have hln := adrsL_len s (by omega)
    have hsl : (sc s.data.toList).length ≤ 500 := by
      have h2 := sc_length _ s.data.toList (Nat.le_refl _)
      rw [dataL] at h2
      omega
    have HSc := Lib.hid (fun W => scan_any s W (by omega))
    have hP2 : ∀ S : ByteArray, S.data.toList = rend (bitF n) 0 (bareE (sc s.data.toList)) → ∀ W, Calls Tryz.prog 11 #[.string S] W (Prs (adrsL s.data.toList) (parseA s.data.toList).2 W) := fun S hS W => by
      have hz : S.size ≤ 4000 := by rw [← dataL, hS]; exact m2 _ _
      have := parse_prs S W (by omega)
      have e : parseA S.data.toList = parseA s.data.toList := by rw [hS]; exact hpar
      unfold adrsL at this ⊢
      rwa [e] at this
    clear hpar
    have hB := fun v w' (hM : seesE w' w'.heap.size 43 v (sc s.data.toList)) => bare_any v (sc s.data.toList) w' hM (by omega)
    generalize adrsL s.data.toList = ys at *
    generalize (parseA s.data.toList).2 = pb at *
    generalize sc s.data.toList = M0 at *
    generalize bareE M0 = m at *
    have HB := Lib.hid hB
    have HP1 := Lib.hid hP1
    have HP2 := Lib.hid hP2
    have HM2 := Lib.hid (m2 (bitF n) 0)
    have HM3 := Lib.hid m3
    have hst : Hid (RnAt (bitF n) m 0 ⟨#[]⟩) := rfl
    clear hB hP1 hP2 hs hsl m2 m3
    go_enter Tryz.func7, Tryz.ntmps7
    go_wp2_with (first
      | (go_at_call 10; (with_reducible refine HS.out.mono ?_); rintro e w1 ⟨rfl, hb1⟩; have tb := tb.trans hb1)
      | (go_at_call 26; (with_reducible refine (HSc.out _).mono ?_); rintro e w2 ⟨v2, rfl, hown2, hb2⟩; have tb := tb.trans (hb2.mono tb.size); have hsee := ownsE.sees hown2 (Nat.le_refl _))
      | (go_at_call 25; (with_reducible refine (HB.out _ _ hsee).mono ?_); rintro e w3 ⟨v3, rfl, hown3, hb3⟩; have tb := tb.trans (hb3.mono tb.size); obtain ⟨p0, c0, rfl, hT0⟩ := ownsE.tsk hown3))
    have HT := Lib.hid hT0
    clear hsee hown2 hown3 hT0 hb1 hb2 hb3
    go_loopg [7, 8] m.length (fun g sv iv wr => ∃ (i : Nat) (S : ByteArray), sv = .string S ∧ iv = .int .i64 i ∧ i + g = m.length ∧ w3 = wr ∧ Hid (RnAt (bitF n) m i S))
    case atStart => exact ⟨0, ⟨#[]⟩, by first | rfl | trivial, by first | rfl | trivial, by omega, rfl, hst⟩
    case round =>
      clear hst
      obtain ⟨i, S, rfl, rfl, hig, rfl, hrel⟩ := hrel
      by_cases hlt : i < m.length
      · obtain ⟨gg, o, rfl, hcells⟩ : ∃ g o, p0 = some ⟨g, o, none⟩ ∧ tokAt w3 g o m := HT.out.sl.ne (by omega)
        obtain ⟨c0', c1⟩ := hcells i hlt
        obtain ⟨s1, s2⟩ := rn_step hrel hlt
        have hz := rn_size hrel
        have hz2 := HM2.out
        have hTz := HM3.out m[i] (List.getElem_mem hlt)
        have z0 : (0 : Int) ≤ (i : Int) := by omega
        have z1 : (i : Int) < (m.length : Int) := by omega
        generalize m[i] = tk at *
        obtain ⟨kd, T⟩ := tk
        have c1 : w3.cell? ⟨gg, o + i * 2 + 1, none⟩ = some (.string T) := c1
        have hTz : T.size ≤ 500 := hTz
        have s1 : bitF n i = true → Hid (RnAt (bitF n) m (i + 1) (S ++ ⟨#[40, 120, 32, 34, 121, 41]⟩ ++ ⟨#[32]⟩ ++ T)) := s1
        have s2 : bitF n i = false → Hid (RnAt (bitF n) m (i + 1) (S ++ ⟨#[32]⟩ ++ T)) := s2
        clear hcells c0' hrel
        have hbe : bitF n i = (bits BinOp.and IntKind.i64 (n / 2 ^ (i % 60)) 1 == 1) := rfl
        cases hbit : bitF n i with
        | true =>
          have hd := s1 hbit
          rw [hbit] at hbe
          replace hbe := hbe.symm
          clear s1 s2 hbit
          go_wp2
          go_roundg (m.length - (i + 1))
          case rel => exact ⟨i + 1, _, by first | rfl | trivial, by go_num, by omega, rfl, hd⟩
          case measure => omega
        | false =>
          have hd := s2 hbit
          rw [hbit] at hbe
          replace hbe := hbe.symm
          clear s1 s2 hbit
          go_wp2
          go_roundg (m.length - (i + 1))
          case rel => exact ⟨i + 1, _, by first | rfl | trivial, by go_num, by omega, rfl, hd⟩
          case measure => omega
      · have hS := rn_end hrel hlt
        have hP3 := HP2.out S hS
        have HP3 := Lib.hid hP3
        clear hP3 hS hrel
        go_wp2_with (first
          | (go_at_call 11; (with_reducible refine (HP1.out _).mono ?_); rintro e w4 ⟨v4, rfl, -, hs4, hb4⟩; have tb := tb.trans (hb4.mono tb.size))
          | (go_at_call 11; (with_reducible refine (HP3.out _).mono ?_); rintro e w5 ⟨v5, rfl, -, hs5, hb5⟩; have tb := tb.trans (hb5.mono tb.size))
          | (go_at_call 13; (with_reducible refine (sameA_refl _ _ ys _ (hs4.later hb5) hs5 hln).mono ?_); rintro e w6 ⟨rfl, hb6⟩; have tb := tb.trans (hb6.mono tb.size)))
        go_ret
        exact ⟨by first | rfl | (simp; done), tb⟩
  · have q1 : decide ((500 : Int) < (s.size : Int)) = true := decide_eq_true (by omega)
    have q1' : decide ((s.size : Int) > 500) = true := decide_eq_true (by omega)
    go_enter Tryz.func7, Tryz.ntmps7
    go_wp2_with (go_at_call 10; (with_reducible refine HS.out.mono ?_); rintro e w1 ⟨rfl, hb1⟩)
    go_ret
    exact ⟨rfl, hb1⟩
end Go.Proofs.YtilccofdphohiaaGreatDoor
