/- Walks: fold.hasPrefix. -/
import Derived.Test.YtlbnhkojfefccaaDoorFd5
namespace Go.Proofs.YtlbnhkojfefccaaDoor
open Go.RowKit Pk U8 Su Fo

def seesS (w : World) (v : Value) (l : List ByteArray) : Prop := ∃ p c, v = .slice p l.length c ∧ l.length ≤ c ∧ (l = [] ∨ ∃ g o, p = some ⟨g, o, none⟩ ∧ ∀ j (hj : j < l.length), w.cell? ⟨g, o + j, none⟩ = some (.string l[j]))
theorem hasP_step {m : List El} {l : List ByteArray} {i : Nat} {X : Bool} (h : Hid (hasP (m.drop i) (l.drop i) = X)) (hi : i < m.length) (hl : i < l.length) :
    ((m[i].kind ≠ 0 ∨ (m[i].text.toList == l[i].toList) = true) → Hid (hasP (m.drop (i + 1)) (l.drop (i + 1)) = X)) ∧ (m[i].kind = 0 → (m[i].text.toList == l[i].toList) = false → X = false) := by
  have e := h.out
  rw [List.drop_eq_getElem_cons hi, List.drop_eq_getElem_cons hl] at e
  unfold hasP at e
  refine ⟨fun h1 => ?_, fun h1 h2 => ?_⟩
  · have : (decide (m[i].kind ≠ 0) || (m[i].text.toList == l[i].toList)) = true := by
      rcases h1 with h1 | h1
      · rw [decide_eq_true h1]; rfl
      · rw [h1, Bool.or_true]
    rw [this, Bool.true_and] at e
    exact e
  · have : (decide (m[i].kind ≠ 0) || (m[i].text.toList == l[i].toList)) = false := by
      rw [h2, Bool.or_false]; exact decide_eq_false (fun h => h h1)
    rw [this, Bool.false_and] at e
    exact e.symm
set_option maxHeartbeats 4000000 in
set_option maxRecDepth 100000 in
theorem hasP_some (m : List El) (l : List ByteArray) (gm cm gl ol cl : Nat) (w : World) (hm : m.length ≤ 1000000) (hl : l.length ≤ 1000000) (hcm : m.length ≤ cm) (hcl : l.length ≤ cl) (hle : m.length ≤ l.length)
    (hM : ∀ j (hj : j < m.length), w.cell? ⟨gm, j * 2, none⟩ = some (.int .i64 m[j].kind) ∧ w.cell? ⟨gm, j * 2 + 1, none⟩ = some (.string m[j].text))
    (hL : ∀ j (hj : j < l.length), w.cell? ⟨gl, ol + j, none⟩ = some (.string l[j])) :
    Calls Tryd.prog 40 #[.slice (some ⟨gl, ol, none⟩) l.length cl, .slice (some ⟨gm, 0, none⟩) m.length cm] w fun e w' => e = .returned (.bool (hasP m l)) ∧ Below w.heap.size w w' := by
  have HM := Lib.hid hM
  have HL := Lib.hid hL
  have hz : Hid (hasP (m.drop 0) (l.drop 0) = hasP m l) := rfl
  generalize hasP m l = X at hz ⊢
  clear hM hL
  go_enter Tryd.func40, Tryd.ntmps40
  go_wp2
  go_loopw [14] (fun iv wr => ∃ (i : Nat), iv = .int .i64 i ∧ Below w.heap.size w wr ∧ i ≤ m.length ∧ Hid (hasP (m.drop i) (l.drop i) = X)) (fun iv _ => m.length - (intOf iv).toNat)
  case atStart => exact ⟨0, by first | rfl | trivial, Below.refl _ _, by omega, hz⟩
  case round =>
    clear hz
    obtain ⟨i, rfl, hbel, hi, hrel⟩ := hrel
    have hsz := hbel.size
    by_cases hlt : i < m.length
    · obtain ⟨s1, s2⟩ := hasP_step hrel hlt (by omega)
      obtain ⟨c0, c1⟩ := HM.out i hlt
      have c0 := cell_later hbel c0
      have c1 := cell_later hbel c1
      have c2 := cell_later hbel (HL.out i (by omega))
      have tb : Below w.heap.size w ((wr.alloc (.cells #[.int .i64 m[i].kind, .string m[i].text] 62)).drew) := (hbel.alloc hsz _).drew
      have hea : Below wr.heap.size wr (wr.alloc (.cells #[.int .i64 m[i].kind, .string m[i].text] 62)) := (Below.refl _ _).alloc (Nat.le_refl _) _
      have c3 := cell_later hea c2
      clear hea
      have hil : i < l.length := by omega
      by_cases hk : m[i].kind = 0
      · have qk : ((m[i].kind : Int) == 0) = true := beq_iff_eq.2 (by omega)
        cases hq : (m[i].text.toList == l[i].toList) with
        | true =>
          have hd := s1 (.inr hq)
          clear s1 s2 hrel hk
          go_wp2
          go_region
          go_wp2
          go_roundw
          case rel => exact ⟨i + 1, by go_num, tb, by omega, hd⟩
          case measure => simp [intOf]; omega
        | false =>
          obtain rfl := s2 hk hq
          clear s1 s2 hrel hk
          go_wp2
          go_region
          go_wp2
          go_ret
          exact ⟨rfl, tb⟩
      · have qk : ((m[i].kind : Int) == 0) = false := beq_eq_false_iff_ne.2 (by omega)
        have hd := s1 (.inl hk)
        clear s1 s2 hrel hk
        go_wp2
        go_region
        go_wp2
        go_roundw
        case rel => exact ⟨i + 1, by go_num, tb, by omega, hd⟩
        case measure => simp [intOf]; omega
    · have e := hrel.out
      rw [List.drop_eq_nil_of_le (show m.length ≤ i by omega)] at e
      obtain rfl : X = true := by rw [← e]; rfl
      clear hrel e
      go_wp2
      go_ret
      exact ⟨rfl, hbel⟩
set_option maxRecDepth 100000 in
theorem hasP_any (vl vm : Value) (m : List El) (l : List ByteArray) (C : Nat) (w : World) (hm : m.length ≤ 1000000) (hl : l.length ≤ 1000000) (hM : seesE w C 62 vm m) (hL : seesS w vl l) :
    Calls Tryd.prog 40 #[vl, vm] w fun e w' => e = .returned (.bool (hasP m l)) ∧ Below w.heap.size w w' := by
  obtain ⟨pm, cm, rfl, hcm, hM⟩ := hM.form
  obtain ⟨pl, cl, rfl, hcl, hL⟩ := hL
  by_cases hlt : l.length < m.length
  · rw [hasP_short hlt]
    clear hM hL
    go_enter Tryd.func40, Tryd.ntmps40
    go_wp2
    go_ret
    exact ⟨rfl, Below.refl _ _⟩
  · rcases hM with rfl | ⟨gm, rfl, -, hM⟩
    · have : hasP [] l = true := rfl
      rw [this]
      clear hL this
      go_enter Tryd.func40, Tryd.ntmps40
      go_wp2
      go_loopw [14] (fun iv wr => iv = .int .i64 0 ∧ wr = w) (fun iv _ => 0)
      case atStart => exact ⟨by first | rfl | trivial, rfl⟩
      case round =>
        obtain ⟨rfl, rfl⟩ := hrel
        go_wp2
        go_ret
        exact ⟨rfl, Below.refl _ _⟩
    · by_cases h0 : m.length = 0
      · have : m = [] := List.eq_nil_of_length_eq_zero h0
        subst this
        have : hasP [] l = true := rfl
        rw [this]
        clear hL hM this
        go_enter Tryd.func40, Tryd.ntmps40
        go_wp2
        go_loopw [14] (fun iv wr => iv = .int .i64 0 ∧ wr = w) (fun iv _ => 0)
        case atStart => exact ⟨by first | rfl | trivial, rfl⟩
        case round =>
          obtain ⟨rfl, rfl⟩ := hrel
          go_wp2
          go_ret
          exact ⟨rfl, Below.refl _ _⟩
      · rcases hL with rfl | ⟨gl, ol, rfl, hL⟩
        · exact absurd (show ([] : List ByteArray).length < m.length by rw [List.length_nil]; omega) hlt
        · exact hasP_some m l gm cm gl ol cl w hm hl hcm hcl (by omega) hM hL
end Go.Proofs.YtlbnhkojfefccaaDoor
