/- Walk: subject: reduce. -/
import Derived.Test.YtnclbbgdfaeilaaGreatDoorSub4
import Derived.Laws.EntriesVeiled
import Derived.Laws.CopyOwn
namespace Go.Proofs.YtnclbbgdfaeilaaGreatDoor
open Go.RowKit Pk U8 Su

/-- the state at a round's head -/
def RedIs (s S : ByteArray) (a : Bool) (i : Nat) : Prop := red s.data.toList = ((red S.data.toList).1, a || (red S.data.toList).2) ∧ (0 < i → S.data.toList.getLast? ≠ some 32 ∧ endsF S.data.toList = false) ∧ (1 < i → S.data.toList.head? ≠ some 32) ∧ (2 < i → answer S.data.toList = none) ∧ (3 < i → ∀ t, blob S.data.toList = some t → t = []) ∧ (4 < i → wrap S.data.toList = none)
/-- a step's outcome: the string as it was, or one that is shorter -/
def StepIs (f : FuncId) (S : ByteArray) (next : Prop) : Prop :=
  ((∀ W, Calls Tryz.prog f #[.string S] W fun e w' => e = .returned (.tuple #[.string S, .bool false]) ∧ Below W.heap.size W w') ∧ next) ∨
  (∃ (T : ByteArray) (is : Bool), (∀ W, Calls Tryz.prog f #[.string S] W fun e w' => e = .returned (.tuple #[.string T, .bool is]) ∧ Below W.heap.size W w') ∧ T.size < S.size ∧ red S.data.toList = ((red T.data.toList).1, is || (red T.data.toList).2))
theorem step_mk {f : FuncId} {S : ByteArray} {next : Prop} {p : List UInt8 × Bool} (hc : ∀ W, Calls Tryz.prog f #[.string S] W (AnsIs p W)) (h : (p = (S.data.toList, false) ∧ next) ∨ (p.1.length < S.size ∧ red S.data.toList = ((red p.1).1, p.2 || (red p.1).2))) : StepIs f S next := by
  rcases h with ⟨rfl, hn⟩ | ⟨h1, h2⟩
  · left
    refine ⟨fun W => ?_, hn⟩
    have := hc W
    unfold AnsIs at this
    simp only [str_back] at this
    exact this
  · right
    obtain ⟨T, hT, hTl, hTs⟩ := arrS p.1
    refine ⟨T, p.2, fun W => ?_, by omega, by rw [hTl]; exact h2⟩
    have := hc W
    unfold AnsIs at this
    rw [← hT] at this
    exact this
theorem ans_of {p : List UInt8 × Bool} {w : World} {e : Ending} {w' : World} (h : PairIs p w e w') : AnsIs p w e w' := ⟨h.1, h.2 ▸ Below.refl _ _⟩
theorem trimR_lt {l : List UInt8} (h : trimR l ≠ l) : (trimR l).length < l.length := by
  have h1 : (trimR l).length ≤ l.length := by
    unfold trimR; rw [List.length_reverse]
    exact Nat.le_trans (List.dropWhile_sublist _).length_le (by simp)
  rcases Nat.lt_or_ge (trimR l).length l.length with h2 | h2
  · exact h2
  · exfalso
    apply h
    have hs : (l.reverse.dropWhile (· == 32)).Sublist l.reverse := List.dropWhile_sublist _
    have := hs.eq_of_length (by unfold trimR at h1 h2; simp at h1 h2 ⊢; omega)
    unfold trimR; rw [this]; simp
theorem free_lt {l : List UInt8} (h : free l ≠ l) : (free l).length < l.length := by
  have h1 := free_length l
  rcases Nat.lt_or_ge (free l).length l.length with h2 | h2
  · exact h2
  · exfalso
    exact h ((List.dropWhile_sublist _).eq_of_length (by unfold free at h1 h2; omega))
theorem step0 (S : ByteArray) (hs : S.size ≤ 100000000) : StepIs 75 S (S.data.toList.getLast? ≠ some 32 ∧ endsF S.data.toList = false) := by
  refine step_mk (fun W => (end_any S W hs).mono fun _ _ h => ans_of h) ?_
  unfold endP
  have hl : S.data.toList.length = S.size := rfl
  by_cases h1 : trimR S.data.toList ≠ S.data.toList
  · right
    rw [if_pos h1]
    have := trimR_lt h1
    exact ⟨by show (trimR _).length < _; omega, by rw [← red_trim _ S.data.toList (Nat.le_refl _)]; simp⟩
  · rw [if_neg h1]
    have h1' : S.data.toList.getLast? ≠ some 32 := trimR_eq.1 (Classical.byContradiction h1)
    cases h2 : endsF S.data.toList with
    | true =>
      right
      rw [if_pos rfl]
      refine ⟨?_, red_fwd h1' h2⟩
      unfold endsF at h2
      simp at h2
      simp; omega
    | false => left; rw [if_neg (by decide)]; exact ⟨rfl, h1', rfl⟩
theorem step1 (S : ByteArray) (h0 : S.data.toList.getLast? ≠ some 32 ∧ endsF S.data.toList = false) : StepIs 76 S (S.data.toList.head? ≠ some 32) := by
  refine step_mk (fun W => (front_any S W).mono fun _ _ h => ans_of h) ?_
  have hl : S.data.toList.length = S.size := rfl
  by_cases h1 : free S.data.toList = S.data.toList
  · left; rw [h1]; exact ⟨rfl, free_eq.1 h1⟩
  · right
    have := free_lt h1
    exact ⟨by show (free _).length < _; omega, by rw [← red_free _ h0.1 h0.2]; simp⟩
theorem step2 (S : ByteArray) (hs : S.size ≤ 100000000) (h0 : S.data.toList.getLast? ≠ some 32 ∧ endsF S.data.toList = false) (h1 : S.data.toList.head? ≠ some 32) : StepIs 77 S (answer S.data.toList = none) := by
  refine step_mk (fun W => answer_any S W hs) ?_
  unfold answerP
  cases h : answer S.data.toList with
  | none => left; exact ⟨rfl, rfl⟩
  | some t => right; exact ⟨answer_lt h, red_answer h0.1 h0.2 h1 h⟩
theorem step3 (S : ByteArray) (hs : S.size ≤ 100000000) (h0 : S.data.toList.getLast? ≠ some 32 ∧ endsF S.data.toList = false) (h1 : S.data.toList.head? ≠ some 32) (h2 : answer S.data.toList = none) : StepIs 78 S (∀ t, blob S.data.toList = some t → t = []) := by
  refine step_mk (fun W => (mark_any S W hs).mono fun _ _ h => ans_of h) ?_
  unfold markP
  cases h : blob S.data.toList with
  | none => left; exact ⟨rfl, fun t ht => by cases ht⟩
  | some t =>
    simp only
    by_cases ht : free t = []
    · left
      rw [if_neg (by simp [ht])]
      exact ⟨rfl, fun u hu => by injection hu with hu; subst hu; rw [blob_free h] at ht; exact ht⟩
    · right
      rw [if_pos ht]
      exact ⟨blob_lt _ _ h, by rw [red_mark h0.1 h0.2 h1 h2 h (by rw [← blob_free h]; exact ht)]; simp⟩
theorem step4 (S : ByteArray) (hs : S.size ≤ 100000000) (h0 : S.data.toList.getLast? ≠ some 32 ∧ endsF S.data.toList = false) (h1 : S.data.toList.head? ≠ some 32) (h2 : answer S.data.toList = none) (h3 : ∀ t, blob S.data.toList = some t → t = []) : StepIs 79 S (wrap S.data.toList = none) := by
  refine step_mk (fun W => (wrap_any S W hs).mono fun _ _ h => ans_of h) ?_
  unfold wrapP
  cases h : wrap S.data.toList with
  | none => left; exact ⟨rfl, rfl⟩
  | some t => right; exact ⟨wrap_lt h, red_wrap h0.1 h0.2 h1 h2 h3 h⟩
theorem red_next {s S T : ByteArray} {a is : Bool} {i : Nat} (h : RedIs s S a i) (hr : red S.data.toList = ((red T.data.toList).1, is || (red T.data.toList).2)) : RedIs s T (a || is) 0 := by
  refine ⟨?_, fun h => absurd h (by omega), fun h => absurd h (by omega), fun h => absurd h (by omega), fun h => absurd h (by omega), fun h => absurd h (by omega)⟩
  rw [h.1, hr]; simp [Bool.or_assoc]
theorem ne_size {T S : ByteArray} (h : T.size < S.size) : (!T.toList == S.toList) = true := by
  have : (T.toList == S.toList) = false := beq_eq_false_iff_ne.2 fun e => by
    rw [Lib.toList_data, Lib.toList_data] at e
    have := congrArg List.length e
    have h1 : T.data.toList.length = T.size := rfl
    have h2 : S.data.toList.length = S.size := rfl
    omega
  rw [this]; rfl
def stepsObj : Array Value := #[.func (.func 75) #[] #[], .func (.func 76) #[] #[], .func (.func 77) #[] #[], .func (.func 78) #[] #[], .func (.func 79) #[] #[]]
set_option maxHeartbeats 8000000 in
theorem reduce_any (s : ByteArray) (w : World) (hs : s.size ≤ 10000000) : Calls Tryz.prog 39 #[.string s] w (AnsIs (red s.data.toList) w) := by
  have h0 : Hid (RedIs s s false 0) := ⟨by simp, fun h => absurd h (by omega), fun h => absurd h (by omega), fun h => absurd h (by omega), fun h => absurd h (by omega), fun h => absurd h (by omega)⟩
  go_enter Tryz.func39, Tryz.ntmps39
  go_wp2
  go_loopg [0, 5, 6, 7, 8] (6 * s.size + 5) (fun g sv av iv _ _ wr => ∃ (S : ByteArray) (a : Bool) (i : Nat), sv = .string S ∧ av = .bool a ∧ iv = .int .i64 i ∧ i ≤ 5 ∧ S.size ≤ s.size ∧ 6 * S.size + 5 ≤ g + i ∧ (∀ j f, stepsObj[j]? = some f → wr.cell? ⟨w.heap.size, j, none⟩ = some f) ∧ w.heap.size < wr.heap.size ∧ Below w.heap.size w wr ∧ Hid (RedIs s S a i))
  case atStart =>
    refine ⟨s, false, 0, rfl, rfl, rfl, by omega, Nat.le_refl _, by omega, fun j f hj => ?_, by simp, (Below.refl _ _).alloc (Nat.le_refl _) _, h0⟩
    have := cells_new w stepsObj.toList 102 j f (by rw [Array.getElem?_toList]; exact hj)
    rw [Addr.add_lit, Nat.zero_add] at this
    exact this
  case round =>
    obtain ⟨S, a, i, rfl, rfl, rfl, hi, hSs, hg, hcell, hBlt, hbel, hrel⟩ := hrel
    have hsz := hbel.size
    have hc0 : wr.cell? ⟨w.heap.size, 0, none⟩ = some (.func (.func 75) #[] #[]) := hcell 0 _ rfl
    have hc1 : wr.cell? ⟨w.heap.size, 1, none⟩ = some (.func (.func 76) #[] #[]) := hcell 1 _ rfl
    have hc2 : wr.cell? ⟨w.heap.size, 2, none⟩ = some (.func (.func 77) #[] #[]) := hcell 2 _ rfl
    have hc3 : wr.cell? ⟨w.heap.size, 3, none⟩ = some (.func (.func 78) #[] #[]) := hcell 3 _ rfl
    have hc4 : wr.cell? ⟨w.heap.size, 4, none⟩ = some (.func (.func 79) #[] #[]) := hcell 4 _ rfl
    have HC := Lib.hid hcell
    clear hcell h0
    rcases (show i = 0 ∨ i = 1 ∨ i = 2 ∨ i = 3 ∨ i = 4 ∨ i = 5 by omega) with rfl | rfl | rfl | rfl | rfl | rfl
    · rcases step0 S (by omega) with ⟨c1, hnext⟩ | ⟨T, is, c1, hlt, hr⟩
      · have hnx : Hid (RedIs s S a 1) := ⟨hrel.out.1, fun _ => hnext, fun h => absurd h (by omega), fun h => absurd h (by omega), fun h => absurd h (by omega), fun h => absurd h (by omega)⟩
        have C1 := Lib.hid c1
        clear c1 hnext hrel
        cases a <;>
          (go_wp2_with (go_at_call 75; (with_reducible refine (C1.out _).mono ?_); rintro e w1 ⟨rfl, hb1⟩; have tb := hbel.trans (hb1.mono hsz))
           go_roundg (gk - 1)
           case measure => omega
           case rel => exact ⟨S, _, 1, rfl, rfl, rfl, by omega, hSs, by omega, fun j f hj => (hb1.cell (p := ⟨w.heap.size, j, none⟩) hBlt).trans (HC.out j f hj), by have := hb1.size; omega, tb, hnx⟩)
      · have hnx : Hid (RedIs s T (a || is) 0) := red_next hrel.out hr
        have C1 := Lib.hid c1
        have q1 := ne_size hlt
        clear c1 hr hrel
        cases a <;> cases is <;>
          (go_wp2_with (go_at_call 75; (with_reducible refine (C1.out _).mono ?_); rintro e w1 ⟨rfl, hb1⟩; have tb := hbel.trans (hb1.mono hsz))
           go_roundg (gk - 1)
           case measure => omega
           case rel => exact ⟨T, _, 0, rfl, rfl, rfl, by omega, by omega, by omega, fun j f hj => (hb1.cell (p := ⟨w.heap.size, j, none⟩) hBlt).trans (HC.out j f hj), by have := hb1.size; omega, tb, hnx⟩)
    · rcases step1 S (hrel.out.2.1 (by omega)) with ⟨c1, hnext⟩ | ⟨T, is, c1, hlt, hr⟩
      · have hnx : Hid (RedIs s S a 2) := ⟨hrel.out.1, fun _ => hrel.out.2.1 (by omega), fun _ => hnext, fun h => absurd h (by omega), fun h => absurd h (by omega), fun h => absurd h (by omega)⟩
        have C1 := Lib.hid c1
        clear c1 hnext hrel
        cases a <;>
          (go_wp2_with (go_at_call 76; (with_reducible refine (C1.out _).mono ?_); rintro e w1 ⟨rfl, hb1⟩; have tb := hbel.trans (hb1.mono hsz))
           go_roundg (gk - 1)
           case measure => omega
           case rel => exact ⟨S, _, 2, rfl, rfl, rfl, by omega, hSs, by omega, fun j f hj => (hb1.cell (p := ⟨w.heap.size, j, none⟩) hBlt).trans (HC.out j f hj), by have := hb1.size; omega, tb, hnx⟩)
      · have hnx : Hid (RedIs s T (a || is) 0) := red_next hrel.out hr
        have C1 := Lib.hid c1
        have q1 := ne_size hlt
        clear c1 hr hrel
        cases a <;> cases is <;>
          (go_wp2_with (go_at_call 76; (with_reducible refine (C1.out _).mono ?_); rintro e w1 ⟨rfl, hb1⟩; have tb := hbel.trans (hb1.mono hsz))
           go_roundg (gk - 1)
           case measure => omega
           case rel => exact ⟨T, _, 0, rfl, rfl, rfl, by omega, by omega, by omega, fun j f hj => (hb1.cell (p := ⟨w.heap.size, j, none⟩) hBlt).trans (HC.out j f hj), by have := hb1.size; omega, tb, hnx⟩)
    · rcases step2 S (by omega) (hrel.out.2.1 (by omega)) (hrel.out.2.2.1 (by omega)) with ⟨c1, hnext⟩ | ⟨T, is, c1, hlt, hr⟩
      · have hnx : Hid (RedIs s S a 3) := ⟨hrel.out.1, fun _ => hrel.out.2.1 (by omega), fun _ => hrel.out.2.2.1 (by omega), fun _ => hnext, fun h => absurd h (by omega), fun h => absurd h (by omega)⟩
        have C1 := Lib.hid c1
        clear c1 hnext hrel
        cases a <;>
          (go_wp2_with (go_at_call 77; (with_reducible refine (C1.out _).mono ?_); rintro e w1 ⟨rfl, hb1⟩; have tb := hbel.trans (hb1.mono hsz))
           go_roundg (gk - 1)
           case measure => omega
           case rel => exact ⟨S, _, 3, rfl, rfl, rfl, by omega, hSs, by omega, fun j f hj => (hb1.cell (p := ⟨w.heap.size, j, none⟩) hBlt).trans (HC.out j f hj), by have := hb1.size; omega, tb, hnx⟩)
      · have hnx : Hid (RedIs s T (a || is) 0) := red_next hrel.out hr
        have C1 := Lib.hid c1
        have q1 := ne_size hlt
        clear c1 hr hrel
        cases a <;> cases is <;>
          (go_wp2_with (go_at_call 77; (with_reducible refine (C1.out _).mono ?_); rintro e w1 ⟨rfl, hb1⟩; have tb := hbel.trans (hb1.mono hsz))
           go_roundg (gk - 1)
           case measure => omega
           case rel => exact ⟨T, _, 0, rfl, rfl, rfl, by omega, by omega, by omega, fun j f hj => (hb1.cell (p := ⟨w.heap.size, j, none⟩) hBlt).trans (HC.out j f hj), by have := hb1.size; omega, tb, hnx⟩)
    · rcases step3 S (by omega) (hrel.out.2.1 (by omega)) (hrel.out.2.2.1 (by omega)) (hrel.out.2.2.2.1 (by omega)) with ⟨c1, hnext⟩ | ⟨T, is, c1, hlt, hr⟩
      · have hnx : Hid (RedIs s S a 4) := ⟨hrel.out.1, fun _ => hrel.out.2.1 (by omega), fun _ => hrel.out.2.2.1 (by omega), fun _ => hrel.out.2.2.2.1 (by omega), fun _ => hnext, fun h => absurd h (by omega)⟩
        have C1 := Lib.hid c1
        clear c1 hnext hrel
        cases a <;>
          (go_wp2_with (go_at_call 78; (with_reducible refine (C1.out _).mono ?_); rintro e w1 ⟨rfl, hb1⟩; have tb := hbel.trans (hb1.mono hsz))
           go_roundg (gk - 1)
           case measure => omega
           case rel => exact ⟨S, _, 4, rfl, rfl, rfl, by omega, hSs, by omega, fun j f hj => (hb1.cell (p := ⟨w.heap.size, j, none⟩) hBlt).trans (HC.out j f hj), by have := hb1.size; omega, tb, hnx⟩)
      · have hnx : Hid (RedIs s T (a || is) 0) := red_next hrel.out hr
        have C1 := Lib.hid c1
        have q1 := ne_size hlt
        clear c1 hr hrel
        cases a <;> cases is <;>
          (go_wp2_with (go_at_call 78; (with_reducible refine (C1.out _).mono ?_); rintro e w1 ⟨rfl, hb1⟩; have tb := hbel.trans (hb1.mono hsz))
           go_roundg (gk - 1)
           case measure => omega
           case rel => exact ⟨T, _, 0, rfl, rfl, rfl, by omega, by omega, by omega, fun j f hj => (hb1.cell (p := ⟨w.heap.size, j, none⟩) hBlt).trans (HC.out j f hj), by have := hb1.size; omega, tb, hnx⟩)
    · rcases step4 S (by omega) (hrel.out.2.1 (by omega)) (hrel.out.2.2.1 (by omega)) (hrel.out.2.2.2.1 (by omega)) (hrel.out.2.2.2.2.1 (by omega)) with ⟨c1, hnext⟩ | ⟨T, is, c1, hlt, hr⟩
      · have hnx : Hid (RedIs s S a 5) := ⟨hrel.out.1, fun _ => hrel.out.2.1 (by omega), fun _ => hrel.out.2.2.1 (by omega), fun _ => hrel.out.2.2.2.1 (by omega), fun _ => hrel.out.2.2.2.2.1 (by omega), fun _ => hnext⟩
        have C1 := Lib.hid c1
        clear c1 hnext hrel
        cases a <;>
          (go_wp2_with (go_at_call 79; (with_reducible refine (C1.out _).mono ?_); rintro e w1 ⟨rfl, hb1⟩; have tb := hbel.trans (hb1.mono hsz))
           go_roundg (gk - 1)
           case measure => omega
           case rel => exact ⟨S, _, 5, rfl, rfl, rfl, by omega, hSs, by omega, fun j f hj => (hb1.cell (p := ⟨w.heap.size, j, none⟩) hBlt).trans (HC.out j f hj), by have := hb1.size; omega, tb, hnx⟩)
      · have hnx : Hid (RedIs s T (a || is) 0) := red_next hrel.out hr
        have C1 := Lib.hid c1
        have q1 := ne_size hlt
        clear c1 hr hrel
        cases a <;> cases is <;>
          (go_wp2_with (go_at_call 79; (with_reducible refine (C1.out _).mono ?_); rintro e w1 ⟨rfl, hb1⟩; have tb := hbel.trans (hb1.mono hsz))
           go_roundg (gk - 1)
           case measure => omega
           case rel => exact ⟨T, _, 0, rfl, rfl, rfl, by omega, by omega, by omega, fun j f hj => (hb1.cell (p := ⟨w.heap.size, j, none⟩) hBlt).trans (HC.out j f hj), by have := hb1.size; omega, tb, hnx⟩)
    · have hfin : Hid (AnsIs (red s.data.toList) w (.returned (.tuple #[.string S, .bool a])) wr) := by
        have h := hrel.out
        have hst := red_stays (h.2.1 (by omega)).1 (h.2.1 (by omega)).2 (h.2.2.1 (by omega)) (h.2.2.2.1 (by omega)) (h.2.2.2.2.1 (by omega)) (h.2.2.2.2.2 (by omega))
        have h1 := h.1
        rw [hst] at h1
        refine ⟨?_, hbel⟩
        rw [h1]; simp
      clear hrel
      go_wp2
      go_ret2
      exact hfin.out
end Go.Proofs.YtnclbbgdfaeilaaGreatDoor
