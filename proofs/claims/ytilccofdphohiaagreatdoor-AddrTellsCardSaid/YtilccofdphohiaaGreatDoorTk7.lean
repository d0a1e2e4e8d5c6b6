/- Walks: token: plain. -/
import Derived.Test.YtilccofdphohiaaGreatDoorTk6
import Derived.Test.YtilccofdphohiaaGreatDoorTkS
namespace Go.Proofs.YtilccofdphohiaaGreatDoor
open Go.RowKit Pk Tk Su Fo

def wOk (B : ByteArray) : Bool := wordOk B.data.toList
theorem split_sp (s : ByteArray) (w : World) (m : Int) (hm : w.cell? ⟨0, 0, none⟩ = some (.int .i64 m)) (hs : s.size ≤ 100000000) :
    ∃ WS : List ByteArray, WS.all wOk = plainQ s.data.toList ∧ WS.length ≤ 100000001 ∧ (∀ x ∈ WS, x.size ≤ 100000000) ∧ Calls Tryz.prog 63 #[.string s, .string ⟨#[32]⟩] w fun e w' => e = .returned (.slice (some ⟨w.heap.size, 0, none⟩) WS.length WS.length) ∧ w' = w.alloc (.cells (WS.map Value.string).toArray 9) := by
  have hL := spl_length 32 s
  have hl := Lib.splitB_all ⟨#[32]⟩ (Nat.le_refl 1) 0 _ s rfl
  have hB := splitB_spl s 32
  have hmem : ∀ x ∈ Lib.splitB ⟨#[32]⟩ 0 (Lib.countB s ⟨#[32]⟩) s, x.size ≤ 100000000 := by
    have : ∀ (k : Nat) (s : ByteArray), s.size ≤ 100000000 → ∀ x ∈ Lib.splitB ⟨#[32]⟩ 0 k s, x.size ≤ 100000000 := by
      intro k
      induction k with
      | zero => intro s hs x hx; rw [Lib.splitB_zero, List.mem_singleton] at hx; rw [hx]; exact hs
      | succ k ih =>
        intro s hs x hx
        unfold Lib.splitB at hx
        split at hx
        · rw [List.mem_singleton] at hx; rw [hx]; exact hs
        · rcases List.mem_cons.1 hx with rfl | hx
          · rw [ext_size]; omega
          · exact ih _ (by rw [ext_size]; omega) x hx
    exact this _ s hs
  refine ⟨Lib.splitB ⟨#[32]⟩ 0 (Lib.countB s ⟨#[32]⟩) s, ?_, ?_, hmem, ?_⟩
  · rw [plainQ_spl, ← hB, List.all_map]; rfl
  · rw [hl, countB_one]
    have : s.data.toList.count 32 ≤ s.data.toList.length := List.count_le_length
    rw [dataL] at this
    omega
  · rw [hl]
    exact Tryz.strings_Split s ⟨#[32]⟩ m w (by omega) hm (Nat.le_refl 1)
theorem row_atomW (s : ByteArray) (w : World) (hs : s.size ≤ 100000000) : Calls Tryz.prog 74 #[.string s, .func (.func 76) #[] #[]] w fun e w' => e = .returned (.int .i64 ((s.data.toList.takeWhile atm).length : Nat)) ∧ w = w' := row_atom s w hs
theorem all_step {α : Type} {p : α → Bool} {m : List α} {i : Nat} {X : Bool} (h : Hid ((m.drop i).all p = X)) (hi : i < m.length) : (p m[i] = true → Hid ((m.drop (i + 1)).all p = X)) ∧ (p m[i] = false → X = false) := by
  have e := h.out
  rw [List.drop_eq_getElem_cons hi, List.all_cons] at e
  exact ⟨fun h1 => by rw [h1, Bool.true_and] at e; exact e, fun h1 => by rw [h1, Bool.false_and] at e; exact e.symm⟩
theorem all_end {α : Type} {p : α → Bool} {m : List α} {i : Nat} {X : Bool} (h : Hid ((m.drop i).all p = X)) (hi : ¬ i < m.length) : X = true := by
  have e := h.out
  rw [List.drop_eq_nil_of_le (by omega)] at e
  exact e.symm
set_option maxHeartbeats 4000000 in
set_option maxRecDepth 100000 in
theorem plain_any (s : ByteArray) (w : World) (m : Int) (hm : w.cell? ⟨0, 0, none⟩ = some (.int .i64 m)) (hs : s.size ≤ 100000000) : Calls Tryz.prog 68 #[.string s] w fun e w' => e = .returned (.bool (plainQ s.data.toList)) ∧ Below w.heap.size w w' := by
  obtain ⟨WS, hall, hlen, hsz, hS⟩ := split_sp s w m hm hs
  have hst : Hid ((WS.drop 0).all wOk = plainQ s.data.toList) := hall
  generalize plainQ s.data.toList = X at hst ⊢
  have hC : ∀ j (h : j < WS.length), (w.alloc (.cells (WS.map Value.string).toArray 9)).cell? ⟨w.heap.size, j, none⟩ = some (.string WS[j]) := fun j h => by
    have := cells_new w (WS.map Value.string) 9 j (.string WS[j]) (by rw [List.getElem?_map, List.getElem?_eq_getElem h]; rfl)
    rwa [Addr.add_lit, Nat.zero_add] at this
  have hb : Below w.heap.size w (w.alloc (.cells (WS.map Value.string).toArray 9)) := (Below.refl _ _).alloc (Nat.le_refl _) _
  have HC := Lib.hid hC
  have HS := Lib.hid hS
  have HZ := Lib.hid hsz
  clear hall hm hC hS hsz
  go_enter Tryz.func68, Tryz.ntmps68
  go_wp2_with (go_at_call 63; (with_reducible refine HS.out.mono ?_); rintro e w' ⟨rfl, rfl⟩)
  generalize w.alloc (.cells (WS.map Value.string).toArray 9) = w1 at *
  go_loop [8] (fun iv => ∃ k : Nat, k ≤ WS.length ∧ iv = .int .i64 k ∧ Hid ((WS.drop k).all wOk = X)) (fun iv => WS.length - (intOf iv).toNat)
  case atStart => exact ⟨0, by omega, by first | rfl | trivial, hst⟩
  case round =>
    obtain ⟨k, hk, rfl, hrel⟩ := hrel
    by_cases hlt : k < WS.length
    · obtain ⟨s1, s2⟩ := all_step hrel hlt
      have hc := HC.out k hlt
      have hz := HZ.out WS[k] (List.getElem_mem hlt)
      generalize WS[k] = B at s1 s2 hc hz
      have hW := fun w => row_atomW B w hz
      have hok : wOk B = (!B.data.toList.isEmpty && decide ((B.data.toList.takeWhile atm).length = B.size)) := by
        unfold wOk wordOk; rw [word_tw]; rfl
      have hle := tw_le atm B.data.toList
      rw [dataL] at hle
      by_cases h0 : B.size = 0
      · have hn := nilS h0
        have : wOk B = false := by rw [hok, List.eq_nil_of_length_eq_zero (show B.data.toList.length = 0 from h0)]; rfl
        obtain rfl := s2 this
        clear s1 s2 hrel hW hok hle this
        go_wp2
        go_ret
        exact ⟨rfl, hb⟩
      · have hn := neS (S := B) (by omega)
        have hn2 : B.data.toList.isEmpty = false := by rw [← Lib.toList_data]; exact hn
        rw [hn2] at hok
        generalize (B.data.toList.takeWhile atm).length = n at hW hok hle
        have HW := Lib.hid hW
        by_cases hq : n = B.size
        · have hd := s1 (by rw [hok, decide_eq_true hq]; rfl)
          have q : decide ((n : Int) < (B.size : Int)) = false := decide_eq_false (by omega)
          clear s1 s2 hrel hW hok hn2
          go_wp2_with (go_at_call 74; refine (HW.out _).mono ?_; rintro e w' ⟨rfl, rfl⟩)
          go_round
          case rel => exact ⟨k + 1, by omega, by go_num, hd⟩
          case measure => simp [intOf]; omega
        · obtain rfl := s2 (by rw [hok, decide_eq_false hq]; rfl)
          have q : decide ((n : Int) < (B.size : Int)) = true := decide_eq_true (by omega)
          clear s1 s2 hrel hW hok hn2
          go_wp2_with (go_at_call 74; refine (HW.out _).mono ?_; rintro e w' ⟨rfl, rfl⟩)
          go_ret
          exact ⟨rfl, hb⟩
    · obtain rfl := all_end hrel hlt
      clear hrel
      go_wp2
      go_ret
      exact ⟨rfl, hb⟩
end Go.Proofs.YtilccofdphohiaaGreatDoor
