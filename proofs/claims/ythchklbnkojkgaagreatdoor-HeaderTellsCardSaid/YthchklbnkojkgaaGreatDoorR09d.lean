/- Walks: reference 09: Pieces, where the text is one piece. -/
import Derived.Test.YthchklbnkojkgaaGreatDoorR09c
namespace Go.Proofs.YthchklbnkojkgaaGreatDoor
open Go.RowKit Pk Hd

theorem pieceF_at : ∀ (c : UInt8) (r : List UInt8), pieceF c r = r.length → ∀ j (h : j + 1 < (c :: r).length), (blk (c :: r)[j + 1] && !blk ((c :: r)[j]'(by omega))) = false
  | c, [], _, j, h => by simp at h
  | c, d :: r, he, j, h => by
    by_cases hb : (blk d && !blk c) = true
    · have e : pieceF c (d :: r) = 0 := by unfold pieceF; rw [if_pos hb]
      rw [e] at he; simp at he
    · have e : pieceF c (d :: r) = pieceF d r + 1 := by
        conv => lhs; unfold pieceF
        rw [if_neg hb]
      rw [e, List.length_cons] at he
      cases j with
      | zero => simpa using hb
      | succ j => exact pieceF_at d r (by omega) j (by simpa using h)
theorem piece_at {s : ByteArray} (h : pieceN s.data.toList = s.data.toList.length) (k : Nat) (hk : k < s.size) (h0 : 0 < k) : (blk s[k] && !blk (s[k - 1]'(by omega))) = false := by
  obtain ⟨j, rfl⟩ : ∃ j, k = j + 1 := ⟨k - 1, by omega⟩
  have hl := dataL s
  have : ∀ l : List UInt8, pieceN l = l.length → ∀ j (h : j + 1 < l.length), (blk l[j + 1] && !blk (l[j]'(by omega))) = false := fun l hl j h => by
    cases l with
    | nil => simp at h
    | cons c r => exact pieceF_at c r (by have : pieceF c r + 1 = r.length + 1 := hl; omega) j h
  exact this s.data.toList h j (by omega)
set_option maxRecDepth 100000 in
theorem rpieces_one (s : ByteArray) (w : World) (hs : s.size ≤ 10000000) (h0 : 0 < s.size) (hp : pieceN s.data.toList = s.data.toList.length) :
    Calls Tryz.prog 16 #[.string s] w fun e w' => (∃ p c, e = .returned (.slice p 1 c)) ∧ Below w.heap.size w w' := by
  have HP := Lib.hid (piece_at hp)
  have hBl := Lib.hid rblank_any
  have z0 : (0 : Int) < (s.size : Int) := by omega
  clear hp
  go_enter Tryz.func16, Tryz.ntmps16
  go_wp2
  go_loop [3, 4, 5] (fun v f iv => ∃ k : Nat, v = .slice none 0 0 ∧ f = .int .i64 0 ∧ iv = .int .i64 k ∧ 1 ≤ k ∧ k ≤ s.size) (fun _ _ iv => s.size - (intOf iv).toNat)
  case atStart => exact ⟨1, rfl, rfl, by first | rfl | trivial, by omega, by omega⟩
  case round =>
    obtain ⟨k, rfl, rfl, rfl, hk1, hk⟩ := hrel
    by_cases hlt : k < s.size
    · have hb := HP.out k hlt (by omega)
      have h1 := fun w => hBl.out s[k] w
      have h2 := fun w => hBl.out s[k - 1] w
      cases b1 : blk s[k] with
      | false =>
        rw [b1] at h1
        have H1 := Lib.hid h1
        clear h1 h2 b1 hb
        go_wp2_with (go_at_call 19; (with_reducible refine (H1.out _).mono ?_); rintro e w1 ⟨rfl, rfl⟩)
        go_round
        case rel => exact ⟨k + 1, rfl, rfl, by go_num, by omega, by omega⟩
        case measure => simp [intOf]; omega
      | true =>
        have b2 : blk s[k - 1] = true := by
          rw [b1] at hb; simpa using hb
        rw [b1] at h1
        rw [b2] at h2
        have H1 := Lib.hid h1
        have H2 := Lib.hid h2
        clear h1 h2 b1 b2 hb
        go_wp2_with (first
          | (go_at_call 19; (with_reducible refine (H1.out _).mono ?_); rintro e w1 ⟨rfl, rfl⟩)
          | (go_at_call 19; (with_reducible refine (H2.out _).mono ?_); rintro e w1 ⟨rfl, rfl⟩))
        go_round
        case rel => exact ⟨k + 1, rfl, rfl, by go_num, by omega, by omega⟩
        case measure => simp [intOf]; omega
    · go_wp2
      go_ret
      refine ⟨⟨_, _, rfl⟩, ?_⟩
      have g1 := (Below.refl w.heap.size w).alloc (Nat.le_refl _) (.cells #[.string s] 9)
      exact (g1.alloc g1.size _).drew
end Go.Proofs.YthchklbnkojkgaaGreatDoor
