/- Walks: the reference of layer 1: Text. -/
import Derived.Test.YtjlbnboggcnamaaDoorRows
import Derived.Test.YtjlbnboggcnamaaDoorBits
import Derived.Test.YtjlbnboggcnamaaDoorPlain1
import Derived.Deep.RegionWith
import Derived.Deep.QuietTactic
import Derived.BigQuiet
import Derived.IntWalk
namespace Go.Proofs.YtjlbnboggcnamaaDoor
open Go.RowKit Pk Hx C1

theorem bslR : ByteSl Tryd.prog 41 5 where
  ht := Tryd.underlying41
  he := Tryd.underlying5
  hi := info_parts (show (Tryd.prog.info? 5).map (fun i => (i.zero, i.size, i.bytes)) = some (some (.int .u8 0), 1, 1) by kernel_rfl)
theorem b8_eq {x : Int} {u : Nat} (h : x = u) : b8 x = UInt8.ofNat u := by subst h; simp [b8]
theorem itoa_one {n : Int} (h0 : 0 ≤ n) (h1 : n < 10) : Lib.itoa n = [b8 (48 + n)] := by
  rw [itoa_pos h0, Lib.decDigits_one (by omega), b8_eq (u := 48 + n.toNat) (by omega)]
theorem itoa_more {n : Int} (h : 10 ≤ n) : Lib.itoa n = Lib.itoa (n / 10) ++ [b8 (48 + n % 10)] := by
  rw [itoa_pos (by omega), itoa_pos (by omega), dd_snoc (by omega), b8_eq (u := 48 + n.toNat % 10) (by omega), show (n / 10).toNat = n.toNat / 10 by omega]
theorem itoa_m1 {n : Int} (h0 : n < 0) (h1 : -10 < n) : Lib.itoa n = [45, b8 (48 - n)] := by
  rw [itoa_ne h0, Lib.decDigits_one (by omega), b8_eq (u := 48 + n.natAbs) (by omega)]
theorem itoa_mm {n : Int} (h : n ≤ -10) : Lib.itoa n = Lib.itoa (-(-n / 10)) ++ [b8 (48 + (-n) % 10)] := by
  rw [itoa_ne (by omega), itoa_ne (by omega), dd_snoc (by omega), b8_eq (u := 48 + n.natAbs % 10) (by omega), show (-(-n / 10)).natAbs = n.natAbs / 10 by omega]
  rfl
theorem one_lit (x : Int) (h0 : 0 ≤ x) (h1 : x < 256) : (Lib.byteCells [b8 x]).toArray = #[Value.int .u8 x] := by simp [Lib.byteCells, b8_toNat x h0 h1]
theorem conv_one (w : World) (x : Int) (h0 : 0 ≤ x) (h1 : x < 256) : (convert 41 9 (.slice (some ⟨w.heap.size, 0, none⟩) 1 1)).run Tryd.prog (w.alloc (.cells #[.int .u8 x] 5)) = .ok (.string ⟨#[b8 x]⟩) (w.alloc (.cells #[.int .u8 x] 5)) := by
  have := run_string_lit (P := Tryd.prog) w bslR Tryd.underlying9 [b8 x] 1 rfl (by decide)
  rw [one_lit x h0 h1] at this
  exact this
theorem conv_oned (w : World) (x : Int) (h0 : 0 ≤ x) (h1 : x < 256) : (convert 41 9 (.slice (some ⟨w.heap.size, 0, none⟩) 1 1)).run Tryd.prog (w.alloc (.cells #[.int .u8 x] 5)).drew = .ok (.string ⟨#[b8 x]⟩) (w.alloc (.cells #[.int .u8 x] 5)).drew := by
  have h := (ownsB.lit w [b8 x] 5 1 rfl (by decide)).drew
  rw [one_lit x h0 h1] at h
  exact run_string_owned bslR Tryd.underlying9 h
theorem conv_later (w w1 : World) (x : Int) (h0 : 0 ≤ x) (h1 : x < 256) (hb : Below (w.alloc (.cells #[.int .u8 x] 5)).drew.heap.size (w.alloc (.cells #[.int .u8 x] 5)).drew w1) : (convert 41 9 (.slice (some ⟨w.heap.size, 0, none⟩) 1 1)).run Tryd.prog w1 = .ok (.string ⟨#[b8 x]⟩) w1 := by
  have h := (ownsB.lit w [b8 x] 5 1 rfl (by decide)).drew
  rw [one_lit x h0 h1] at h
  exact run_string_owned bslR Tryd.underlying9 (h.below hb (Nat.le_refl _))
theorem str_app (l : List UInt8) (c : UInt8) : (⟨l.toArray⟩ ++ ⟨#[c]⟩ : ByteArray) = ⟨(l ++ [c]).toArray⟩ := by
  have : ∀ a b : ByteArray, a.data = b.data → a = b := fun a b h => by cases a; cases b; congr 1
  apply this
  rw [ByteArray.data_append]
  simp
theorem arr_ex1 (l : List UInt8) : ∃ A : ByteArray, A = ⟨l.toArray⟩ ∧ A.data.toList = l ∧ A.size = l.length := ⟨⟨l.toArray⟩, rfl, by simp, by simp [ByteArray.size]⟩

set_option maxHeartbeats 400000 in
theorem textR_any : ∀ (k : Nat) (n : Int) (w : World), n.natAbs ≤ k → -9223372036854775808 ≤ n → n ≤ 9223372036854775807 →
    Calls Tryd.prog 12 #[.int .i64 n] w fun e w' => e = .returned (.string ⟨(Lib.itoa n).toArray⟩) ∧ Below w.heap.size w w' := by
  intro k
  induction k using Nat.strongRecOn with
  | _ k ih =>
    intro n w hk hlo hhi
    rcases (show (0 ≤ n ∧ n < 10) ∨ 10 ≤ n ∨ (n < 0 ∧ -10 < n) ∨ n ≤ -10 by omega) with ⟨a, b⟩ | a | ⟨a, b⟩ | a
    · have hcv := fun wx => conv_one wx (48 + n) (by omega) (by omega)
      have HI := Lib.hid (itoa_one a b)
      clear ih
      go_enter Tryd.func12, Tryd.ntmps12
      go_wp2
      go_ret
      rw [HI.out]
      exact ⟨rfl, (Below.refl _ _).alloc (Nat.le_refl _) _⟩
    · have IH0 := fun w => ih (n / 10).natAbs (by omega) (n / 10) w (Nat.le_refl _) (by omega) (by omega)
      have hlen := itoa_len (n := n / 10) (by omega) (by omega)
      obtain ⟨T, hT, hTl, hTs⟩ := arr_ex1 (Lib.itoa (n / 10))
      rw [← hT] at IH0
      have IH := Lib.hid IH0
      have hTb : T.size ≤ 20 := by omega
      have HT := Lib.hid hT
      clear IH0 hT hTl hTs hlen
      have hcv1 := fun wx => conv_one wx (48 + n % 10) (by omega) (by omega)
      have hcv2 := fun wx => conv_oned wx (48 + n % 10) (by omega) (by omega)
      have HI := Lib.hid (itoa_more a)
      have hc1 : (⟨#[b8 (48 + n % 10)]⟩ : ByteArray).size = 1 := rfl
      have w1 : IntKind.i64.wrap (48 + n % 10) = 48 + n % 10 := w64 rfl (by omega) (by omega)
      have w2 : IntKind.u8.wrap (48 + n % 10) = 48 + n % 10 := w8 (by omega) (by omega)
      have w3 : IntKind.i64.wrap (n.tdiv 10) = n / 10 := w64d (n := 10) (by omega) (by omega) (by decide)
      have w4 : n.tmod 10 = n % 10 := tmod_nn (by omega)
      clear ih
      go_enter Tryd.func12, Tryd.ntmps12
      go_wp2_with fail
      go_region_with (go_at_call 12; (with_reducible refine (IH.out _).mono ?_); rintro e w3 ⟨rfl, hb3⟩; try have hcv3 := conv_later _ _ _ (by omega) (by omega) hb3)
      all_goals
        go_wp2
        go_ret
        refine ⟨by rw [HI.out, ← str_app, ← HT.out]; rfl, ?_⟩
        first
          | exact (((Below.refl _ _).drew).trans hb3).alloc hb3.size _
          | exact (((Below.refl _ _).alloc (Nat.le_refl _) _).drew).trans (hb3.mono (by simp))
    · have hcv := fun wx => conv_one wx (48 - n) (by omega) (by omega)
      have HI := Lib.hid (itoa_m1 a b)
      have w1 : IntKind.i64.wrap (48 - n) = 48 - n := w64 rfl (by omega) (by omega)
      have w2 : IntKind.u8.wrap (48 - n) = 48 - n := w8 (by omega) (by omega)
      have hc1 : (⟨#[b8 (48 - n)]⟩ : ByteArray).size = 1 := rfl
      clear ih
      go_enter Tryd.func12, Tryd.ntmps12
      go_wp2
      go_ret
      rw [HI.out]
      exact ⟨rfl, (Below.refl _ _).alloc (Nat.le_refl _) _⟩
    · have IH0 := fun w => ih (-(-n / 10)).natAbs (by omega) (-(-n / 10)) w (Nat.le_refl _) (by omega) (by omega)
      have hlen := itoa_len (n := -(-n / 10)) (by omega) (by omega)
      obtain ⟨T, hT, hTl, hTs⟩ := arr_ex1 (Lib.itoa (-(-n / 10)))
      rw [← hT] at IH0
      have IH := Lib.hid IH0
      have hTb : T.size ≤ 20 := by omega
      have HT := Lib.hid hT
      have hnn := Lib.hid (Int.neg_neg n)
      clear IH0 hT hTl hTs hlen
      have hcv1 := fun wx => conv_one wx (48 + -n % 10) (by omega) (by omega)
      have hcv2 := fun wx => conv_oned wx (48 + -n % 10) (by omega) (by omega)
      have HI := Lib.hid (itoa_mm a)
      have hc1 : (⟨#[b8 (48 + -n % 10)]⟩ : ByteArray).size = 1 := rfl
      have e1 : n.tdiv 10 = -(-n / 10) := by rw [← Int.tdiv_eq_ediv_of_nonneg (a := -n) (by omega), Int.neg_tdiv, Int.neg_neg]
      have e2 : n.tmod 10 = -(-n % 10) := by rw [← Int.tmod_eq_emod_of_nonneg (a := -n) (by omega), Int.neg_tmod, Int.neg_neg]
      have e3 : (48 : Int) - -(-n % 10) = 48 + -n % 10 := by omega
      have w1 : IntKind.i64.wrap (48 + -n % 10) = 48 + -n % 10 := w64 rfl (by omega) (by omega)
      have w2 : IntKind.u8.wrap (48 + -n % 10) = 48 + -n % 10 := w8 (by omega) (by omega)
      have w3 : IntKind.i64.wrap (-(-n / 10)) = -(-n / 10) := w64 rfl (by omega) (by omega)
      have w5 : IntKind.i64.wrap (-(-n % 10)) = -(-n % 10) := w64 rfl (by omega) (by omega)
      clear ih
      go_enter Tryd.func12, Tryd.ntmps12
      go_wp2_with fail
      go_region_with (go_at_call 12; (with_reducible refine (IH.out _).mono ?_); rintro e w3 ⟨rfl, hb3⟩; try have hcv3 := conv_later _ _ _ (by omega) (by omega) hb3)
      all_goals
        go_wp2
        go_ret
        refine ⟨by rw [HI.out, ← str_app, ← HT.out]; rfl, ?_⟩
        first
          | exact (((Below.refl _ _).drew).trans hb3).alloc hb3.size _
          | exact (((Below.refl _ _).alloc (Nat.le_refl _) _).drew).trans (hb3.mono (by simp))
end Go.Proofs.YtjlbnboggcnamaaDoor
