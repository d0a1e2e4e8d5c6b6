/- Walks: charset: small, bytewise, readers, Decode. -/
import Derived.Test.YtafmldooephmaaaDoorCsD
import Derived.Test.YtafmldooephmaaaDoorKitF
namespace Go.Proofs.YtafmldooephmaaaDoor
open Go.RowKit Pk U8 Cs

theorem bslF : ByteSl Tryd.prog 29 5 where
  ht := Tryd.underlying29
  he := Tryd.underlying5
  hi := info_parts (show (Tryd.prog.info? 5).map (fun i => (i.zero, i.size, i.bytes)) = some (some (.int .u8 0), 1, 1) by kernel_rfl)
def mix (s : ByteArray) (k : Nat) : List UInt8 := (s.data.toList.take k).map Su.lowc ++ s.data.toList.drop k
theorem mix_length (s : ByteArray) (k : Nat) : (mix s k).length = s.size := by
  unfold mix
  have : s.data.toList.length = s.size := rfl
  rw [List.length_append, List.length_map, List.length_take, List.length_drop]; omega
theorem mix_at (s : ByteArray) (k : Nat) (h : k < s.size) (h2 : k < (mix s k).length) : (mix s k)[k] = s[k] := by
  have hl : s.data.toList.length = s.size := rfl
  have e : (mix s k)[k]? = some s[k] := by
    unfold mix
    rw [List.getElem?_append_right (by rw [List.length_map, List.length_take]; omega), List.length_map, List.length_take, List.getElem?_drop]
    have : k + (k - min k s.data.toList.length) = k := by omega
    rw [this, List.getElem?_eq_getElem (by omega)]
    rfl
  rw [List.getElem?_eq_getElem h2] at e
  exact Option.some.inj e
theorem mix_step (s : ByteArray) (k : Nat) (h : k < s.size) : (mix s k).set k (Su.lowc s[k]) = mix s (k + 1) := by
  have hl : s.data.toList.length = s.size := rfl
  unfold mix
  rw [List.set_append_right _ _ (by rw [List.length_map, List.length_take]; omega)]
  have e : k - ((s.data.toList.take k).map Su.lowc).length = 0 := by rw [List.length_map, List.length_take]; omega
  rw [e, List.drop_eq_getElem_cons (by omega), List.set_cons_zero, List.take_succ_eq_append_getElem (by omega), List.map_append]
  simp
  rfl
theorem mix_same (s : ByteArray) (k : Nat) (h : k < s.size) (hl : Su.lowc s[k] = s[k]) : mix s k = mix s (k + 1) := by
  rw [← mix_step s k h, hl]
  have h2 : k < (mix s k).length := by rw [mix_length]; exact h
  have := mix_at s k h h2
  rw [← this]
  exact (List.set_getElem_self h2).symm
theorem mix_zero (s : ByteArray) : mix s 0 = s.data.toList := by unfold mix; simp
theorem mix_end (s : ByteArray) : mix s s.size = s.data.toList.map Su.lowc := by
  unfold mix
  have hl : s.data.toList.length = s.size := rfl
  rw [List.take_of_length_le (by omega), List.drop_eq_nil_of_le (by omega), List.append_nil]
theorem low_b8 {c : UInt8} (h1 : 65 ≤ c.toNat) (h2 : c.toNat ≤ 90) : b8 ((c.toNat : Int) + 97 - 65) = Su.lowc c := by
  unfold Su.lowc
  rw [if_pos ⟨h1, h2⟩]
  apply UInt8.toNat_inj.1
  have := b8_toNat ((c.toNat : Int) + 97 - 65) (by omega) (by omega)
  rw [UInt8.toNat_add]
  have e : (32 : UInt8).toNat = 32 := rfl
  rw [e]
  omega
set_option maxHeartbeats 1000000 in
set_option maxRecDepth 100000 in
theorem smallP_any (s : ByteArray) (w : World) (hs : s.size ≤ 3000000) : Calls Tryd.prog 66 #[.string s] w fun e w' => e = .returned (.string ⟨(s.data.toList.map Su.lowc).toArray⟩) ∧ Below w.heap.size w w' := by
  obtain ⟨cp, w1, hcv, hrow, hb1, hz1⟩ := conv_row (P := Tryd.prog) w 9 29 5 s Tryd.underlying9 Tryd.underlying29 Tryd.underlying5
  rw [← mix_zero] at hrow
  go_enter Tryd.func66, Tryd.ntmps66
  go_wp2
  go_loopw [10] (fun i wr => ∃ (k : Nat), i = .int .i64 k ∧ rowF wr w.heap.size 5 (mix s k) ∧ Below w.heap.size w wr ∧ k ≤ s.size) (fun i _ => s.size - (intOf i).toNat)
  case atStart => exact ⟨0, by first | rfl | trivial, hrow, hb1, by omega⟩
  case round =>
    clear hrow hcv hb1 hz1
    obtain ⟨k, rfl, hrow, hbel, hk⟩ := hrel
    have hsz := hbel.size
    by_cases hlt : k < s.size
    · have hc := rowF_cell hrow k (by rw [mix_length]; exact hlt)
      rw [mix_at s k hlt] at hc
      have hf := rowF_frozen hrow k (by rw [mix_length]; exact hlt)
      have hb := s[k].toNat_lt
      by_cases h1 : 65 ≤ s[k].toNat
      · by_cases h2 : s[k].toNat ≤ 90
        · have hrow2 := rowF_stored hrow k ((s[k].toNat : Int) + 97 - 65) (by omega) (by omega)
          rw [low_b8 h1 h2, mix_step s k hlt] at hrow2
          have hbel2 : Below w.heap.size w (wr.setCell ⟨w.heap.size, k, none⟩ (.int .u8 ((s[k].toNat : Int) + 97 - 65))) := hbel.setCell (Nat.le_refl _) _
          clear hrow
          go_wp2
          go_roundw
          case rel => exact ⟨k + 1, by go_num, hrow2, hbel2, by omega⟩
          case measure => simp [intOf]; omega
        · rw [mix_same s k hlt (by unfold Su.lowc; rw [if_neg (by omega)])] at hrow
          go_wp2
          go_roundw
          case rel => exact ⟨k + 1, by go_num, hrow, hbel, by omega⟩
          case measure => simp [intOf]; omega
      · rw [mix_same s k hlt (by unfold Su.lowc; rw [if_neg (by omega)])] at hrow
        go_wp2
        go_roundw
        case rel => exact ⟨k + 1, by go_num, hrow, hbel, by omega⟩
        case measure => simp [intOf]; omega
    · obtain rfl : k = s.size := by omega
      have hcv := run_string_row (P := Tryd.prog) (ts := 9) (n := s.size) (cap := cp) bslF Tryd.underlying9 hrow (mix_length _ _)
      rw [mix_end] at hcv
      clear hrow
      go_wp2
      go_ret
      exact ⟨rfl, hbel⟩

/-- a byte-wise decoder, made -/
def closV (b : Nat) : Value := .func (.func 86) #[] #[.pointer (some ⟨b, 0, none⟩)]
theorem bytewise_any (fn : Nat) (w : World) : Calls Tryd.prog 67 #[.func (.func fn) #[] #[]] w fun e w' => e = .returned (closV w.heap.size) ∧ w'.cell? ⟨w.heap.size, 0, none⟩ = some (.func (.func fn) #[] #[]) ∧ Below w.heap.size w w' ∧ w.heap.size < w'.heap.size := by
  have hc := cells_new w [.func (.func fn) #[] #[]] 78 0 _ rfl
  rw [Addr.add_lit] at hc
  have hb : Below w.heap.size w (w.alloc (.cells #[.func (.func fn) #[] #[]] 78)) := (Below.refl _ _).alloc (Nat.le_refl _) _
  go_enter Tryd.func67, Tryd.ntmps67
  go_wp2
  go_ret
  exact ⟨rfl, hc, hb, by simp⟩
end Go.Proofs.YtafmldooephmaaaDoor
