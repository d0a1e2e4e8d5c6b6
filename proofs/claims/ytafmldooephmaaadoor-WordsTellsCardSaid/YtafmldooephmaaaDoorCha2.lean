/- Walks: charset: Rune, joined, Repair. -/
import Derived.Test.YtafmldooephmaaaDoorCha1
namespace Go.Proofs.YtafmldooephmaaaDoor
open Go.RowKit Pk U8

theorem enc_str (n : Nat) (h : Sca n) : Utf8.encode (n : Int) = ⟨(Lib.encodeRune (n : Int)).toArray⟩ := by
  have hv := (valid_iff n).2 h
  unfold Sca at h
  unfold Utf8.encode
  rw [if_pos hv, Int.toNat_natCast]
  by_cases h1 : n < 128
  · rw [enc_one n h1]; simp only [show n < 0x80 from h1, if_true]
  · by_cases h2 : n < 2048
    · rw [enc_two n (by omega) h2]; simp only [show ¬ n < 0x80 from h1, show n < 0x800 from h2, if_true, if_false]
    · by_cases h3 : n < 65536
      · rw [enc_three n (by omega)]; simp only [show ¬ n < 0x80 from h1, show ¬ n < 0x800 from h2, show n < 0x10000 from h3, if_true, if_false]
      · rw [enc_four n (by omega) (by omega)]; simp only [show ¬ n < 0x80 from h1, show ¬ n < 0x800 from h2, show ¬ n < 0x10000 from h3, if_false]
theorem rune_any (n : Nat) (w : World) (h : Sca n) : Calls Tryd.prog 26 #[.int .i64 n] w fun e w' => e = .returned (.string ⟨(Lib.encodeRune (n : Int)).toArray⟩) ∧ w = w' := by
  have he := Lib.hid (enc_str n h)
  have hn : n ≤ 1114111 := by unfold Sca at h; omega
  have w1 : IntKind.i32.wrap (n : Int) = (n : Int) := by rw [IntKind.wrap_i32]; omega
  have hcv := fun w => run_convert_int_string (P := Tryd.prog) w 21 9 .i32 (n : Int) (by kernel_rfl) Tryd.underlying9
  rw [he.out] at hcv
  obtain ⟨E, hE⟩ : ∃ E : ByteArray, E = ⟨(Lib.encodeRune (n : Int)).toArray⟩ := ⟨_, rfl⟩
  rw [← hE] at hcv ⊢
  clear h he hE
  go_enter Tryd.func26, Tryd.ntmps26
  go_wp2
  go_ret
  exact ⟨rfl, rfl⟩
def encsZ (ns : List Int) : List UInt8 := ns.flatMap fun n => Lib.encodeRune n
theorem encsZ_step {ns : List Int} {k : Nat} {acc X : List UInt8} (h : Hid (acc ++ encsZ (ns.drop k) = X)) (hk : k < ns.length) : Hid (acc ++ Lib.encodeRune ns[k] ++ encsZ (ns.drop (k + 1)) = X) := by
  have e := h.out
  rw [List.drop_eq_getElem_cons hk] at e
  show _ = _
  rw [← e]
  unfold encsZ
  rw [List.flatMap_cons, List.append_assoc]
theorem encsZ_end {ns : List Int} {k : Nat} {acc X : List UInt8} (h : Hid (acc ++ encsZ (ns.drop k) = X)) (hk : ¬ k < ns.length) : acc = X := by
  have e := h.out
  rw [List.drop_eq_nil_of_le (by omega)] at e
  simpa [encsZ] using e
set_option maxHeartbeats 1000000 in
theorem joined_any (v : Value) (ns : List Int) (w : World) (B : Nat) (hown : ownsI w B 3 v ns) (hl : ns.length ≤ 10000000) (hns : ∀ n ∈ ns, ∃ m : Nat, n = (m : Int) ∧ Sca m) :
    Calls Tryd.prog 32 #[v] w fun e w' => e = .returned (.string ⟨(encsZ ns).toArray⟩) ∧ Below w.heap.size w w' := by
  have HN := Lib.hid hns
  clear hns
  rcases hown.form with ⟨rfl, rfl⟩ | ⟨g, cap, rfl, hBg, hlc, hcm, hcells⟩
  · clear hown
    go_enter Tryd.func32, Tryd.ntmps32
    go_wp2
    go_loopw [8] (fun i wr => i = .int .i64 0 ∧ Bld wr w.heap.size w.heap.size [] ∧ Below w.heap.size w wr) (fun _ _ => 0)
    case atStart => exact ⟨rfl, Bld.new w, (Below.refl _ _).alloc (Nat.le_refl _) _⟩
    case round =>
      obtain ⟨rfl, hB, hbel⟩ := hrel
      have hsz := hbel.size
      go_wp2_with (go_at_call 19; (with_reducible refine (bstr _ _ _ _ hB (by omega)).mono ?_); rintro e w4 ⟨rfl, -, hb4, -⟩)
      go_ret
      exact ⟨rfl, hbel.trans hb4⟩
  · have hglt : 0 < ns.length → g < w.heap.size := fun h0 => World.block_lt_of_cell? _ _ (hcells 0 h0)
    have HC := Lib.hid hcells
    have hglt' := Lib.hid hglt
    clear hcells hown hglt
    go_enter Tryd.func32, Tryd.ntmps32
    go_wp2
    go_loopw [8] (fun i wr => ∃ (k : Nat) (acc : List UInt8), i = .int .i64 k ∧ Bld wr w.heap.size w.heap.size acc ∧ Below w.heap.size w wr ∧ k ≤ ns.length ∧ acc.length ≤ 4 * k ∧ Hid (acc ++ encsZ (ns.drop k) = encsZ (ns.drop 0))) (fun i _ => ns.length - (intOf i).toNat)
    case atStart => exact ⟨0, [], rfl, Bld.new w, (Below.refl _ _).alloc (Nat.le_refl _) _, by omega, by simp, rfl⟩
    case round =>
      obtain ⟨k, acc, rfl, hB, hbel, hk, hal, hrel⟩ := hrel
      have hsz := hbel.size
      by_cases hlt : k < ns.length
      · have hc := cell_later hbel (HC.out k hlt)
        obtain ⟨m, hm, hsm⟩ := HN.out ns[k] (List.getElem_mem _)
        have hstep := encsZ_step hrel hlt
        rw [hm] at hc hstep
        have hel := enc_len m
        obtain ⟨E, hE, hEl, hEs⟩ : ∃ E : ByteArray, E = ⟨(Lib.encodeRune (m : Int)).toArray⟩ ∧ E.data.toList = Lib.encodeRune (m : Int) ∧ E.size = (Lib.encodeRune (m : Int)).length := ⟨_, rfl, by simp, by simp [ByteArray.size]⟩
        have hrn := fun w => rune_any m w hsm
        rw [← hE] at hrn
        rw [← hEl] at hstep
        have HR := Lib.hid hrn
        have HST := Lib.hid hstep
        have hE4 : E.size ≤ 4 := by omega
        have hEl' : E.data.toList.length = E.size := rfl
        have hE5 : E.data.toList.length ≤ 4 := by omega
        clear hrel hstep hm hsm hel hrn hE hEl hEs hEl'
        go_wp2_with (first
          | (go_at_call 26; (with_reducible refine (HR.out _).mono ?_); rintro e w1 ⟨rfl, rfl⟩)
          | (go_at_call 17; (with_reducible refine (ws _ _ _ _ _ hB (by omega) (by omega)).mono ?_); rintro e w4 ⟨rfl, hB4, hb4, -⟩))
        go_roundw
        case rel => exact ⟨k + 1, _, by go_num, hB4, hbel.trans hb4, by omega, by rw [List.length_append]; omega, HST.out⟩
        case measure => simp [intOf]; omega
      · have hfin := encsZ_end hrel hlt
        rw [List.drop_zero] at hfin
        have HF := Lib.hid hfin
        clear hrel hfin
        go_wp2_with (go_at_call 19; (with_reducible refine (bstr _ _ _ _ hB (by omega)).mono ?_); rintro e w4 ⟨rfl, -, hb4, -⟩)
        go_ret
        rw [← HF.out]
        exact ⟨rfl, hbel.trans hb4⟩
theorem encsZ_runes (l : List UInt8) : encsZ (runesZ l) = repairL l := by
  rw [runesZ_eq _ l (Nat.le_refl _), repair_encs _ l (Nat.le_refl _)]
  unfold encsZ encs
  rw [List.flatMap_map]
theorem runesZ_mem (l : List UInt8) : ∀ n ∈ runesZ l, ∃ m : Nat, n = (m : Int) ∧ Sca m := by
  rw [runesZ_eq _ l (Nat.le_refl _)]
  intro n hn
  obtain ⟨m, hm, rfl⟩ := List.mem_map.1 hn
  exact ⟨m, rfl, runes_Sca _ l (Nat.le_refl _) m hm⟩
theorem runesZ_length (l : List UInt8) : (runesZ l).length ≤ l.length := by
  rw [runesZ_eq _ l (Nat.le_refl _), List.length_map]; exact runes_length l
theorem repairP_any (s : ByteArray) (w : World) (hT : Tabs w) (hs : s.size ≤ 10000000) : Calls Tryd.prog 13 #[.string s] w fun e w' => e = .returned (.string ⟨(repairL s.data.toList).toArray⟩) ∧ Below w.heap.size w w' := by
  have hr := Lib.hid (runesP_any s w hT hs)
  have hlen : (runesZ s.data.toList).length ≤ 10000000 := by
    have := runesZ_length s.data.toList
    have h2 : s.data.toList.length = s.size := rfl
    omega
  have HM := Lib.hid (runesZ_mem s.data.toList)
  have HE := Lib.hid (encsZ_runes s.data.toList)
  clear hT
  go_enter Tryd.func13, Tryd.ntmps13
  go_wp2_with (first
    | (go_at_call 24; (with_reducible refine hr.out.mono ?_); rintro e w1 ⟨v, rfl, hown, hb1⟩; have z1 := hb1.size)
    | (go_at_call 32; (with_reducible refine (joined_any _ _ _ _ hown hlen HM.out).mono ?_); rintro e w2 ⟨rfl, hb2⟩))
  go_ret
  rw [← HE.out]
  exact ⟨rfl, hb1.trans (hb2.mono z1)⟩
end Go.Proofs.YtafmldooephmaaaDoor
