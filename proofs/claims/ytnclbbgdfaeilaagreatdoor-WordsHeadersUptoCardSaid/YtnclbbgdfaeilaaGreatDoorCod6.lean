/- Walks: the program's codec: small functions. -/
import Derived.Test.YtnclbbgdfaeilaaGreatDoorRows
import Derived.Test.YtnclbbgdfaeilaaGreatDoorBld
import Derived.Test.YtnclbbgdfaeilaaGreatDoorBits
import Derived.Test.YtnclbbgdfaeilaaGreatDoorSpc6
import Derived.Test.YtnclbbgdfaeilaaGreatDoorUnhex
import Derived.StillTailTactics
namespace Go.Proofs.YtnclbbgdfaeilaaGreatDoor
open Go.RowKit Pk C6 Hx

theorem hexes_at : ∀ i : Nat, (h : i < 16) → ((⟨#[48, 49, 50, 51, 52, 53, 54, 55, 56, 57, 65, 66, 67, 68, 69, 70]⟩ : ByteArray)[i]'h) = hexC (i : Int) := by
  intro i h
  have : ∀ i : Fin 16, ((⟨#[48, 49, 50, 51, 52, 53, 54, 55, 56, 57, 65, 66, 67, 68, 69, 70]⟩ : ByteArray)[i.val]'i.isLt) = hexC (i.val : Int) := by decide
  exact this ⟨i, h⟩
set_option maxHeartbeats 1000000 in
set_option maxRecDepth 100000 in
theorem escape_any (n : Int) (w : World) (h0 : 0 ≤ n) (h1 : n < 256) :
    Calls Tryz.prog 46 #[.int .u8 n] w fun e w' => e = .returned (.string ⟨(escC (b8 n)).toArray⟩) ∧ Below w.heap.size w w' := by
  have e1 := and_u8_15 n h0 h1
  have i1 : 0 ≤ n / 16 := by omega
  have i2 : n / 16 < 16 := by omega
  have i3 : 0 ≤ n % 16 := by omega
  have i4 : n % 16 < 16 := by omega
  have x1 : (⟨#[48, 49, 50, 51, 52, 53, 54, 55, 56, 57, 65, 66, 67, 68, 69, 70]⟩ : ByteArray)[(n / 16).toNat]'(by show (n / 16).toNat < 16; omega) = hexC (n / 16) := by
    have := hexes_at (n / 16).toNat (by omega)
    rwa [Int.toNat_of_nonneg i1] at this
  have x2 : (⟨#[48, 49, 50, 51, 52, 53, 54, 55, 56, 57, 65, 66, 67, 68, 69, 70]⟩ : ByteArray)[(n % 16).toNat]'(by show (n % 16).toNat < 16; omega) = hexC (n % 16) := by
    have := hexes_at (n % 16).toNat (by omega)
    rwa [Int.toNat_of_nonneg i3] at this
  have hcv : (convert 46 9 (.slice (some ⟨w.heap.size, 0, none⟩) 3 3)).run Tryz.prog ((w.alloc (.cells #[.int .u8 61, .int .u8 (hexC (n / 16)).toNat, .int .u8 (hexC (n % 16)).toNat] 5)).drew) =
      .ok (.string ⟨[61, hexC (n / 16), hexC (n % 16)].toArray⟩) ((w.alloc (.cells #[.int .u8 61, .int .u8 (hexC (n / 16)).toNat, .int .u8 (hexC (n % 16)).toNat] 5)).drew) :=
    run_string_owned bslU Tryz.underlying9 (ownsB.lit w [61, hexC (n / 16), hexC (n % 16)] 5 3 rfl (by decide)).drew
  go_enter Tryz.func46, Tryz.ntmps46
  go_wp2_with fail
  go_still_tail 6, (by kernel_rfl)
  go_wp2
  go_ret
  refine ⟨?_, ((Below.refl _ _).alloc (Nat.le_refl _) _).drew⟩
  unfold escC
  rw [b8_toNat n h0 h1]
  rfl

theorem ret_boolp {a b : Bool} (h : a = b) : Ending.returned (.bool a) = .returned (.bool b) := by rw [h]
theorem plainset (n : Int) (h0 : 0 ≤ n) (h1 : n < 256) (h : ¬ ((97 ≤ n ∧ n ≤ 122) ∨ (65 ≤ n ∧ n ≤ 90) ∨ (48 ≤ n ∧ n ≤ 57))) : decide (0 ≤ Lib.indexByte [33, 42, 43, 45, 47] (b8 n)) = decide (plainQ n) := by
  have e : ∀ m : Nat, m < 256 → ¬ ((97 ≤ (m : Int) ∧ (m : Int) ≤ 122) ∨ (65 ≤ (m : Int) ∧ (m : Int) ≤ 90) ∨ (48 ≤ (m : Int) ∧ (m : Int) ≤ 57)) → decide (0 ≤ Lib.indexByte [33, 42, 43, 45, 47] (b8 (m : Int))) = decide (plainQ (m : Int)) := by decide +kernel
  have := e n.toNat (by omega)
  rw [Int.toNat_of_nonneg h0] at this
  exact this h
theorem plainC6_any (n : Int) (w : World) (h0 : 0 ≤ n) (h1 : n < 256) : Calls Tryz.prog 45 #[.int .u8 n] w fun e w' => e = .returned (.bool (decide (plainQ n))) ∧ w = w' := by
  rcases (show (97 ≤ n ∧ n ≤ 122) ∨ (65 ≤ n ∧ n ≤ 90) ∨ (48 ≤ n ∧ n ≤ 57) ∨ n < 48 ∨ (57 < n ∧ n < 65) ∨ (90 < n ∧ n < 97) ∨ 122 < n by omega) with ⟨a, b⟩ | ⟨a, b⟩ | ⟨a, b⟩ | a | ⟨a, b⟩ | ⟨a, b⟩ | a
  all_goals
    go_enter Tryz.func45, Tryz.ntmps45
    go_wp2_with (go_at_call 48; refine (ib_any _ _ _).mono ?_; rintro e w' ⟨rfl, rfl⟩)
    go_ret
    first
      | exact ⟨ret_boolp (decide_eq_true (by unfold plainQ; omega)).symm, rfl⟩
      | exact ⟨ret_boolp (plainset n h0 h1 (by omega)), rfl⟩
      | exact ⟨ret_boolp (by have e := plainset n h0 h1 (by omega); rw [← e]; by_cases c1 : n ≤ 57 <;> by_cases c2 : n ≤ 90 <;> by_cases c3 : n ≤ 122 <;> simp [c1, c2, c3] <;> omega), rfl⟩

/-- the program's reading of one escape sequence -/
theorem byteAt_no (S : ByteArray) (w : World) (h : S.size < 3 ∨ ∃ h : 0 < S.size, S[0].toNat ≠ 61) :
    Calls Tryz.prog 129 #[.string S] w fun e w' => e = .returned (.tuple #[.string ⟨#[]⟩, .bool false]) ∧ Below w.heap.size w w' := by
  rcases h with h | ⟨h, h'⟩
  · go_enter Tryz.func129, Tryz.ntmps129
    go_wp2_with fail
    go_ret2
    exact ⟨rfl, Below.refl _ _⟩
  · by_cases h3 : S.size < 3
    · go_enter Tryz.func129, Tryz.ntmps129
      go_wp2_with fail
      go_ret2
      exact ⟨rfl, Below.refl _ _⟩
    · have hq : ((S[0].toNat : Int) != 61) = true := by rw [bne_iff_ne]; omega
      clear h'
      go_enter Tryz.func129, Tryz.ntmps129
      go_wp2_with fail
      go_ret2
      exact ⟨rfl, Below.refl _ _⟩
theorem ext13 (S : ByteArray) (h3 : ¬ S.size < 3) : (S.extract 1 3).data.toList = [S[1], S[2]] := by
  rw [Lib.extract_data]
  have : S.data.toList.drop 1 = tl S 1 := rfl
  rw [this, tl_cons S 1 (by omega), tl_cons S 2 (by omega)]
  rfl
theorem byteAt_eq (S : ByteArray) (w : World) (h3 : ¬ S.size < 3) (h61 : S[0].toNat = 61) :
    Calls Tryz.prog 129 #[.string S] w fun e w' => e = .returned (.tuple #[.string ⟨((unhexL [S[1], S[2]]).getD []).toArray⟩, .bool (unhexL [S[1], S[2]]).isSome]) ∧ Below w.heap.size w w' := by
  have hq : ((S[0].toNat : Int) != 61) = false := by rw [bne_eq_false_iff_eq]; omega
  clear h61
  have hsz : (S.extract 1 3).size = 2 := by rw [ByteArray.size_extract]; omega
  have hun := unhex_even (S.extract 1 3) w (by omega) (by omega)
  rw [ext13 S h3] at hun
  have HU := Lib.hid hun
  clear hun hsz
  go_enter Tryz.func129, Tryz.ntmps129
  go_wp2_with fail
  refine HU.out.mono ?_
  rintro e w' ⟨rfl, hb⟩
  go_wp2_with fail
  go_ret2
  exact ⟨rfl, hb⟩
theorem unhexL_two (a b : UInt8) (h : 0 ≤ unhexR a ∧ 0 ≤ unhexR b) : unhexL [a, b] = some [b8 (16 * unhexR a + unhexR b)] := by
  unfold unhexL; rw [if_pos h]; rfl
theorem unhexL_bad (a b : UInt8) (h : ¬ (0 ≤ unhexR a ∧ 0 ≤ unhexR b)) : unhexL [a, b] = none := by
  unfold unhexL; rw [if_neg h]

def ntl (S : ByteArray) (k : Nat) : ByteArray := S.extract k S.size
theorem ntl_size (S : ByteArray) (k : Nat) : (S.extract k S.size).size = S.size - k := by rw [ByteArray.size_extract]; omega
theorem ntl_tl (S : ByteArray) (k : Nat) : tl (S.extract k S.size) 0 = tl S k := by
  rw [tl_zero, Lib.extract_to_end]; rfl
theorem str_nil {S : ByteArray} (h : S.size = 0) : S.toList = [] := by
  rw [Lib.toList_data]; exact List.eq_nil_of_length_eq_zero h
theorem str_ne {S : ByteArray} (h : 0 < S.size) : S.toList.isEmpty = false := by
  rw [Lib.toList_data]
  have : S.data.toList.length = S.size := rfl
  cases hd : S.data.toList with
  | nil => rw [hd] at this; simp at this; omega
  | cons c r => rfl
theorem esc_hit {S : ByteArray} {acc X : List UInt8} (h : Hid (acc ++ escR (tl S 0) = X)) (h0 : ¬ S.size < 3) (h1 : S[0].toNat = 61) (h2 : 0 ≤ unhexR S[1] ∧ 0 ≤ unhexR S[2]) :
    Hid (acc ++ [b8 (16 * unhexR S[1] + unhexR S[2])] ++ escR (tl (S.extract 3 S.size) 0) = X) := by
  have e := h.out
  rw [tl_cons S 0 (by omega), tl_cons S 1 (by omega), tl_cons S 2 (by omega), escR, if_pos ⟨h1, h2.1, h2.2⟩] at e
  show _ = _
  rw [← e, ntl_tl]; simp
theorem esc_miss {S : ByteArray} {acc X : List UInt8} (h : Hid (acc ++ escR (tl S 0) = X)) (h0 : 0 < S.size) (h1 : ¬ (∃ h : 2 < S.size, S[0].toNat = 61 ∧ (0 : Int) ≤ unhexR S[1] ∧ (0 : Int) ≤ unhexR S[2])) :
    Hid (acc ++ [S[0]] ++ escR (tl (S.extract 1 S.size) 0) = X) := by
  have e := h.out
  show _ = _
  rw [ntl_tl]
  by_cases h2 : 2 < S.size
  · rw [tl_cons S 0 (by omega), tl_cons S 1 (by omega), tl_cons S 2 h2, escR, if_neg (fun c => h1 ⟨h2, c⟩)] at e
    rw [← e, tl_cons S 1 (by omega), tl_cons S 2 h2]; simp
  · by_cases h3 : 1 < S.size
    · rw [tl_cons S 0 (by omega), tl_cons S 1 (by omega), tl_end S 2 (by omega), escR] at e
      rw [← e, tl_cons S 1 (by omega), tl_end S 2 (by omega)]; simp [escR]
    · rw [tl_cons S 0 (by omega), tl_end S 1 (by omega), escR] at e
      rw [← e, tl_end S 1 (by omega)]; simp [escR]
theorem esc_end {S s : ByteArray} {acc : List UInt8} (h : Hid (acc ++ escR (tl S 0) = escR (tl s 0))) (h0 : ¬ 0 < S.size) : acc = escR s.data.toList := by
  have e := h.out
  rw [tl_end S 0 (by omega), tl_zero] at e
  simpa [escR] using e

set_option maxHeartbeats 2000000 in
theorem unescape_any (s : ByteArray) (w : World) (hs : s.size ≤ 4000000) :
    Calls Tryz.prog 100 #[.string s] w fun e w' => e = .returned (.string ⟨(escR s.data.toList).toArray⟩) ∧ Below w.heap.size w w' := by
  go_enter Tryz.func100, Tryz.ntmps100
  go_wp2
  go_loopw [0] (fun v wr => ∃ (S : ByteArray) (acc : List UInt8), v = .string S ∧ Bld wr w.heap.size w.heap.size acc ∧ Below w.heap.size w wr ∧ acc.length + S.size ≤ s.size ∧ Hid (acc ++ escR (tl S 0) = escR (tl s 0))) (fun v _ => match v with | .string S => S.size | _ => 0)
  case atStart => exact ⟨s, [], rfl, Bld.new w, (Below.refl _ _).alloc (Nat.le_refl _) _, by simp, rfl⟩
  case round =>
    obtain ⟨S, acc, rfl, hB, hbel, hal, hrel⟩ := hrel
    have hsz := hbel.size
    by_cases h0 : 0 < S.size
    · have hne := str_ne h0
      by_cases hg : ∃ h : 2 < S.size, S[0].toNat = 61 ∧ (0 : Int) ≤ unhexR S[1] ∧ (0 : Int) ≤ unhexR S[2]
      · obtain ⟨h3, h61, hx⟩ := hg
        have hstep := esc_hit hrel (by omega) h61 hx
        have hby := fun w => byteAt_eq S w (by omega) h61
        rw [unhexL_two _ _ hx] at hby
        have HBY := Lib.hid hby
        clear hby h61 hx hrel
        go_wp2_with (first
          | (go_at_call 129; refine (HBY.out _).mono ?_; rintro e w' ⟨rfl, hb1⟩; have hB1 := hB.below hb1 (Nat.le_refl _); have hz1 := hb1.size)
          | (go_at_call 31; refine (ws _ _ _ _ _ hB1 (by show acc.length + 1 ≤ _; omega) (by omega)).mono ?_; rintro e w' ⟨rfl, hB2, hb2, -⟩))
        go_roundw
        case rel => exact ⟨_, _, rfl, hB2, (hbel.trans (hb1.mono (by omega))).trans hb2, by rw [ntl_size]; simp; omega, hstep⟩
        case measure => simp; omega
      · have hstep := esc_miss hrel h0 hg
        have hby : Hid (∀ w, Calls Tryz.prog 129 #[.string S] w fun e w' => e = .returned (.tuple #[.string ⟨#[]⟩, .bool false]) ∧ Below w.heap.size w w') := by
          intro w
          by_cases h3 : S.size < 3
          · exact byteAt_no S w (.inl h3)
          · by_cases h61 : S[0].toNat = 61
            · have := byteAt_eq S w h3 h61
              rw [unhexL_bad _ _ (fun c => hg ⟨by omega, h61, c⟩)] at this
              exact this
            · exact byteAt_no S w (.inr ⟨h0, h61⟩)
        clear hg hrel
        go_wp2_with (first
          | (go_at_call 129; refine (hby.out _).mono ?_; rintro e w' ⟨rfl, hb1⟩; have hB1 := hB.below hb1 (Nat.le_refl _); have hz1 := hb1.size)
          | (go_at_call 35; refine (wbc _ _ _ _ _ hB1 (by omega) (by omega)).mono ?_; rintro e w' ⟨rfl, hB2, hb2, -⟩))
        go_roundw
        case rel => exact ⟨_, _, rfl, hB2, (hbel.trans (hb1.mono (by omega))).trans hb2, by rw [ntl_size]; simp; omega, hstep⟩
        case measure => simp; omega
    · have he := str_nil (S := S) (by omega)
      have H := Lib.hid (esc_end hrel h0)
      go_wp2_with (go_at_call 32; refine (bstr _ _ _ _ hB (by omega)).mono ?_; rintro e w' ⟨rfl, -, hb2, -⟩)
      go_ret
      rw [← H.out]
      exact ⟨rfl, hbel.trans hb2⟩

theorem qR_step' {s : ByteArray} {k : Nat} {acc X d : List UInt8} (h : Hid (acc ++ qR (tl s k) = X)) (h0 : k < s.size) (hd : qc s[k] = d) : Hid (acc ++ d ++ qR (tl s (k + 1)) = X) := by
  have e := h.out
  rw [tl_cons s k h0, qR, hd] at e
  show _ = _
  rw [← e]; simp
theorem qR_end' {s : ByteArray} {k : Nat} {acc : List UInt8} (h : Hid (acc ++ qR (tl s k) = qR (tl s 0))) (h0 : ¬ k < s.size) : acc = qR s.data.toList := by
  have e := h.out
  rw [tl_end s k (by omega), tl_zero] at e
  simpa [qR] using e

set_option maxHeartbeats 2000000 in
theorem qP_any (s : ByteArray) (w : World) (hs : s.size ≤ 1000000) :
    Calls Tryz.prog 20 #[.string s] w fun e w' => e = .returned (.string ⟨(qR s.data.toList).toArray⟩) ∧ Below w.heap.size w w' := by
  go_enter Tryz.func20, Tryz.ntmps20
  go_wp2
  go_loopw [8] (fun i wr => ∃ (k : Nat) (acc : List UInt8), i = .int .i64 k ∧ Bld wr w.heap.size w.heap.size acc ∧ Below w.heap.size w wr ∧ k ≤ s.size ∧ acc.length ≤ 3 * k ∧ Hid (acc ++ qR (tl s k) = qR (tl s 0))) (fun i _ => s.size - (intOf i).toNat)
  case atStart => exact ⟨0, [], rfl, Bld.new w, (Below.refl _ _).alloc (Nat.le_refl _) _, by omega, by simp, rfl⟩
  case round =>
    obtain ⟨k, acc, rfl, hB, hbel, hk, hal, hrel⟩ := hrel
    have hsz := hbel.size
    by_cases hlt : k < s.size
    · have hb := s[k].toNat_lt
      by_cases hp : plainQ s[k].toNat
      · have hd := Lib.hid (qR_step' hrel hlt (show qc s[k] = [s[k]] by unfold qc; rw [if_pos hp]))
        have HP : decide (plainQ s[k].toNat) = true := decide_eq_true hp
        clear hp hrel
        go_wp2_with (first
          | (go_at_call 45; refine (plainC6_any _ _ (by omega) (by omega)).mono ?_; rintro e w' ⟨rfl, rfl⟩)
          | (go_at_call 35; refine (wbc _ _ _ _ _ hB (by omega) (by omega)).mono ?_; rintro e w' ⟨rfl, hB2, hb2, -⟩))
        go_roundw
        case rel => exact ⟨k + 1, _, by go_num, hB2, hbel.trans hb2, by omega, by simp; omega, hd.out⟩
        case measure => simp [intOf]; omega
      · have HP : decide (plainQ s[k].toNat) = false := decide_eq_false hp
        by_cases h32 : (s[k].toNat : Int) = 32
        · have hd := Lib.hid (qR_step' hrel hlt (show qc s[k] = [b8 95] by unfold qc; rw [if_neg hp, if_pos h32]; rfl))
          have hq : ((s[k].toNat : Int) == 32) = true := beq_iff_eq.2 h32
          clear hp hrel h32
          go_wp2_with (first
            | (go_at_call 45; refine (plainC6_any _ _ (by omega) (by omega)).mono ?_; rintro e w' ⟨rfl, rfl⟩)
            | (go_at_call 35; refine (wb _ _ _ _ _ hB (by omega) (by omega) (by omega) (by omega)).mono ?_; rintro e w' ⟨rfl, hB2, hb2, -⟩))
          go_roundw
          case rel => exact ⟨k + 1, _, by go_num, hB2, hbel.trans hb2, by omega, by simp; omega, hd.out⟩
          case measure => simp [intOf]; omega
        · have hd := Lib.hid (qR_step' hrel hlt (show qc s[k] = escC s[k] by unfold qc; rw [if_neg hp, if_neg h32]))
          have hq : ((s[k].toNat : Int) == 32) = false := beq_eq_false_iff_ne.2 h32
          have hesc := fun w => escape_any s[k].toNat w (by omega) (by omega)
          rw [b8_of] at hesc
          have HE := Lib.hid hesc
          clear hp hrel h32 hesc
          go_wp2_with (first
            | (go_at_call 45; refine (plainC6_any _ _ (by omega) (by omega)).mono ?_; rintro e w' ⟨rfl, rfl⟩)
            | (go_at_call 46; refine (HE.out _).mono ?_; rintro e w' ⟨rfl, hb1⟩; have hB1 := hB.below hb1 (Nat.le_refl _); have hz1 := hb1.size)
            | (go_at_call 31; refine (ws _ _ _ _ _ hB1 (by show acc.length + 3 ≤ _; omega) (by omega)).mono ?_; rintro e w' ⟨rfl, hB2, hb2, -⟩))
          go_roundw
          case rel => exact ⟨k + 1, _, by go_num, hB2, (hbel.trans (hb1.mono (by omega))).trans hb2, by omega, by simp [escC]; omega, hd.out⟩
          case measure => simp [intOf]; omega
    · have H := Lib.hid (qR_end' hrel hlt)
      go_wp2_with (go_at_call 32; refine (bstr _ _ _ _ hB (by omega)).mono ?_; rintro e w' ⟨rfl, -, hb2, -⟩)
      go_ret
      rw [← H.out]
      exact ⟨rfl, hbel.trans hb2⟩
end Go.Proofs.YtnclbbgdfaeilaaGreatDoor
