/- Walks: subject: starts, free, blob, end, front, mark, wrap. Walks: subject: blob, end, front, mark, wrap. Walks: subject: end, wrap, answer. -/
import Derived.Test.YtnclbbgdfaeilaaGreatDoorRows
import Derived.Test.YtnclbbgdfaeilaaGreatDoorShelf
import Derived.Test.YtnclbbgdfaeilaaGreatDoorSubPP
import Derived.WalkSmall
import Derived.Deep.DeepCutAuto
namespace Go.Proofs.YtnclbbgdfaeilaaGreatDoor
open Go.RowKit Pk U8 Su

/-- a pair of a string and a bool, returned; the world is as it was -/
def PairIs (p : List UInt8 × Bool) (w : World) (e : Ending) (w' : World) : Prop := e = .returned (.tuple #[.string ⟨p.1.toArray⟩, .bool p.2]) ∧ w = w'
theorem ret_pair {A : ByteArray} {b : Bool} {p : List UInt8 × Bool} {w : World} (h1 : A.data.toList = p.1) (h2 : b = p.2) : PairIs p w (.returned (.tuple #[.string A, .bool b])) w := by
  unfold PairIs
  rw [← h1, ← h2]
  exact ⟨by simp, rfl⟩
/-- the first k bytes fit -/
def LowIs (s m : ByteArray) (k : Nat) : Prop := (s.data.toList.take k).map lowc = m.data.toList.take k
theorem low_step {s : ByteArray} {k : Nat} {m : ByteArray} (hk : k < s.size) (hm : k < m.size) (h : LowIs s m k) (hc : lowc s[k] = m[k]) : LowIs s m (k + 1) := by
  unfold LowIs at *
  have e1 : s.data.toList.take (k + 1) = s.data.toList.take k ++ [s[k]] := by rw [List.take_succ_eq_append_getElem (by simpa using hk)]; rfl
  have e2 : m.data.toList.take (k + 1) = m.data.toList.take k ++ [m[k]] := by rw [List.take_succ_eq_append_getElem (by simpa using hm)]; rfl
  rw [e1, e2, List.map_append, h]
  simp [hc]
theorem low_bad {s m : ByteArray} {k : Nat} (hk : k < s.size) (hm : k < m.size) (hc : lowc s[k] ≠ m[k]) : stP m.data.toList s.data.toList = (s.data.toList, false) := by
  have : st m.data.toList s.data.toList = none := by
    unfold st
    rw [if_neg]
    intro h
    apply hc
    have h1 := congrArg (·[k]?) h
    simp only [List.getElem?_map, List.getElem?_take] at h1
    rw [if_pos (by show k < m.size; exact hm)] at h1
    rw [List.getElem?_eq_getElem (by show k < s.size; exact hk), List.getElem?_eq_getElem (by show k < m.size; exact hm)] at h1
    simp at h1
    exact h1
  unfold stP; rw [this]
theorem lowc_up {c : UInt8} (h0 : 65 ≤ c.toNat) (h1 : c.toNat ≤ 90) : ((lowc c).toNat : Int) = (c.toNat : Int) + 32 := by
  unfold lowc; rw [if_pos ⟨h0, h1⟩, UInt8.toNat_add]; simp; omega
theorem lowc_no {c : UInt8} (h : ¬ (65 ≤ c.toNat ∧ c.toNat ≤ 90)) : lowc c = c := by unfold lowc; rw [if_neg h]
theorem ne_bb (a b : UInt8) : ((a.toNat : Int) != (b.toNat : Int)) = true ↔ a ≠ b := by
  rw [bne_iff_ne]
  exact ⟨fun h e => h (by rw [e]), fun h e => h (by rw [← UInt8.toNat_inj]; omega)⟩
theorem ne_bbf (a b : UInt8) : ((a.toNat : Int) != (b.toNat : Int)) = false ↔ a = b := by
  rw [bne_eq_false_iff_eq]
  exact ⟨fun h => by rw [← UInt8.toNat_inj]; omega, fun h => by rw [h]⟩
set_option maxHeartbeats 1000000 in
theorem starts_any (s m : ByteArray) (w : World) (hs : s.size ≤ 100000000) (hm : m.size ≤ 100) :
    Calls Tryz.prog 109 #[.string s, .string m] w (PairIs (stP m.data.toList s.data.toList) w) := by
  by_cases hlen : s.size < m.size
  · have hp : stP m.data.toList s.data.toList = (s.data.toList, false) := by
      have : st m.data.toList s.data.toList = none := by
        unfold st
        rw [if_neg]
        intro h
        have := congrArg List.length h
        simp at this
        have h1 : s.data.toList.length = s.size := rfl
        have h2 : m.data.toList.length = m.size := rfl
        simp at h1 h2
        omega
      unfold stP; rw [this]
    rw [hp]
    have hfin : Hid (PairIs (s.data.toList, false) w (.returned (.tuple #[.string s, .bool false])) w) := ret_pair rfl rfl
    clear hp
    go_enter Tryz.func109, Tryz.ntmps109
    go_wp2
    go_ret2
    exact hfin.out
  · have hge : m.size ≤ s.size := by omega
    have hd0 : decide (s.size < m.size) = false := decide_eq_false hlen
    clear hlen
    go_enter Tryz.func109, Tryz.ntmps109
    go_wp2
    go_loopg [16] m.size (fun g iv wr => ∃ k : Nat, iv = .int .i64 k ∧ m.size ≤ g + k ∧ k ≤ m.size ∧ wr = w ∧ Hid (LowIs s m k))
    case atStart => exact ⟨0, rfl, by omega, by omega, rfl, rfl⟩
    case round =>
      obtain ⟨k, rfl, hg, hk, rfl, hrel⟩ := hrel
      by_cases hlt : k < m.size
      · have hks : k < s.size := by omega
        have hb := s[k].toNat_lt
        by_cases hc : lowc s[k] = m[k]
        · have hst := Lib.hid (low_step hks hlt hrel.out hc)
          by_cases hup : 65 ≤ s[k].toNat ∧ s[k].toNat ≤ 90
          · obtain ⟨u1, u2⟩ := hup
            have e := lowc_up u1 u2
            rw [hc] at e
            have q1 : ((s[k].toNat : Int) + 32 != (m[k].toNat : Int)) = false := by rw [bne_eq_false_iff_eq]; omega
            clear hc e hrel
            go_wp2
            go_roundg (gk - 1)
            case measure => omega
            case rel => exact ⟨k + 1, by go_num, by omega, by omega, rfl, hst⟩
          · have e := lowc_no hup
            rw [hc] at e
            have q1 : ((s[k].toNat : Int) != (m[k].toNat : Int)) = false := (ne_bbf _ _).2 e.symm
            rcases (show s[k].toNat < 65 ∨ (65 ≤ s[k].toNat ∧ 90 < s[k].toNat) by omega) with u | ⟨u, u'⟩
            all_goals
              clear hc e hrel hup
              go_wp2
              go_roundg (gk - 1)
              case measure => omega
              case rel => exact ⟨k + 1, by go_num, by omega, by omega, rfl, hst⟩
        · have hp := low_bad hks hlt hc
          have hfin : Hid (PairIs (stP m.data.toList s.data.toList) wr (.returned (.tuple #[.string s, .bool false])) wr) := by rw [hp]; exact ret_pair rfl rfl
          by_cases hup : 65 ≤ s[k].toNat ∧ s[k].toNat ≤ 90
          · obtain ⟨u1, u2⟩ := hup
            have e := lowc_up u1 u2
            have q1 : ((s[k].toNat : Int) + 32 != (m[k].toNat : Int)) = true := by rw [← e]; exact (ne_bb _ _).2 hc
            clear hc e hrel hp
            go_wp2
            go_ret2
            exact hfin.out
          · have e := lowc_no hup
            rw [e] at hc
            have q1 : ((s[k].toNat : Int) != (m[k].toNat : Int)) = true := (ne_bb _ _).2 hc
            rcases (show s[k].toNat < 65 ∨ (65 ≤ s[k].toNat ∧ 90 < s[k].toNat) by omega) with u | ⟨u, u'⟩
            all_goals
              clear hc e hrel hup hp
              go_wp2
              go_ret2
              exact hfin.out
      · have hkm : k = m.size := by omega
        have h1 := hrel.out
        unfold LowIs at h1
        rw [hkm] at h1
        have hml : m.data.toList.take m.size = m.data.toList := List.take_of_length_le (Nat.le_refl _)
        have hp : stP m.data.toList s.data.toList = (s.data.toList.drop m.size, true) := by
          have : st m.data.toList s.data.toList = some (s.data.toList.drop m.size) := by
            unfold st
            rw [if_pos (by rw [show m.data.toList.length = m.size from rfl, h1, hml])]; rfl
          unfold stP; rw [this]
        have hfin : Hid (PairIs (stP m.data.toList s.data.toList) wr (.returned (.tuple #[.string (s.extract m.size s.size), .bool true])) wr) := by
          rw [hp]
          exact ret_pair (by rw [ext_listS, List.take_of_length_le (by rw [List.length_drop]; exact Nat.le_refl _)]) rfl
        clear hrel h1 hml hp hkm
        go_wp2
        go_ret2
        exact hfin.out
theorem free_any (s : ByteArray) (w : World) : Calls Tryz.prog 110 #[.string s] w fun e w' => e = .returned (.string ⟨(free s.data.toList).toArray⟩) ∧ w = w' := by
  have h := Lib.hid (Tryz.strings_TrimLeft_one s 32 (by decide) w)
  go_enter Tryz.func110, Tryz.ntmps110
  go_wp2_with (go_at_call 134; (with_reducible refine h.out.mono ?_); rintro e w' ⟨rfl, rfl⟩)
  go_ret
  exact ⟨rfl, rfl⟩
end Go.Proofs.YtnclbbgdfaeilaaGreatDoor
namespace Go.Proofs.YtnclbbgdfaeilaaGreatDoor
open Go.RowKit Pk U8 Su

theorem ibS (s : ByteArray) (x : UInt8) (w : World) : Calls Tryz.prog 48 #[.string s, .int .u8 x.toNat] w fun e w' => e = .returned (.int .i64 (Lib.indexByte s.data.toList x)) ∧ w = w' := by
  refine (Tryz.strings_IndexByte s x.toNat w).mono fun _ _ ⟨h1, h2⟩ => ⟨?_, h2.symm⟩
  rw [h1]; simp
theorem ib93 (s : ByteArray) (w : World) : Calls Tryz.prog 48 #[.string s, .int .u8 93] w fun e w' => e = .returned (.int .i64 (Lib.indexByte s.data.toList 93)) ∧ w = w' := ibS s 93 w
theorem ib91 (s : ByteArray) (w : World) : Calls Tryz.prog 48 #[.string s, .int .u8 91] w fun e w' => e = .returned (.int .i64 (Lib.indexByte s.data.toList 91)) ∧ w = w' := ibS s 91 w
theorem pair_same (s : ByteArray) (w : World) (b : Bool) : PairIs (s.data.toList, b) w (.returned (.tuple #[.string s, .bool b])) w := ret_pair rfl rfl
theorem blobP_none {l : List UInt8} (h : blob l = none) : blobP l = (l, false) := by unfold blobP; rw [h]
theorem blobP_some {l t : List UInt8} (h : blob l = some t) : blobP l = (t, true) := by unfold blobP; rw [h]
set_option maxHeartbeats 1000000 in
theorem blob_any (s : ByteArray) (w : World) (hs : s.size ≤ 100000000) : Calls Tryz.prog 111 #[.string s] w (PairIs (blobP s.data.toList) w) := by
  have i1 := ib93 s
  rcases blob_facts s with ⟨h1, hb⟩ | ⟨J, hJ, hi, hb⟩
  · rw [blobP_none hb]
    have hfin := Lib.hid (pair_same s w false)
    obtain ⟨i, hi⟩ : ∃ i, i = Lib.indexByte s.data.toList 93 := ⟨_, rfl⟩
    rw [← hi] at i1 h1
    have I1 := Lib.hid i1
    clear i1 hi hb
    go_enter Tryz.func111, Tryz.ntmps111
    go_wp2_with (go_at_call 48; (with_reducible refine (I1.out _).mono ?_); rintro e w1 ⟨rfl, rfl⟩)
    go_ret2
    exact hfin.out
  · rw [hi] at i1
    have I1 := Lib.hid i1
    have h0 : 0 < s.size := by omega
    clear i1 hi
    rcases hb with ⟨h91, hb⟩ | ⟨h91, hx, hb⟩ | ⟨h91, hx, hb⟩
    · rw [blobP_none hb]
      have hfin := Lib.hid (pair_same s w false)
      have q1 : ((s[0].toNat : Int) != 91) = true := (ne_bb s[0] 91).2 h91
      clear h91 hb
      go_enter Tryz.func111, Tryz.ntmps111
      go_wp2_with (go_at_call 48; (with_reducible refine (I1.out _).mono ?_); rintro e w1 ⟨rfl, rfl⟩)
      go_ret2
      exact hfin.out
    · rw [blobP_none hb]
      have hfin := Lib.hid (pair_same s w false)
      have q1 : ((s[0].toNat : Int) != 91) = false := (ne_bbf s[0] 91).2 h91
      have i2 := ib91 (s.extract 1 (J + 1))
      obtain ⟨x, hxx⟩ : ∃ x, x = Lib.indexByte (s.extract 1 (J + 1)).data.toList 91 := ⟨_, rfl⟩
      rw [← hxx] at i2 hx
      have I2 := Lib.hid i2
      clear h91 hb i2 hxx
      go_enter Tryz.func111, Tryz.ntmps111
      go_wp2_with (first
            | (go_at_call 48; (with_reducible refine (I1.out _).mono ?_); rintro e w1 ⟨rfl, rfl⟩)
            | (go_at_call 48; (with_reducible refine (I2.out _).mono ?_); rintro e w1 ⟨rfl, rfl⟩))
      go_ret2
      exact hfin.out
    · rw [blobP_some hb]
      have q1 : ((s[0].toNat : Int) != 91) = false := (ne_bbf s[0] 91).2 h91
      have i2 := ib91 (s.extract 1 (J + 1))
      obtain ⟨x, hxx⟩ : ∃ x, x = Lib.indexByte (s.extract 1 (J + 1)).data.toList 91 := ⟨_, rfl⟩
      rw [← hxx] at i2 hx
      have I2 := Lib.hid i2
      have f1 := fun w => free_any (s.extract (J + 2) s.size) w
      have hex : (s.extract (J + 2) s.size).data.toList = s.data.toList.drop (J + 2) := by
        rw [ext_listS, List.take_of_length_le (by rw [List.length_drop]; exact Nat.le_refl _)]
      rw [hex] at f1
      have F1 := Lib.hid f1
      have hj2 : J + 1 + 1 = J + 2 := rfl
      clear h91 hb i2 hxx f1 hex hj2
      go_enter Tryz.func111, Tryz.ntmps111
      go_wp2_with (first
            | (go_at_call 48; (with_reducible refine (I1.out _).mono ?_); rintro e w1 ⟨rfl, rfl⟩)
            | (go_at_call 48; (with_reducible refine (I2.out _).mono ?_); rintro e w1 ⟨rfl, rfl⟩)
            | (go_at_call 110; (with_reducible refine (F1.out _).mono ?_); rintro e w1 ⟨rfl, rfl⟩))
      go_ret2
      exact ⟨rfl, rfl⟩
theorem front_any (s : ByteArray) (w : World) : Calls Tryz.prog 76 #[.string s] w (PairIs (free s.data.toList, false) w) := by
  have F1 := Lib.hid (fun w => free_any s w)
  go_enter Tryz.func76, Tryz.ntmps76
  go_wp2_with (go_at_call 110; (with_reducible refine (F1.out _).mono ?_); rintro e w1 ⟨rfl, rfl⟩)
  go_ret2
  exact ⟨rfl, rfl⟩
theorem arrS (l : List UInt8) : ∃ A : ByteArray, A = ⟨l.toArray⟩ ∧ A.data.toList = l ∧ A.size = l.length := ⟨⟨l.toArray⟩, rfl, by simp, by simp [ByteArray.size]⟩
theorem blob_free {l t : List UInt8} (h : blob l = some t) : free t = t := by
  cases l with
  | nil => cases h
  | cons c r =>
    rw [show blob (c :: r) = if c = 91 then blobIn r else none from rfl] at h
    split at h
    · have : ∀ (l t : List UInt8), blobIn l = some t → free t = t := by
        intro l
        induction l with
        | nil => intro t h; cases h
        | cons c r ih =>
          intro t h
          rw [show blobIn (c :: r) = if c = 93 then some (free r) else if c = 91 then none else blobIn r from rfl] at h
          split at h
          · injection h with h; subst h; exact free_free r
          · split at h
            · cases h
            · exact ih t h
      exact this r t h
    · cases h
set_option maxHeartbeats 1000000 in
theorem mark_any (s : ByteArray) (w : World) (hs : s.size ≤ 100000000) : Calls Tryz.prog 78 #[.string s] w (PairIs (markP s.data.toList) w) := by
  have b1 := fun w => blob_any s w hs
  cases hb : blob s.data.toList with
  | none =>
    rw [blobP_none hb] at b1
    have hm : markP s.data.toList = (s.data.toList, false) := by unfold markP; rw [hb]
    rw [hm]
    have hfin := Lib.hid (pair_same s w false)
    have B1 : Hid (∀ w, Calls Tryz.prog 111 #[.string s] w fun e w' => e = .returned (.tuple #[.string s, .bool false]) ∧ w = w') := fun w => by
      have := b1 w; unfold PairIs at this; simpa using this
    clear b1 hb hm
    go_enter Tryz.func78, Tryz.ntmps78
    go_wp2_with (go_at_call 111; (with_reducible refine (B1.out _).mono ?_); rintro e w1 ⟨rfl, rfl⟩)
    go_ret2
    exact hfin.out
  | some t =>
    rw [blobP_some hb] at b1
    obtain ⟨T, hT, hTl, hTs⟩ := arrS t
    have B1 : Hid (∀ w, Calls Tryz.prog 111 #[.string s] w fun e w' => e = .returned (.tuple #[.string T, .bool true]) ∧ w = w') := fun w => by
      have := b1 w; unfold PairIs at this; rw [hT]; exact this
    have hff := blob_free hb
    have f1 := fun w => free_any T w
    rw [hTl, hff, ← hT] at f1
    have F1 := Lib.hid f1
    by_cases ht : t = []
    · have hm : markP s.data.toList = (s.data.toList, false) := by unfold markP; rw [hb]; simp only; rw [if_neg (by rw [hff, ht]; simp)]
      rw [hm]
      have hfin := Lib.hid (pair_same s w false)
      have he : T.toList = [] := by rw [Lib.toList_data, hTl]; exact ht
      clear b1 hb hm hT hTl hTs f1 hff ht
      go_enter Tryz.func78, Tryz.ntmps78
      go_wp2_with (first
            | (go_at_call 111; (with_reducible refine (B1.out _).mono ?_); rintro e w1 ⟨rfl, rfl⟩)
            | (go_at_call 110; (with_reducible refine (F1.out _).mono ?_); rintro e w1 ⟨rfl, rfl⟩))
      go_ret2
      exact hfin.out
    · have hm : markP s.data.toList = (t, false) := by unfold markP; rw [hb]; simp only; rw [if_pos (by rw [hff]; exact ht)]
      rw [hm]
      have hfin : Hid (PairIs (t, false) w (.returned (.tuple #[.string T, .bool false])) w) := ret_pair hTl rfl
      have he : T.toList.isEmpty = false := by rw [Lib.toList_data, hTl]; cases t with
        | nil => exact absurd rfl ht
        | cons a b => rfl
      clear b1 hb hm hT hTl hTs f1 hff ht
      go_enter Tryz.func78, Tryz.ntmps78
      go_wp2_with (first
            | (go_at_call 111; (with_reducible refine (B1.out _).mono ?_); rintro e w1 ⟨rfl, rfl⟩)
            | (go_at_call 110; (with_reducible refine (F1.out _).mono ?_); rintro e w1 ⟨rfl, rfl⟩))
      go_ret2
      exact hfin.out
end Go.Proofs.YtnclbbgdfaeilaaGreatDoor
namespace Go.Proofs.YtnclbbgdfaeilaaGreatDoor
open Go.RowKit Pk U8 Su

theorem st_ends (s : ByteArray) (N : Nat) (hN : N + 5 = s.size) : (stP fwdT (s.extract N s.size).data.toList).2 = endsF s.data.toList := by
  have e : (s.extract N s.size).data.toList = s.data.toList.drop N := by rw [ext_listS, List.take_of_length_le (by rw [List.length_drop]; exact Nat.le_refl _)]
  have hl : s.data.toList.length = s.size := rfl
  have hd : (s.data.toList.drop N).length = 5 := by rw [List.length_drop, hl]; omega
  have h5 : fwdT.length = 5 := rfl
  rw [e]
  unfold stP st endsF
  rw [hl, decide_eq_true (show 5 ≤ s.size by omega), show s.size - 5 = N by omega, h5, List.take_of_length_le (by omega)]
  by_cases h : (s.data.toList.drop N).map lowc = fwdT
  · rw [if_pos h, h]; rfl
  · rw [if_neg h]
    have : ((s.data.toList.drop N).map lowc == fwdT) = false := beq_eq_false_iff_ne.2 h
    rw [this]; rfl
theorem str_back (s : ByteArray) : (⟨s.data.toList.toArray⟩ : ByteArray) = s := by simp
theorem ext_take (s : ByteArray) (N : Nat) : (s.extract 0 N).data.toList = s.data.toList.take N := by rw [ext_listS]; rfl
set_option maxHeartbeats 1000000 in
theorem end_any (s : ByteArray) (w : World) (hs : s.size ≤ 100000000) : Calls Tryz.prog 75 #[.string s] w (PairIs (endP s.data.toList) w) := by
  have t1 := fun w => Tryz.strings_TrimRight_one s 32 (by decide) w (by omega)
  have et : Lib.trimRightB s.data.toList 32 = trimR s.data.toList := rfl
  rw [et] at t1
  by_cases htr : trimR s.data.toList = s.data.toList
  · rw [htr, str_back] at t1
    have T1 := Lib.hid t1
    by_cases h5 : s.size < 5
    · have hp : endP s.data.toList = (s.data.toList, false) := by
        unfold endP; rw [if_neg (by simp [htr]), if_neg (by rw [endsF_short _ (show s.data.toList.length < 5 from h5)]; decide)]
      rw [hp]
      have hfin := Lib.hid (pair_same s w false)
      have hlt : (s.size : Int) - 5 < 0 := by omega
      clear t1 et htr hp
      go_enter Tryz.func75, Tryz.ntmps75
      go_wp2_with (go_at_call 52; (with_reducible refine (T1.out _).mono ?_); rintro e w1 ⟨rfl, rfl⟩)
      go_ret2
      exact hfin.out
    · obtain ⟨N, hN⟩ : ∃ N : Nat, (s.size : Int) - 5 = (N : Int) := ⟨s.size - 5, by omega⟩
      have hN' : N + 5 = s.size := by omega
      have hse := st_ends s N hN'
      have hex := ext_take s N
      have c1 := fun w => starts_any (s.extract N s.size) ⟨#[40, 102, 119, 100, 41]⟩ w (by rw [ByteArray.size_extract]; omega) (by decide)
      have e1 : (⟨#[40, 102, 119, 100, 41]⟩ : ByteArray).data.toList = fwdT := rfl
      rw [e1] at c1
      unfold PairIs at c1
      rw [hse] at c1
      obtain ⟨X, hX⟩ : ∃ X : ByteArray, X = ⟨(stP fwdT (s.extract N s.size).data.toList).1.toArray⟩ := ⟨_, rfl⟩
      rw [← hX] at c1
      have hp : endP s.data.toList = if endsF s.data.toList = true then (s.data.toList.take (s.data.toList.length - 5), true) else (s.data.toList, false) := by
        unfold endP; rw [if_neg (by simp [htr])]
      rw [hp]
      have hlN : s.data.toList.length - 5 = N := by show s.size - 5 = N; omega
      rw [hlN]
      have hNle : N ≤ s.size := by omega
      cases hb : endsF s.data.toList with
      | true =>
        rw [if_pos rfl]
        rw [hb] at c1
        have C1 := Lib.hid c1
        have hfin : Hid (PairIs (s.data.toList.take N, true) w (.returned (.tuple #[.string (s.extract 0 N), .bool true])) w) := ret_pair hex rfl
        clear t1 et htr hp hse hex c1 e1 hX hlN hb hN' h5
        go_enter Tryz.func75, Tryz.ntmps75
        go_wp2_with (first
          | (go_at_call 52; (with_reducible refine (T1.out _).mono ?_); rintro e w1 ⟨rfl, rfl⟩)
          | (go_at_call 109; (with_reducible refine (C1.out _).mono ?_); rintro e w1 ⟨rfl, rfl⟩))
        go_ret2
        exact hfin.out
      | false =>
        rw [if_neg (by decide)]
        rw [hb] at c1
        have C1 := Lib.hid c1
        have hfin := Lib.hid (pair_same s w false)
        clear t1 et htr hp hse hex c1 e1 hX hlN hb hN' h5
        go_enter Tryz.func75, Tryz.ntmps75
        go_wp2_with (first
          | (go_at_call 52; (with_reducible refine (T1.out _).mono ?_); rintro e w1 ⟨rfl, rfl⟩)
          | (go_at_call 109; (with_reducible refine (C1.out _).mono ?_); rintro e w1 ⟨rfl, rfl⟩))
        go_ret2
        exact hfin.out
  · have hp : endP s.data.toList = (trimR s.data.toList, false) := by unfold endP; rw [if_pos htr]
    rw [hp]
    obtain ⟨T, hT, hTl, hTs⟩ := arrS (trimR s.data.toList)
    rw [← hT] at t1
    have T1 := Lib.hid t1
    have q1 : (!T.toList == s.toList) = true := by
      have : (T.toList == s.toList) = false := beq_eq_false_iff_ne.2 (by rw [Lib.toList_data, Lib.toList_data, hTl]; exact htr)
      rw [this]; rfl
    have hfin : Hid (PairIs (trimR s.data.toList, false) w (.returned (.tuple #[.string T, .bool false])) w) := ret_pair hTl rfl
    clear t1 et htr hp hT hTl hTs
    go_enter Tryz.func75, Tryz.ntmps75
    go_wp2_with (go_at_call 52; (with_reducible refine (T1.out _).mono ?_); rintro e w1 ⟨rfl, rfl⟩)
    go_ret2
    exact hfin.out
theorem suf93 (l : List UInt8) : Lib.hasSuffix l [93] = (l.getLast? == some 93) := by
  unfold Lib.hasSuffix
  rw [Bool.eq_iff_iff, List.isSuffixOf_iff_suffix, beq_iff_eq]
  constructor
  · rintro ⟨t, rfl⟩; simp
  · intro h
    rw [List.getLast?_eq_some_iff] at h
    obtain ⟨t, rfl⟩ := h
    exact ⟨t, rfl⟩
set_option maxHeartbeats 1000000 in
theorem wrap_any (s : ByteArray) (w : World) (hs : s.size ≤ 100000000) : Calls Tryz.prog 79 #[.string s] w (PairIs (wrapP s.data.toList) w) := by
  have c1 := fun w => starts_any s ⟨#[91, 102, 119, 100, 58]⟩ w hs (by decide)
  have e1 : (⟨#[91, 102, 119, 100, 58]⟩ : ByteArray).data.toList = fwdB := rfl
  rw [e1] at c1
  unfold PairIs stP at c1
  cases hst : st fwdB s.data.toList with
  | none =>
    rw [hst] at c1
    simp only [str_back] at c1
    have C1 := Lib.hid c1
    have hp : wrapP s.data.toList = (s.data.toList, false) := by unfold wrapP wrap; rw [hst]
    rw [hp]
    have hfin := Lib.hid (pair_same s w false)
    clear c1 e1 hp hst
    go_enter Tryz.func79, Tryz.ntmps79
    go_wp2_with (go_at_call 109; (with_reducible refine (C1.out _).mono ?_); rintro e w1 ⟨rfl, rfl⟩)
    go_ret2
    exact hfin.out
  | some t =>
    rw [hst] at c1
    obtain ⟨T, hT, hTl, hTs⟩ := arrS t
    simp only at c1
    rw [← hT] at c1
    have C1 := Lib.hid c1
    have hTle : T.size ≤ s.size := by
      have h1 := (st_some hst).2.1
      rw [hTs, h1, List.length_drop]; exact Nat.sub_le _ _
    have s1 := fun w => Tryz.strings_HasSuffix T ⟨#[93]⟩ w (by omega)
    have e2 : (⟨#[93]⟩ : ByteArray).data.toList = [93] := rfl
    rw [e2, suf93, hTl] at s1
    by_cases hl : t.getLast? = some 93
    · have hp : wrapP s.data.toList = (t.dropLast, true) := by unfold wrapP wrap; rw [hst]; simp only; rw [if_pos hl]
      rw [hp]
      rw [show (t.getLast? == some 93) = true from beq_iff_eq.2 hl] at s1
      have S1 := Lib.hid s1
      have hpos : 0 < T.size := by rw [hTs]; exact last_pos hl
      obtain ⟨N, hN⟩ : ∃ N : Nat, (T.size : Int) - 1 = (N : Int) := ⟨T.size - 1, by omega⟩
      have hNle : N ≤ T.size := by omega
      have hdl : (T.extract 0 N).data.toList = t.dropLast := by
        rw [ext_take, hTl, List.dropLast_eq_take]
        congr 1; rw [← hTs]; omega
      have hfin : Hid (PairIs (t.dropLast, true) w (.returned (.tuple #[.string (T.extract 0 N), .bool true])) w) := ret_pair hdl rfl
      clear c1 e1 hp hst hT hTl hTs s1 e2 hl hdl
      go_enter Tryz.func79, Tryz.ntmps79
      go_wp2_with (first
        | (go_at_call 109; (with_reducible refine (C1.out _).mono ?_); rintro e w1 ⟨rfl, rfl⟩)
        | (go_at_call 112; (with_reducible refine (S1.out _).mono ?_); rintro e w1 ⟨rfl, rfl⟩))
      go_ret2
      exact hfin.out
    · have hp : wrapP s.data.toList = (s.data.toList, false) := by unfold wrapP wrap; rw [hst]; simp only; rw [if_neg hl]
      rw [hp]
      rw [show (t.getLast? == some 93) = false from beq_eq_false_iff_ne.2 hl] at s1
      have S1 := Lib.hid s1
      have hfin := Lib.hid (pair_same s w false)
      clear c1 e1 hp hst hT hTl hTs s1 e2 hl
      go_enter Tryz.func79, Tryz.ntmps79
      go_wp2_with (first
        | (go_at_call 109; (with_reducible refine (C1.out _).mono ?_); rintro e w1 ⟨rfl, rfl⟩)
        | (go_at_call 112; (with_reducible refine (S1.out _).mono ?_); rintro e w1 ⟨rfl, rfl⟩))
      go_ret2
      exact hfin.out
end Go.Proofs.YtnclbbgdfaeilaaGreatDoor
