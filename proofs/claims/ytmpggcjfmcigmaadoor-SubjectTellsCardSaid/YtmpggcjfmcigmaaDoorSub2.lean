/- Walks: subject: blob, end, front, mark, wrap. -/
import Derived.Test.YtmpggcjfmcigmaaDoorSub1
namespace Go.Proofs.YtmpggcjfmcigmaaDoor
open Go.RowKit Pk U8 Su

theorem ibS (s : ByteArray) (x : UInt8) (w : World) : Calls Tryd.prog 35 #[.string s, .int .u8 x.toNat] w fun e w' => e = .returned (.int .i64 (Lib.indexByte s.data.toList x)) ∧ w = w' := by
  refine (Tryd.strings_IndexByte s x.toNat w).mono fun _ _ ⟨h1, h2⟩ => ⟨?_, h2.symm⟩
  rw [h1]; simp
theorem ib93 (s : ByteArray) (w : World) : Calls Tryd.prog 35 #[.string s, .int .u8 93] w fun e w' => e = .returned (.int .i64 (Lib.indexByte s.data.toList 93)) ∧ w = w' := ibS s 93 w
theorem ib91 (s : ByteArray) (w : World) : Calls Tryd.prog 35 #[.string s, .int .u8 91] w fun e w' => e = .returned (.int .i64 (Lib.indexByte s.data.toList 91)) ∧ w = w' := ibS s 91 w
theorem pair_same (s : ByteArray) (w : World) (b : Bool) : PairIs (s.data.toList, b) w (.returned (.tuple #[.string s, .bool b])) w := ret_pair rfl rfl
theorem blobP_none {l : List UInt8} (h : blob l = none) : blobP l = (l, false) := by unfold blobP; rw [h]
theorem blobP_some {l t : List UInt8} (h : blob l = some t) : blobP l = (t, true) := by unfold blobP; rw [h]
set_option maxHeartbeats 1000000 in
theorem blob_any (s : ByteArray) (w : World) (hs : s.size ≤ 100000000) : Calls Tryd.prog 51 #[.string s] w (PairIs (blobP s.data.toList) w) := by
  have i1 := ib93 s
  rcases blob_facts s with ⟨h1, hb⟩ | ⟨J, hJ, hi, hb⟩
  · rw [blobP_none hb]
    have hfin := Lib.hid (pair_same s w false)
    obtain ⟨i, hi⟩ : ∃ i, i = Lib.indexByte s.data.toList 93 := ⟨_, rfl⟩
    rw [← hi] at i1 h1
    have I1 := Lib.hid i1
    clear i1 hi hb
    go_enter Tryd.func51, Tryd.ntmps51
    go_wp2_with (go_at_call 35; (with_reducible refine (I1.out _).mono ?_); rintro e w1 ⟨rfl, rfl⟩)
    go_ret2
    exact hfin.out
  · rw [hi] at i1
    have I1 := Lib.hid i1
    have h0 : 0 < s.size := by omega
    clear i1 hi
    rcases hb with ⟨h91, hb⟩ | ⟨h91, hx, hb⟩ | ⟨h91, hx, hb⟩
    · rw [blobP_none hb]
      have hfin := Lib.hid (pair_same s w false)
      have q1 : ((s[0].toNat : Int) != 91) = true := (ne_bb s[0] 91).2 h91
      clear h91 hb
      go_enter Tryd.func51, Tryd.ntmps51
      go_wp2_with (go_at_call 35; (with_reducible refine (I1.out _).mono ?_); rintro e w1 ⟨rfl, rfl⟩)
      go_ret2
      exact hfin.out
    · rw [blobP_none hb]
      have hfin := Lib.hid (pair_same s w false)
      have q1 : ((s[0].toNat : Int) != 91) = false := (ne_bbf s[0] 91).2 h91
      have i2 := ib91 (s.extract 1 (J + 1))
      obtain ⟨x, hxx⟩ : ∃ x, x = Lib.indexByte (s.extract 1 (J + 1)).data.toList 91 := ⟨_, rfl⟩
      rw [← hxx] at i2 hx
      have I2 := Lib.hid i2
      clear h91 hb i2 hxx
      go_enter Tryd.func51, Tryd.ntmps51
      go_wp2_with (first
            | (go_at_call 35; (with_reducible refine (I1.out _).mono ?_); rintro e w1 ⟨rfl, rfl⟩)
            | (go_at_call 35; (with_reducible refine (I2.out _).mono ?_); rintro e w1 ⟨rfl, rfl⟩))
      go_ret2
      exact hfin.out
    · rw [blobP_some hb]
      have q1 : ((s[0].toNat : Int) != 91) = false := (ne_bbf s[0] 91).2 h91
      have i2 := ib91 (s.extract 1 (J + 1))
      obtain ⟨x, hxx⟩ : ∃ x, x = Lib.indexByte (s.extract 1 (J + 1)).data.toList 91 := ⟨_, rfl⟩
      rw [← hxx] at i2 hx
      have I2 := Lib.hid i2
      have f1 := fun w => free_any (s.extract (J + 2) s.size) w
      have hex : (s.extract (J + 2) s.size).data.toList = s.data.toList.drop (J + 2) := by
        rw [ext_listS, List.take_of_length_le (by rw [List.length_drop]; exact Nat.le_refl _)]
      rw [hex] at f1
      have F1 := Lib.hid f1
      have hj2 : J + 1 + 1 = J + 2 := rfl
      clear h91 hb i2 hxx f1 hex hj2
      go_enter Tryd.func51, Tryd.ntmps51
      go_wp2_with (first
            | (go_at_call 35; (with_reducible refine (I1.out _).mono ?_); rintro e w1 ⟨rfl, rfl⟩)
            | (go_at_call 35; (with_reducible refine (I2.out _).mono ?_); rintro e w1 ⟨rfl, rfl⟩)
            | (go_at_call 50; (with_reducible refine (F1.out _).mono ?_); rintro e w1 ⟨rfl, rfl⟩))
      go_ret2
      exact ⟨rfl, rfl⟩
theorem front_any (s : ByteArray) (w : World) : Calls Tryd.prog 30 #[.string s] w (PairIs (free s.data.toList, false) w) := by
  have F1 := Lib.hid (fun w => free_any s w)
  go_enter Tryd.func30, Tryd.ntmps30
  go_wp2_with (go_at_call 50; (with_reducible refine (F1.out _).mono ?_); rintro e w1 ⟨rfl, rfl⟩)
  go_ret2
  exact ⟨rfl, rfl⟩
theorem arrS (l : List UInt8) : ∃ A : ByteArray, A = ⟨l.toArray⟩ ∧ A.data.toList = l ∧ A.size = l.length := ⟨⟨l.toArray⟩, rfl, by simp, by simp [ByteArray.size]⟩
theorem blob_free {l t : List UInt8} (h : blob l = some t) : free t = t := by
  cases l with
  | nil => cases h
  | cons c r =>
    rw [show blob (c :: r) = if c = 91 then blobIn r else none from rfl] at h
    split at h
    · have : ∀ (l t : List UInt8), blobIn l = some t → free t = t := by
        intro l
        induction l with
        | nil => intro t h; cases h
        | cons c r ih =>
          intro t h
          rw [show blobIn (c :: r) = if c = 93 then some (free r) else if c = 91 then none else blobIn r from rfl] at h
          split at h
          · injection h with h; subst h; exact free_free r
          · split at h
            · cases h
            · exact ih t h
      exact this r t h
    · cases h
set_option maxHeartbeats 1000000 in
theorem mark_any (s : ByteArray) (w : World) (hs : s.size ≤ 100000000) : Calls Tryd.prog 32 #[.string s] w (PairIs (markP s.data.toList) w) := by
  have b1 := fun w => blob_any s w hs
  cases hb : blob s.data.toList with
  | none =>
    rw [blobP_none hb] at b1
    have hm : markP s.data.toList = (s.data.toList, false) := by unfold markP; rw [hb]
    rw [hm]
    have hfin := Lib.hid (pair_same s w false)
    have B1 : Hid (∀ w, Calls Tryd.prog 51 #[.string s] w fun e w' => e = .returned (.tuple #[.string s, .bool false]) ∧ w = w') := fun w => by
      have := b1 w; unfold PairIs at this; simpa using this
    clear b1 hb hm
    go_enter Tryd.func32, Tryd.ntmps32
    go_wp2_with (go_at_call 51; (with_reducible refine (B1.out _).mono ?_); rintro e w1 ⟨rfl, rfl⟩)
    go_ret2
    exact hfin.out
  | some t =>
    rw [blobP_some hb] at b1
    obtain ⟨T, hT, hTl, hTs⟩ := arrS t
    have B1 : Hid (∀ w, Calls Tryd.prog 51 #[.string s] w fun e w' => e = .returned (.tuple #[.string T, .bool true]) ∧ w = w') := fun w => by
      have := b1 w; unfold PairIs at this; rw [hT]; exact this
    have hff := blob_free hb
    have f1 := fun w => free_any T w
    rw [hTl, hff, ← hT] at f1
    have F1 := Lib.hid f1
    by_cases ht : t = []
    · have hm : markP s.data.toList = (s.data.toList, false) := by unfold markP; rw [hb]; simp only; rw [if_neg (by rw [hff, ht]; simp)]
      rw [hm]
      have hfin := Lib.hid (pair_same s w false)
      have he : T.toList = [] := by rw [Lib.toList_data, hTl]; exact ht
      clear b1 hb hm hT hTl hTs f1 hff ht
      go_enter Tryd.func32, Tryd.ntmps32
      go_wp2_with (first
            | (go_at_call 51; (with_reducible refine (B1.out _).mono ?_); rintro e w1 ⟨rfl, rfl⟩)
            | (go_at_call 50; (with_reducible refine (F1.out _).mono ?_); rintro e w1 ⟨rfl, rfl⟩))
      go_ret2
      exact hfin.out
    · have hm : markP s.data.toList = (t, false) := by unfold markP; rw [hb]; simp only; rw [if_pos (by rw [hff]; exact ht)]
      rw [hm]
      have hfin : Hid (PairIs (t, false) w (.returned (.tuple #[.string T, .bool false])) w) := ret_pair hTl rfl
      have he : T.toList.isEmpty = false := by rw [Lib.toList_data, hTl]; cases t with
        | nil => exact absurd rfl ht
        | cons a b => rfl
      clear b1 hb hm hT hTl hTs f1 hff ht
      go_enter Tryd.func32, Tryd.ntmps32
      go_wp2_with (first
            | (go_at_call 51; (with_reducible refine (B1.out _).mono ?_); rintro e w1 ⟨rfl, rfl⟩)
            | (go_at_call 50; (with_reducible refine (F1.out _).mono ?_); rintro e w1 ⟨rfl, rfl⟩))
      go_ret2
      exact hfin.out
end Go.Proofs.YtmpggcjfmcigmaaDoor
