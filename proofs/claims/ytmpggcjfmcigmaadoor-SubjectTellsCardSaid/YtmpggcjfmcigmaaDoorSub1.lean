/- Walks: subject: starts, free, blob, end, front, mark, wrap. -/
import Derived.Test.YtmpggcjfmcigmaaDoorRows
import Derived.Test.YtmpggcjfmcigmaaDoorShelf
import Derived.Test.YtmpggcjfmcigmaaDoorSubP2
import Derived.WalkSmall
import Derived.Deep.DeepCutAuto
namespace Go.Proofs.YtmpggcjfmcigmaaDoor
open Go.RowKit Pk U8 Su

/-- a pair of a string and a bool, returned; the world is as it was -/
def PairIs (p : List UInt8 × Bool) (w : World) (e : Ending) (w' : World) : Prop := e = .returned (.tuple #[.string ⟨p.1.toArray⟩, .bool p.2]) ∧ w = w'
theorem ret_pair {A : ByteArray} {b : Bool} {p : List UInt8 × Bool} {w : World} (h1 : A.data.toList = p.1) (h2 : b = p.2) : PairIs p w (.returned (.tuple #[.string A, .bool b])) w := by
  unfold PairIs
  rw [← h1, ← h2]
  exact ⟨by simp, rfl⟩
/-- the first k bytes fit -/
def LowIs (s m : ByteArray) (k : Nat) : Prop := (s.data.toList.take k).map lowc = m.data.toList.take k
theorem low_step {s : ByteArray} {k : Nat} {m : ByteArray} (hk : k < s.size) (hm : k < m.size) (h : LowIs s m k) (hc : lowc s[k] = m[k]) : LowIs s m (k + 1) := by
  unfold LowIs at *
  have e1 : s.data.toList.take (k + 1) = s.data.toList.take k ++ [s[k]] := by rw [List.take_succ_eq_append_getElem (by simpa using hk)]; rfl
  have e2 : m.data.toList.take (k + 1) = m.data.toList.take k ++ [m[k]] := by rw [List.take_succ_eq_append_getElem (by simpa using hm)]; rfl
  rw [e1, e2, List.map_append, h]
  simp [hc]
theorem low_bad {s m : ByteArray} {k : Nat} (hk : k < s.size) (hm : k < m.size) (hc : lowc s[k] ≠ m[k]) : stP m.data.toList s.data.toList = (s.data.toList, false) := by
  have : st m.data.toList s.data.toList = none := by
    unfold st
    rw [if_neg]
    intro h
    apply hc
    have h1 := congrArg (·[k]?) h
    simp only [List.getElem?_map, List.getElem?_take] at h1
    rw [if_pos (by show k < m.size; exact hm)] at h1
    rw [List.getElem?_eq_getElem (by show k < s.size; exact hk), List.getElem?_eq_getElem (by show k < m.size; exact hm)] at h1
    simp at h1
    exact h1
  unfold stP; rw [this]
theorem lowc_up {c : UInt8} (h0 : 65 ≤ c.toNat) (h1 : c.toNat ≤ 90) : ((lowc c).toNat : Int) = (c.toNat : Int) + 32 := by
  unfold lowc; rw [if_pos ⟨h0, h1⟩, UInt8.toNat_add]; simp; omega
theorem lowc_no {c : UInt8} (h : ¬ (65 ≤ c.toNat ∧ c.toNat ≤ 90)) : lowc c = c := by unfold lowc; rw [if_neg h]
theorem ne_bb (a b : UInt8) : ((a.toNat : Int) != (b.toNat : Int)) = true ↔ a ≠ b := by
  rw [bne_iff_ne]
  exact ⟨fun h e => h (by rw [e]), fun h e => h (by rw [← UInt8.toNat_inj]; omega)⟩
theorem ne_bbf (a b : UInt8) : ((a.toNat : Int) != (b.toNat : Int)) = false ↔ a = b := by
  rw [bne_eq_false_iff_eq]
  exact ⟨fun h => by rw [← UInt8.toNat_inj]; omega, fun h => by rw [h]⟩
set_option maxHeartbeats 1000000 in
theorem starts_any (s m : ByteArray) (w : World) (hs : s.size ≤ 100000000) (hm : m.size ≤ 100) :
    Calls Tryd.prog 49 #[.string s, .string m] w (PairIs (stP m.data.toList s.data.toList) w) := by
  by_cases hlen : s.size < m.size
  · have hp : stP m.data.toList s.data.toList = (s.data.toList, false) := by
      have : st m.data.toList s.data.toList = none := by
        unfold st
        rw [if_neg]
        intro h
        have := congrArg List.length h
        simp at this
        have h1 : s.data.toList.length = s.size := rfl
        have h2 : m.data.toList.length = m.size := rfl
        simp at h1 h2
        omega
      unfold stP; rw [this]
    rw [hp]
    have hfin : Hid (PairIs (s.data.toList, false) w (.returned (.tuple #[.string s, .bool false])) w) := ret_pair rfl rfl
    clear hp
    go_enter Tryd.func49, Tryd.ntmps49
    go_wp2
    go_ret2
    exact hfin.out
  · have hge : m.size ≤ s.size := by omega
    have hd0 : decide (s.size < m.size) = false := decide_eq_false hlen
    clear hlen
    go_enter Tryd.func49, Tryd.ntmps49
    go_wp2
    go_loopg [16] m.size (fun g iv wr => ∃ k : Nat, iv = .int .i64 k ∧ m.size ≤ g + k ∧ k ≤ m.size ∧ wr = w ∧ Hid (LowIs s m k))
    case atStart => exact ⟨0, rfl, by omega, by omega, rfl, rfl⟩
    case round =>
      obtain ⟨k, rfl, hg, hk, rfl, hrel⟩ := hrel
      by_cases hlt : k < m.size
      · have hks : k < s.size := by omega
        have hb := s[k].toNat_lt
        by_cases hc : lowc s[k] = m[k]
        · have hst := Lib.hid (low_step hks hlt hrel.out hc)
          by_cases hup : 65 ≤ s[k].toNat ∧ s[k].toNat ≤ 90
          · obtain ⟨u1, u2⟩ := hup
            have e := lowc_up u1 u2
            rw [hc] at e
            have q1 : ((s[k].toNat : Int) + 32 != (m[k].toNat : Int)) = false := by rw [bne_eq_false_iff_eq]; omega
            clear hc e hrel
            go_wp2
            go_roundg (gk - 1)
            case measure => omega
            case rel => exact ⟨k + 1, by go_num, by omega, by omega, rfl, hst⟩
          · have e := lowc_no hup
            rw [hc] at e
            have q1 : ((s[k].toNat : Int) != (m[k].toNat : Int)) = false := (ne_bbf _ _).2 e.symm
            rcases (show s[k].toNat < 65 ∨ (65 ≤ s[k].toNat ∧ 90 < s[k].toNat) by omega) with u | ⟨u, u'⟩
            all_goals
              clear hc e hrel hup
              go_wp2
              go_roundg (gk - 1)
              case measure => omega
              case rel => exact ⟨k + 1, by go_num, by omega, by omega, rfl, hst⟩
        · have hp := low_bad hks hlt hc
          have hfin : Hid (PairIs (stP m.data.toList s.data.toList) wr (.returned (.tuple #[.string s, .bool false])) wr) := by rw [hp]; exact ret_pair rfl rfl
          by_cases hup : 65 ≤ s[k].toNat ∧ s[k].toNat ≤ 90
          · obtain ⟨u1, u2⟩ := hup
            have e := lowc_up u1 u2
            have q1 : ((s[k].toNat : Int) + 32 != (m[k].toNat : Int)) = true := by rw [← e]; exact (ne_bb _ _).2 hc
            clear hc e hrel hp
            go_wp2
            go_ret2
            exact hfin.out
          · have e := lowc_no hup
            rw [e] at hc
            have q1 : ((s[k].toNat : Int) != (m[k].toNat : Int)) = true := (ne_bb _ _).2 hc
            rcases (show s[k].toNat < 65 ∨ (65 ≤ s[k].toNat ∧ 90 < s[k].toNat) by omega) with u | ⟨u, u'⟩
            all_goals
              clear hc e hrel hup hp
              go_wp2
              go_ret2
              exact hfin.out
      · have hkm : k = m.size := by omega
        have h1 := hrel.out
        unfold LowIs at h1
        rw [hkm] at h1
        have hml : m.data.toList.take m.size = m.data.toList := List.take_of_length_le (Nat.le_refl _)
        have hp : stP m.data.toList s.data.toList = (s.data.toList.drop m.size, true) := by
          have : st m.data.toList s.data.toList = some (s.data.toList.drop m.size) := by
            unfold st
            rw [if_pos (by rw [show m.data.toList.length = m.size from rfl, h1, hml])]; rfl
          unfold stP; rw [this]
        have hfin : Hid (PairIs (stP m.data.toList s.data.toList) wr (.returned (.tuple #[.string (s.extract m.size s.size), .bool true])) wr) := by
          rw [hp]
          exact ret_pair (by rw [ext_listS, List.take_of_length_le (by rw [List.length_drop]; exact Nat.le_refl _)]) rfl
        clear hrel h1 hml hp hkm
        go_wp2
        go_ret2
        exact hfin.out
theorem free_any (s : ByteArray) (w : World) : Calls Tryd.prog 50 #[.string s] w fun e w' => e = .returned (.string ⟨(free s.data.toList).toArray⟩) ∧ w = w' := by
  have h := Lib.hid (Tryd.strings_TrimLeft_one s 32 (by decide) w)
  go_enter Tryd.func50, Tryd.ntmps50
  go_wp2_with (go_at_call 69; (with_reducible refine h.out.mono ?_); rintro e w' ⟨rfl, rfl⟩)
  go_ret
  exact ⟨rfl, rfl⟩
end Go.Proofs.YtmpggcjfmcigmaaDoor
