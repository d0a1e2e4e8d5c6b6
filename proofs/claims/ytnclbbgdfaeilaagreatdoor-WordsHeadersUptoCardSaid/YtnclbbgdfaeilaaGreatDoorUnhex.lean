/- Walk: num.Unhex. -/
import Derived.Test.YtnclbbgdfaeilaaGreatDoorRows
import Derived.Test.YtnclbbgdfaeilaaGreatDoorBld
import Derived.Test.YtnclbbgdfaeilaaGreatDoorBits
import Derived.Test.YtnclbbgdfaeilaaGreatDoorShelf
import Derived.Test.YtnclbbgdfaeilaaGreatDoorSpc6
import Derived.Deep.QuietTactic
import Derived.BigQuiet
import Derived.Deep.DeepCutAuto
import Derived.WalkSmall
namespace Go.Proofs.YtnclbbgdfaeilaaGreatDoor
open Go.RowKit Pk Hx

theorem bslU : ByteSl Tryz.prog 46 5 where
  ht := Tryz.underlying46
  he := Tryz.underlying5
  hi := info_parts (show (Tryz.prog.info? 5).map (fun i => (i.zero, i.size, i.bytes)) = some (some (.int .u8 0), 1, 1) by kernel_rfl)
theorem ib_any (s : ByteArray) (x : Int) (w : World) : Calls Tryz.prog 48 #[.string s, .int .u8 x] w fun e w' => e = .returned (.int .i64 (Lib.indexByte s.data.toList (b8 x))) ∧ w = w' :=
  (Tryz.strings_IndexByte s x w).mono fun _ _ ⟨h1, h2⟩ => ⟨h1, h2.symm⟩
theorem ret_i64u {a b : Int} (h : a = b) : Ending.returned (.int .i64 a) = .returned (.int .i64 b) := by rw [h]

theorem ixhex_lo {n : Int} (h0 : 0 ≤ n) (h1 : n < 256) (h : n < 65 ∨ 70 < n) : Lib.indexByte [48, 49, 50, 51, 52, 53, 54, 55, 56, 57, 97, 98, 99, 100, 101, 102] (b8 n) = unhexI n := by
  have := ixhex_plain n.toNat (by omega)
  rw [Int.toNat_of_nonneg h0] at this
  exact this (by omega)
theorem ixhex_up {n : Int} (h0 : 65 ≤ n) (h1 : n ≤ 70) : Lib.indexByte [48, 49, 50, 51, 52, 53, 54, 55, 56, 57, 97, 98, 99, 100, 101, 102] (b8 (n + 32)) = unhexI n := by
  have := ixhex_great n.toNat (by omega) (by omega)
  rwa [Int.toNat_of_nonneg (by omega)] at this

theorem hexdig_any (n : Int) (w : World) (h0 : 0 ≤ n) (h1 : n < 256) :
    Calls Tryz.prog 158 #[.int .u8 n] w fun e w' => e = .returned (.int .i64 (unhexI n)) ∧ w' = w := by
  rcases (show (65 ≤ n ∧ n ≤ 70) ∨ n < 65 ∨ 70 < n by omega) with ⟨a, b⟩ | a | a
  · go_enter Tryz.func158, Tryz.ntmps158
    go_wp2_with (go_at_call 48; refine (ib_any _ _ _).mono ?_; rintro e w' ⟨rfl, rfl⟩)
    go_ret
    exact ⟨ret_i64u (ixhex_up a b), rfl⟩
  · go_enter Tryz.func158, Tryz.ntmps158
    go_wp2_with (go_at_call 48; refine (ib_any _ _ _).mono ?_; rintro e w' ⟨rfl, rfl⟩)
    go_ret
    exact ⟨ret_i64u (ixhex_lo h0 h1 (.inl a)), rfl⟩
  · go_enter Tryz.func158, Tryz.ntmps158
    go_wp2_with (go_at_call 48; refine (ib_any _ _ _).mono ?_; rintro e w' ⟨rfl, rfl⟩)
    go_ret
    exact ⟨ret_i64u (ixhex_lo h0 h1 (.inr a)), rfl⟩

theorem ret_sb {a b : List UInt8} {x y : Bool} (h : a = b) (h' : x = y) : Ending.returned (.tuple #[.string ⟨a.toArray⟩, .bool x]) = .returned (.tuple #[.string ⟨b.toArray⟩, .bool y]) := by rw [h, h']

set_option maxHeartbeats 1000000 in
theorem unhex_odd (s : ByteArray) (w : World) (h : s.size % 2 = 1) :
    Calls Tryz.prog 147 #[.string s] w fun e w' => e = .returned (.tuple #[.string ⟨#[]⟩, .bool false]) ∧ w = w' := by
  have hq : decide ((0 : Int) < (s.size : Int) % 2) = true := decide_eq_true (by omega)
  have h' : 0 < (s.size : Int) % 2 := by omega
  clear h
  go_enter Tryz.func147, Tryz.ntmps147
  go_wp2
  go_ret2
  exact ⟨rfl, rfl⟩

theorem unhexL_step {s : ByteArray} {k : Nat} {acc : List UInt8} (h : 2 * k + 1 < s.size) (hr : Hid (unhexL (tl s 0) = (unhexL (tl s (2 * k))).map (acc ++ ·))) :
    (0 ≤ unhexR s[2 * k] → 0 ≤ unhexR s[2 * k + 1] → Hid (unhexL (tl s 0) = (unhexL (tl s (2 * (k + 1)))).map (acc ++ [b8 (unhexR s[2 * k] * 16 + unhexR s[2 * k + 1])] ++ ·))) ∧
    (¬ (0 ≤ unhexR s[2 * k] ∧ 0 ≤ unhexR s[2 * k + 1]) → unhexL (tl s 0) = none) := by
  have e := hr.out
  rw [tl_cons s (2 * k) (by omega), tl_cons s (2 * k + 1) h, unhexL] at e
  constructor
  · intro h1 h2
    rw [if_pos ⟨h1, h2⟩] at e
    show _ = _
    rw [e, Option.map_map, show 2 * (k + 1) = 2 * k + 1 + 1 by omega, Int.mul_comm 16]
    congr 1
    funext x
    simp
  · intro h1
    rw [if_neg h1] at e
    simpa using e
theorem unhexL_end {s : ByteArray} {k : Nat} {acc : List UInt8} (h : s.size ≤ 2 * k) (hr : Hid (unhexL (tl s 0) = (unhexL (tl s (2 * k))).map (acc ++ ·))) : unhexL s.data.toList = some acc := by
  have e := hr.out
  rw [tl_end s (2 * k) h, tl_zero] at e
  simpa [unhexL] using e

set_option maxHeartbeats 2000000 in
theorem unhex_even (s : ByteArray) (w : World) (h : s.size % 2 = 0) (hs : s.size ≤ 1000000000000) :
    Calls Tryz.prog 147 #[.string s] w fun e w' => e = .returned (.tuple #[.string ⟨((unhexL s.data.toList).getD []).toArray⟩, .bool (unhexL s.data.toList).isSome]) ∧ Below w.heap.size w w' := by
  have h' : (s.size : Int) % 2 ≤ 0 := by omega
  obtain ⟨m, hm⟩ : ∃ m : Nat, s.size = 2 * m := ⟨s.size / 2, by omega⟩
  have hm1 : (s.size : Int) ≤ 2 * m := by omega
  have hm2 : 2 * (m : Int) ≤ s.size := by omega
  have HM := Lib.hid hm
  clear h hm
  go_enter Tryz.func147, Tryz.ntmps147
  go_wp2_with (at_make; refine make_bytes _ rfl (.tmp 15) (.tmp 15) bslU rfl w.heap.size .i64 .i64 _ _ m rfl rfl (by omega) (by omega) (by omega) (Nat.le_refl _) ?_; intro w1 hown1 hg1)
  have hsz1 := hg1.size
  have hb1 : Below w.heap.size w w1 := (Below.refl _ _).grown hg1 (Nat.le_refl _) (fun k hk => by cases hk)
  clear hg1
  go_loopw [19] (fun i wr => ∃ (k : Nat) (acc : List UInt8), i = .int .i64 k ∧ ownsB wr w.heap.size 5 (.slice (some ⟨w.heap.size, 0, none⟩) m m) (acc ++ List.replicate (m - k) 0) ∧ Below w.heap.size w wr ∧ k ≤ m ∧ Hid (acc.length = k) ∧ Hid (unhexL (tl s 0) = (unhexL (tl s (2 * k))).map (acc ++ ·))) (fun i _ => m - (intOf i).toNat)
  case atStart => exact ⟨0, [], rfl, hown1, hb1, by omega, rfl, show _ = _ by simp⟩
  case round =>
    obtain ⟨k, acc, rfl, hown, hbel, hk, hal, hrel⟩ := hrel
    have hsz := hbel.size
    by_cases hlt : k < m
    · have j0 : 2 * k < s.size := by have := HM.out; omega
      have j1 : 2 * k + 1 < s.size := by have := HM.out; omega
      have hL : (acc ++ List.replicate (m - k) 0).length = m := by have := hal.out; simp; omega
      have hc := ownsB.cellAt hown hL k (by omega)
      have hc' : ∃ v, wr.cell? ⟨w.heap.size, k, none⟩ = some v := ⟨_, hc⟩
      obtain ⟨v0, hc0⟩ := hc'
      clear hc
      have hf := ownsB.frozenAt hown hL k
      have HL := Lib.hid hL
      clear hL
      obtain ⟨r1, r2⟩ := unhexR_range s[2 * k]
      obtain ⟨r3, r4⟩ := unhexR_range s[2 * k + 1]
      have hstep := unhexL_step (s := s) (k := k) j1 hrel
      have b0 := s[2 * k].toNat_lt
      have b1 := s[2 * k + 1].toNat_lt
      obtain ⟨A, hA⟩ : ∃ A, A = unhexR s[2 * k] := ⟨_, rfl⟩
      obtain ⟨D, hD⟩ : ∃ D, D = unhexR s[2 * k + 1] := ⟨_, rfl⟩
      rw [← hA] at r1 r2 hstep
      rw [← hD] at r3 r4 hstep
      have HA := Lib.hid hA
      have HD := Lib.hid hD
      clear hA hD hrel
      go_upto_region 8 with fail
      go_cut [7, 8] (fun a b wc => a = .int .i64 A ∧ b = .int .i64 D ∧ ∃ n, wc = wr.drewN n)
      case first =>
        have i0 : IntKind.i64.wrap (2 * (k : Int)) = 2 * (k : Int) := w64 rfl (by omega) (by omega)
        have i1 : IntKind.i64.wrap (2 * (k : Int) + 1) = 2 * (k : Int) + 1 := w64 rfl (by omega) (by omega)
        have i2 : (0 : Int) ≤ 2 * (k : Int) := by omega
        have i3 : (0 : Int) ≤ 2 * (k : Int) + 1 := by omega
        have i4 : 2 * (k : Int) < (s.size : Int) := by omega
        have i5 : 2 * (k : Int) + 1 < (s.size : Int) := by omega
        have i6 : (2 * (k : Int)).toNat = 2 * k := by omega
        have i7 : (2 * (k : Int) + 1).toNat = 2 * k + 1 := by omega
        go_wp2_with fail
        go_quiet ((go_at_call 158; exact Calls.quiet_of_same (hexdig_any _ _ (by omega) (by omega))))
        go_wp2_with fail
        go_meet
        exact ⟨by rw [HA.out]; rfl, by rw [HD.out]; rfl, _, rfl⟩
      case rest =>
        obtain ⟨rfl, rfl, nq, rfl⟩ := hcut
        have hown2 : ownsB (wr.drewN nq) w.heap.size 5 (.slice (some ⟨w.heap.size, 0, none⟩) m m) (acc ++ List.replicate (m - k) 0) := hown
        have hbel2 : Below w.heap.size w (wr.drewN nq) := ⟨hbel.os, hbel.tape, hbel.output, hbel.size, hbel.block⟩
        have hc2 : (wr.drewN nq).cell? ⟨w.heap.size, k, none⟩ = some v0 := hc0
        have hf2 : (wr.drewN nq).frozen? ⟨w.heap.size, k, none⟩ = false := hf
        clear hc0 hf hown hbel
        generalize wr.drewN nq = w3 at *
        by_cases hbad : 0 ≤ A ∧ 0 ≤ D
        · obtain ⟨p1, p2⟩ := hbad
          have eo : bits .or .i64 (A * 16) D = A * 16 + D := or_i64 4 (by decide) (by omega) (by omega) (by omega) (by omega) (by omega)
          go_wp2_with fail
          go_roundw
          case rel =>
            refine ⟨k + 1, acc ++ [b8 (A * 16 + D)], by go_num, ?_, hbel2.setCell (Nat.le_refl _) _, by omega, ?_, ?_⟩
            · have := ownsB.stored hown2 HL.out k (A * 16 + D) (by omega) (by omega)
              rwa [set_pad acc k m hal.out hlt] at this
            · show _ = _
              have := hal.out
              simp [this]
            · exact hstep.1 p1 p2
          case measure => simp [intOf]; omega
        · have hn := hstep.2 hbad
          have HN := Lib.hid hn
          clear hn hstep
          rcases (show A < 0 ∨ (0 ≤ A ∧ D < 0) by omega) with p1 | ⟨p1, p2⟩
          all_goals
            clear hbad
            go_wp2
            go_ret2
            refine ⟨?_, hbel2⟩
            rw [tl_zero] at HN
            rw [HN.out]
            rfl
    · have hk2 : k = m := by omega
      subst hk2
      have hfin := Lib.hid (unhexL_end (s := s) (k := k) (by have := HM.out; omega) hrel)
      have he : acc ++ List.replicate (k - k) 0 = acc := by simp
      have hown2 : ownsB wr w.heap.size 5 (.slice (some ⟨w.heap.size, 0, none⟩) k k) acc := by rw [he] at hown; exact hown
      have hcv := run_string_owned (P := Tryz.prog) (ts := 9) bslU Tryz.underlying9 hown2
      clear he hrel hown
      go_wp2
      go_ret2
      rw [hfin.out]
      exact ⟨rfl, hbel⟩
end Go.Proofs.YtnclbbgdfaeilaaGreatDoor
