/- Walk: subject: answer. -/
import Derived.Test.YtnclbbgdfaeilaaGreatDoorSubA
namespace Go.Proofs.YtnclbbgdfaeilaaGreatDoor
open Go.RowKit Pk U8 Su

def AnsIs (p : List UInt8 × Bool) (w : World) (e : Ending) (w' : World) : Prop := e = .returned (.tuple #[.string ⟨p.1.toArray⟩, .bool p.2]) ∧ Below w.heap.size w w'
theorem tm_none {m t : List UInt8} (h : st m t = none) : tryMark m t = none := by unfold tryMark; rw [h]
theorem cut58 (l : List UInt8) : (Lib.hasPrefix l [58] = true ∧ ∃ q, l = 58 :: q ∧ Lib.trimPrefix l [58] = q) ∨ (Lib.hasPrefix l [58] = false ∧ Lib.trimPrefix l [58] = l ∧ ∀ q, l ≠ 58 :: q) := by
  cases l with
  | nil => right; exact ⟨rfl, rfl, fun q h => by cases h⟩
  | cons c r =>
    by_cases hc : c = 58
    · subst hc; left; exact ⟨rfl, r, rfl, rfl⟩
    · right
      have h : Lib.hasPrefix (c :: r) [58] = false := by unfold Lib.hasPrefix; simp [List.isPrefixOf]; exact fun e => hc e.symm
      refine ⟨h, by unfold Lib.trimPrefix; rw [h]; rfl, fun q hq => ?_⟩
      injection hq with h1 h2; exact hc h1
/-- one mark's contracts: what starts, free, blob, CutPrefix and free give there -/
def MarkStep (T : ByteArray) (m : ByteArray) : Prop :=
  (tryMark m.data.toList T.data.toList = none ∧ ∃ X : ByteArray, ∀ w, Calls Tryz.prog 109 #[.string T, .string m] w fun e w' => e = .returned (.tuple #[.string X, .bool false]) ∧ w = w') ∨
  (∃ (R F Z C : ByteArray) (bz ok : Bool), (∀ w, Calls Tryz.prog 109 #[.string T, .string m] w fun e w' => e = .returned (.tuple #[.string R, .bool true]) ∧ w = w') ∧
    (∀ w, Calls Tryz.prog 110 #[.string R] w fun e w' => e = .returned (.string F) ∧ w = w') ∧
    (∀ w, Calls Tryz.prog 111 #[.string F] w fun e w' => e = .returned (.tuple #[.string Z, .bool bz]) ∧ w = w') ∧
    (∀ w, Calls Tryz.prog 66 #[.string Z, .string ⟨#[58]⟩] w fun e w' => e = .returned (.tuple #[.string C, .bool ok]) ∧ w = w') ∧
    ((ok = false ∧ tryMark m.data.toList T.data.toList = none) ∨ (ok = true ∧ ∃ G : ByteArray, tryMark m.data.toList T.data.toList = some G.data.toList ∧ ∀ w, Calls Tryz.prog 110 #[.string C] w fun e w' => e = .returned (.string G) ∧ w = w')))
theorem mark_step (T m : ByteArray) (hT : T.size ≤ 100000000) (hm : m.size ≤ 100) : MarkStep T m := by
  have c1 := fun w => starts_any T m w hT hm
  unfold PairIs stP at c1
  cases hst : st m.data.toList T.data.toList with
  | none =>
    rw [hst] at c1
    exact .inl ⟨tm_none hst, _, c1⟩
  | some r =>
    rw [hst] at c1
    obtain ⟨R, hR, hRl, hRs⟩ := arrS r
    simp only at c1
    rw [← hR] at c1
    obtain ⟨F, hF, hFl, hFs⟩ := arrS (free r)
    have f1 := fun w => free_any R w
    rw [hRl, ← hF] at f1
    have hFle : F.size ≤ T.size := by
      have h1 := (st_some hst).2.1
      have h2 := free_length r
      have h3 : r.length ≤ T.size := by rw [h1, List.length_drop]; exact Nat.sub_le _ _
      omega
    have b1 := fun w => blob_any F w (by omega)
    unfold PairIs blobP at b1
    rw [hFl] at b1
    obtain ⟨Z, hZ, hZl, hZs⟩ := arrS ((blob (free r)).getD (free r))
    obtain ⟨bz, hbz⟩ : ∃ bz : Bool, ∀ w, Calls Tryz.prog 111 #[.string F] w fun e w' => e = .returned (.tuple #[.string Z, .bool bz]) ∧ w = w' := by
      cases hb : blob (free r) with
      | none => rw [hb] at b1 hZ; exact ⟨false, fun w => by have := b1 w; rw [hZ]; exact this⟩
      | some x => rw [hb] at b1 hZ; exact ⟨true, fun w => by have := b1 w; rw [hZ]; exact this⟩
    have p1 := fun w => Tryz.strings_CutPrefix Z ⟨#[58]⟩ w
    have e1 : (⟨#[58]⟩ : ByteArray).data.toList = [58] := rfl
    rw [e1] at p1
    right
    obtain ⟨C, hC, hCl, hCs⟩ := arrS (Lib.trimPrefix Z.data.toList [58])
    rw [← hC] at p1
    have htm : tryMark m.data.toList T.data.toList = match Z.data.toList with
        | 58 :: q => some (free q)
        | _ => none := by unfold tryMark; rw [hst, hZl]; rfl
    refine ⟨R, F, Z, C, bz, _, c1, f1, hbz, fun w => (p1 w).mono fun _ _ ⟨a, b⟩ => ⟨a, b.symm⟩, ?_⟩
    rcases cut58 Z.data.toList with ⟨h1, q, h2, h3⟩ | ⟨h1, h2, h3⟩
    · right
      obtain ⟨G, hG, hGl, hGs⟩ := arrS (free q)
      have f2 := fun w => free_any C w
      rw [hCl, h3, ← hG] at f2
      exact ⟨h1, G, by rw [htm, h2, hGl]; rfl, f2⟩
    · left
      refine ⟨h1, ?_⟩
      rw [htm]
      split
      · rename_i q hq; exact absurd hq (h3 q)
      · rfl
theorem re_lit : (⟨#[114, 101]⟩ : ByteArray).data.toList = re := rfl
theorem fwd_lit : (⟨#[102, 119, 100]⟩ : ByteArray).data.toList = fwd := rfl
theorem fw_lit : (⟨#[102, 119]⟩ : ByteArray).data.toList = fw := rfl
theorem answer_of {l : List UInt8} : (∀ t, tryMark re (skip l) = some t → answer l = some t) ∧ (tryMark re (skip l) = none → ∀ t, tryMark fwd (skip l) = some t → answer l = some t) ∧ (tryMark re (skip l) = none → tryMark fwd (skip l) = none → answer l = tryMark fw (skip l)) := by
  unfold answer
  refine ⟨fun t h => by rw [h], fun h1 t h2 => by rw [h1, h2], fun h1 h2 => by rw [h1, h2]⟩
/-- the loop over the marks: those before k gave nothing -/
def TriedIs (T : ByteArray) (k : Nat) : Prop := (0 < k → tryMark re T.data.toList = none) ∧ (1 < k → tryMark fwd T.data.toList = none) ∧ (2 < k → tryMark fw T.data.toList = none)
/-- the loop over the blobs -/
def SkIs (s T : ByteArray) (ok : Bool) : Prop := skip T.data.toList = skip s.data.toList ∧ (ok = false → blob T.data.toList = none)
set_option maxHeartbeats 4000000 in
theorem answer_any (s : ByteArray) (w : World) (hs : s.size ≤ 100000000) : Calls Tryz.prog 77 #[.string s] w (AnsIs (answerP s.data.toList) w) := by
  go_enter Tryz.func77, Tryz.ntmps77
  go_wp2
  go_loopg [4, 5] (s.size + 1) (fun g tv okv wr => ∃ (T : ByteArray) (ok : Bool), tv = .string T ∧ okv = .bool ok ∧ T.size ≤ s.size ∧ T.size + (if ok = true then 1 else 0) ≤ g ∧ wr = w ∧ Hid (SkIs s T ok))
  case atStart => exact ⟨s, true, rfl, rfl, Nat.le_refl _, by simp, rfl, ⟨rfl, fun h => Bool.noConfusion h⟩⟩
  case round =>
    obtain ⟨T, ok, rfl, rfl, hTs, hg, rfl, hrel⟩ := hrel
    cases ok with
    | true =>
      have hg' : T.size + 1 ≤ gk := by simpa using hg
      have b1 := fun w => blob_any T w (by omega)
      unfold PairIs blobP at b1
      cases hb : blob T.data.toList with
      | none =>
        rw [hb] at b1
        simp only [str_back] at b1
        have B1 := Lib.hid b1
        have hnx : Hid (SkIs s T false) := ⟨hrel.out.1, fun _ => hb⟩
        clear b1 hb hrel hg
        go_wp2_with (go_at_call 111; (with_reducible refine (B1.out _).mono ?_); rintro e w1 ⟨rfl, rfl⟩)
        go_roundg (gk - 1)
        case measure => omega
        case rel => exact ⟨T, false, rfl, rfl, hTs, by simp; omega, rfl, hnx⟩
      | some t =>
        rw [hb] at b1
        obtain ⟨T2, hT2, hT2l, hT2s⟩ := arrS t
        simp only at b1
        rw [← hT2] at b1
        have B1 := Lib.hid b1
        have hlt := blob_lt _ _ hb
        have hTl : T.data.toList.length = T.size := rfl
        have h2 : T2.size < T.size := by omega
        have hnx : Hid (SkIs s T2 true) := ⟨by rw [hT2l, ← skip_some hb]; exact hrel.out.1, fun h => Bool.noConfusion h⟩
        clear b1 hb hrel hg hT2 hT2l hT2s hlt hTl
        go_wp2_with (go_at_call 111; (with_reducible refine (B1.out _).mono ?_); rintro e w1 ⟨rfl, rfl⟩)
        go_roundg (gk - 1)
        case measure => omega
        case rel => exact ⟨T2, true, rfl, rfl, by omega, by simp; omega, rfl, hnx⟩
    | false =>
      have hsk : skip s.data.toList = T.data.toList := by rw [← hrel.out.1, skip_none (hrel.out.2 rfl)]
      have HSK := Lib.hid hsk
      have M1 := Lib.hid (mark_step T ⟨#[114, 101]⟩ (by omega) (by decide))
      have M2 := Lib.hid (mark_step T ⟨#[102, 119, 100]⟩ (by omega) (by decide))
      have M3 := Lib.hid (mark_step T ⟨#[102, 119]⟩ (by omega) (by decide))
      clear hsk hrel hg
      go_wp2
      go_loopg [8, 9, 19] 3 (fun g _ _ kv wr2 => ∃ k : Nat, kv = .int .i64 k ∧ k + g = 3 ∧ wr2 = wr.alloc (.cells #[.string ⟨#[114, 101]⟩, .string ⟨#[102, 119, 100]⟩, .string ⟨#[102, 119]⟩] 9) ∧ Hid (TriedIs T k))
      case atStart => exact ⟨0, rfl, rfl, rfl, ⟨fun h => absurd h (by omega), fun h => absurd h (by omega), fun h => absurd h (by omega)⟩⟩
      case round =>
        obtain ⟨k, rfl, hkg, rfl, htr⟩ := hrel
        have tb : Below wr.heap.size wr (wr.alloc (.cells #[.string ⟨#[114, 101]⟩, .string ⟨#[102, 119, 100]⟩, .string ⟨#[102, 119]⟩] 9)) := (Below.refl _ _).alloc (Nat.le_refl _) _
        rcases (show k = 0 ∨ k = 1 ∨ k = 2 ∨ k = 3 by omega) with rfl | rfl | rfl | rfl
        · rcases M1.out with ⟨htm, X, c1⟩ | ⟨R, F, Z, C, bz, ok, c1, f1, b1, p1, hrest⟩
          · have hnx : Hid (TriedIs T 1) := ⟨fun _ => htm, fun h => absurd h (by omega), fun h => absurd h (by omega)⟩
            have C1 := Lib.hid c1
            clear c1 htm
            go_wp2_with (go_at_call 109; (with_reducible refine (C1.out _).mono ?_); rintro e w1 ⟨rfl, rfl⟩)
            go_roundg (gk - 1)
            case measure => omega
            case rel => exact ⟨1, rfl, by omega, rfl, hnx⟩
          · have C1 := Lib.hid c1
            have F1 := Lib.hid f1
            have B1 := Lib.hid b1
            have P1 := Lib.hid p1
            clear c1 f1 b1 p1
            rcases hrest with ⟨rfl, htm⟩ | ⟨rfl, G, htm, f2⟩
            · have hnx : Hid (TriedIs T 1) := ⟨fun _ => htm, fun h => absurd h (by omega), fun h => absurd h (by omega)⟩
              clear htm
              go_wp2_with (first
            | (go_at_call 109; (with_reducible refine (C1.out _).mono ?_); rintro e w1 ⟨rfl, rfl⟩)
            | (go_at_call 110; (with_reducible refine (F1.out _).mono ?_); rintro e w1 ⟨rfl, rfl⟩)
            | (go_at_call 111; (with_reducible refine (B1.out _).mono ?_); rintro e w1 ⟨rfl, rfl⟩)
            | (go_at_call 66; (with_reducible refine (P1.out _).mono ?_); rintro e w1 ⟨rfl, rfl⟩))
              go_roundg (gk - 1)
              case measure => omega
              case rel => exact ⟨1, rfl, by omega, rfl, hnx⟩
            · have hans : answerP s.data.toList = (G.data.toList, true) := by
                have : answer s.data.toList = some G.data.toList := answer_of.1 _ (by rw [HSK.out]; exact htm)
                unfold answerP; rw [this]
              have hfin : Hid (∀ w', Below wr.heap.size wr w' → AnsIs (answerP s.data.toList) wr (.returned (.tuple #[.string G, .bool true])) w') := fun w' hb => by rw [hans]; exact ⟨by simp, hb⟩
              have F2 := Lib.hid f2
              clear htm f2 hans
              go_wp2_with (first
            | (go_at_call 109; (with_reducible refine (C1.out _).mono ?_); rintro e w1 ⟨rfl, rfl⟩)
            | (go_at_call 110; (with_reducible refine (F1.out _).mono ?_); rintro e w1 ⟨rfl, rfl⟩)
            | (go_at_call 111; (with_reducible refine (B1.out _).mono ?_); rintro e w1 ⟨rfl, rfl⟩)
            | (go_at_call 66; (with_reducible refine (P1.out _).mono ?_); rintro e w1 ⟨rfl, rfl⟩)
            | (go_at_call 110; (with_reducible refine (F2.out _).mono ?_); rintro e w1 ⟨rfl, rfl⟩))
              go_ret2
              exact hfin.out _ tb
        · rcases M2.out with ⟨htm, X, c1⟩ | ⟨R, F, Z, C, bz, ok, c1, f1, b1, p1, hrest⟩
          · have hnx : Hid (TriedIs T 2) := ⟨fun _ => htr.out.1 (by omega), fun h => htm, fun h => absurd h (by omega)⟩
            have C1 := Lib.hid c1
            clear c1 htm
            go_wp2_with (go_at_call 109; (with_reducible refine (C1.out _).mono ?_); rintro e w1 ⟨rfl, rfl⟩)
            go_roundg (gk - 1)
            case measure => omega
            case rel => exact ⟨2, rfl, by omega, rfl, hnx⟩
          · have C1 := Lib.hid c1
            have F1 := Lib.hid f1
            have B1 := Lib.hid b1
            have P1 := Lib.hid p1
            clear c1 f1 b1 p1
            rcases hrest with ⟨rfl, htm⟩ | ⟨rfl, G, htm, f2⟩
            · have hnx : Hid (TriedIs T 2) := ⟨fun _ => htr.out.1 (by omega), fun h => htm, fun h => absurd h (by omega)⟩
              clear htm
              go_wp2_with (first
            | (go_at_call 109; (with_reducible refine (C1.out _).mono ?_); rintro e w1 ⟨rfl, rfl⟩)
            | (go_at_call 110; (with_reducible refine (F1.out _).mono ?_); rintro e w1 ⟨rfl, rfl⟩)
            | (go_at_call 111; (with_reducible refine (B1.out _).mono ?_); rintro e w1 ⟨rfl, rfl⟩)
            | (go_at_call 66; (with_reducible refine (P1.out _).mono ?_); rintro e w1 ⟨rfl, rfl⟩))
              go_roundg (gk - 1)
              case measure => omega
              case rel => exact ⟨2, rfl, by omega, rfl, hnx⟩
            · have hans : answerP s.data.toList = (G.data.toList, true) := by
                have : answer s.data.toList = some G.data.toList := answer_of.2.1 (by rw [HSK.out]; exact htr.out.1 (by omega)) _ (by rw [HSK.out]; exact htm)
                unfold answerP; rw [this]
              have hfin : Hid (∀ w', Below wr.heap.size wr w' → AnsIs (answerP s.data.toList) wr (.returned (.tuple #[.string G, .bool true])) w') := fun w' hb => by rw [hans]; exact ⟨by simp, hb⟩
              have F2 := Lib.hid f2
              clear htm f2 hans
              go_wp2_with (first
            | (go_at_call 109; (with_reducible refine (C1.out _).mono ?_); rintro e w1 ⟨rfl, rfl⟩)
            | (go_at_call 110; (with_reducible refine (F1.out _).mono ?_); rintro e w1 ⟨rfl, rfl⟩)
            | (go_at_call 111; (with_reducible refine (B1.out _).mono ?_); rintro e w1 ⟨rfl, rfl⟩)
            | (go_at_call 66; (with_reducible refine (P1.out _).mono ?_); rintro e w1 ⟨rfl, rfl⟩)
            | (go_at_call 110; (with_reducible refine (F2.out _).mono ?_); rintro e w1 ⟨rfl, rfl⟩))
              go_ret2
              exact hfin.out _ tb
        · rcases M3.out with ⟨htm, X, c1⟩ | ⟨R, F, Z, C, bz, ok, c1, f1, b1, p1, hrest⟩
          · have hnx : Hid (TriedIs T 3) := ⟨fun _ => htr.out.1 (by omega), fun h => htr.out.2.1 (by omega), fun h => htm⟩
            have C1 := Lib.hid c1
            clear c1 htm
            go_wp2_with (go_at_call 109; (with_reducible refine (C1.out _).mono ?_); rintro e w1 ⟨rfl, rfl⟩)
            go_roundg (gk - 1)
            case measure => omega
            case rel => exact ⟨3, rfl, by omega, rfl, hnx⟩
          · have C1 := Lib.hid c1
            have F1 := Lib.hid f1
            have B1 := Lib.hid b1
            have P1 := Lib.hid p1
            clear c1 f1 b1 p1
            rcases hrest with ⟨rfl, htm⟩ | ⟨rfl, G, htm, f2⟩
            · have hnx : Hid (TriedIs T 3) := ⟨fun _ => htr.out.1 (by omega), fun h => htr.out.2.1 (by omega), fun h => htm⟩
              clear htm
              go_wp2_with (first
            | (go_at_call 109; (with_reducible refine (C1.out _).mono ?_); rintro e w1 ⟨rfl, rfl⟩)
            | (go_at_call 110; (with_reducible refine (F1.out _).mono ?_); rintro e w1 ⟨rfl, rfl⟩)
            | (go_at_call 111; (with_reducible refine (B1.out _).mono ?_); rintro e w1 ⟨rfl, rfl⟩)
            | (go_at_call 66; (with_reducible refine (P1.out _).mono ?_); rintro e w1 ⟨rfl, rfl⟩))
              go_roundg (gk - 1)
              case measure => omega
              case rel => exact ⟨3, rfl, by omega, rfl, hnx⟩
            · have hans : answerP s.data.toList = (G.data.toList, true) := by
                have : answer s.data.toList = some G.data.toList := (answer_of.2.2 (by rw [HSK.out]; exact htr.out.1 (by omega)) (by rw [HSK.out]; exact htr.out.2.1 (by omega))).trans (by rw [HSK.out]; exact htm)
                unfold answerP; rw [this]
              have hfin : Hid (∀ w', Below wr.heap.size wr w' → AnsIs (answerP s.data.toList) wr (.returned (.tuple #[.string G, .bool true])) w') := fun w' hb => by rw [hans]; exact ⟨by simp, hb⟩
              have F2 := Lib.hid f2
              clear htm f2 hans
              go_wp2_with (first
            | (go_at_call 109; (with_reducible refine (C1.out _).mono ?_); rintro e w1 ⟨rfl, rfl⟩)
            | (go_at_call 110; (with_reducible refine (F1.out _).mono ?_); rintro e w1 ⟨rfl, rfl⟩)
            | (go_at_call 111; (with_reducible refine (B1.out _).mono ?_); rintro e w1 ⟨rfl, rfl⟩)
            | (go_at_call 66; (with_reducible refine (P1.out _).mono ?_); rintro e w1 ⟨rfl, rfl⟩)
            | (go_at_call 110; (with_reducible refine (F2.out _).mono ?_); rintro e w1 ⟨rfl, rfl⟩))
              go_ret2
              exact hfin.out _ tb
        · have hans : answerP s.data.toList = (s.data.toList, false) := by
            have h3 := (answer_of (l := s.data.toList)).2.2 (by rw [HSK.out]; exact htr.out.1 (by omega)) (by rw [HSK.out]; exact htr.out.2.1 (by omega))
            rw [HSK.out, htr.out.2.2 (by omega)] at h3
            unfold answerP; rw [h3]
          have hfin : Hid (∀ w', Below wr.heap.size wr w' → AnsIs (answerP s.data.toList) wr (.returned (.tuple #[.string s, .bool false])) w') := fun w' hb => by rw [hans]; exact ⟨by simp, hb⟩
          clear hans
          go_wp2
          go_ret2
          exact hfin.out _ tb
end Go.Proofs.YtnclbbgdfaeilaaGreatDoor
