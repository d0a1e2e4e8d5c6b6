/- Walks: the reference of layer 22: blank, trim, great, behind. -/
import Derived.Test.YtjoipgekmnnlpaaGreatDoorSmAd
import Derived.Test.YtjoipgekmnnlpaaGreatDoorTlRP
import Derived.Test.YtjoipgekmnnlpaaGreatDoorSmPz
namespace Sm
open Go
def rtrim (l : List UInt8) : List UInt8 := (l.reverse.dropWhile blk).reverse
theorem rtrim_snoc (l : List UInt8) (c : UInt8) : rtrim (l ++ [c]) = if blk c = true then rtrim l else l ++ [c] := by
  unfold rtrim
  rw [List.reverse_append, List.reverse_singleton, List.singleton_append, List.dropWhile_cons]
  split
  · rfl
  · simp
theorem rtrim_cons (c : UInt8) (r : List UInt8) : rtrim (c :: r) = if rtrim r = [] ∧ blk c = true then [] else c :: rtrim r := by
  unfold rtrim
  rw [List.reverse_cons, List.dropWhile_append]
  by_cases h : (List.dropWhile blk r.reverse).isEmpty = true
  · rw [if_pos h]
    have h2 : List.dropWhile blk r.reverse = [] := List.isEmpty_iff.1 h
    rw [h2]
    by_cases hc : blk c = true
    · rw [if_pos ⟨rfl, hc⟩, List.dropWhile_cons, if_pos hc]; rfl
    · rw [if_neg (fun e => hc e.2), List.dropWhile_cons, if_neg hc]; rfl
  · rw [if_neg h]
    have h2 : List.dropWhile blk r.reverse ≠ [] := fun e => h (by rw [e]; rfl)
    rw [if_neg (fun e => h2 (by simpa using e.1))]
    simp
theorem trim_comm : ∀ l : List UInt8, rtrim (l.dropWhile blk) = (rtrim l).dropWhile blk
  | [] => rfl
  | c :: r => by
    rw [List.dropWhile_cons, rtrim_cons]
    by_cases hc : blk c = true
    · rw [if_pos hc, trim_comm r]
      by_cases hr : rtrim r = []
      · rw [if_pos ⟨hr, hc⟩, hr]
      · rw [if_neg (fun e => hr e.1), List.dropWhile_cons, if_pos hc]
    · rw [if_neg hc, if_neg (fun e => hc e.2), rtrim_cons, if_neg (fun e => hc e.2), List.dropWhile_cons, if_neg hc]
theorem trimW_eq (l : List UInt8) : trimW l = rtrim (l.dropWhile blk) := (trim_comm l).symm
end Sm
namespace Go.Proofs.YtjoipgekmnnlpaaGreatDoor
open Go.RowKit Go.Shelf Go.Lib Pk Sm

section
variable {w w' : World}
theorem rblank_any (c : UInt8) (w : World) : Calls Tryz.prog 74 #[.int .u8 c.toNat] w fun e w' => e = .returned (.bool (blk c)) ∧ w' = w := by
  have hc := c.toNat_lt
  have e9 : (c == 9) = decide (c.toNat = 9) := by
    rw [Bool.eq_iff_iff, beq_iff_eq, decide_eq_true_iff]
    exact ⟨fun h => by rw [h]; rfl, fun h => UInt8.toNat_inj.1 h⟩
  have e32 : (c == 32) = decide (c.toNat = 32) := by
    rw [Bool.eq_iff_iff, beq_iff_eq, decide_eq_true_iff]
    exact ⟨fun h => by rw [h]; rfl, fun h => UInt8.toNat_inj.1 h⟩
  unfold blk
  rw [e9, e32]
  obtain ⟨n, hn⟩ : ∃ n, n = c.toNat := ⟨_, rfl⟩
  rw [← hn] at hc ⊢
  clear hn e9 e32
  by_cases h9 : n = 9
  · subst h9
    go_enter Tryz.func74, Tryz.ntmps74
    go_wp2
    go_ret
    exact ⟨rfl, rfl⟩
  · have u1 : ((n : Int) == 9) = false := beq_eq_false_iff_ne.2 (by omega)
    have e9 : decide (n = 9) = false := decide_eq_false h9
    rw [e9]
    by_cases h32 : n = 32
    · subst h32
      go_enter Tryz.func74, Tryz.ntmps74
      go_wp2
      go_ret
      exact ⟨rfl, rfl⟩
    · have u2 : ((n : Int) == 32) = false := beq_eq_false_iff_ne.2 (by omega)
      have e32 : decide (n = 32) = false := decide_eq_false h32
      rw [e32]
      clear h9 h32 e9 e32
      go_enter Tryz.func74, Tryz.ntmps74
      go_wp2
      go_ret
      exact ⟨rfl, rfl⟩
theorem data_cons' (s : ByteArray) (h : 0 < s.size) : s.data.toList = s[0] :: (s.extract 1 s.size).data.toList := by
  rw [ext_from]
  cases s with
  | mk d =>
    cases d with
    | mk l =>
      cases l with
      | nil => cases h
      | cons c r => rfl
theorem data_snoc' (s : ByteArray) (h : 0 < s.size) : s.data.toList = (s.extract 0 (s.size - 1)).data.toList ++ [s[s.size - 1]] := by
  have e : s.data.toList.length = s.size := rfl
  rw [ext_to]
  show s.data.toList = s.data.toList.take (s.size - 1) ++ [s[s.size - 1]]
  have h2 := List.take_succ_eq_append_getElem (l := s.data.toList) (i := s.size - 1) (by omega)
  rw [show s.size - 1 + 1 = s.data.toList.length by omega, List.take_length] at h2
  exact h2
theorem str_litR {x : ByteArray} (h : x ≠ ⟨#[]⟩) : x.toList.isEmpty = false ∧ (x.toList = []) = False ∧ 0 < x.size := by
  have hx : 0 < x.size := by
    rcases Nat.eq_zero_or_pos x.size with e | e
    · exact absurd (by cases x with | mk d => simp [ByteArray.size] at e; simp [e]) h
    · exact e
  have hl : x.data.toList.length = x.size := rfl
  refine ⟨?_, ?_, hx⟩
  · rw [Lib.toList_data]
    cases hz : x.data.toList with
    | nil => rw [hz] at hl; simp at hl; omega
    | cons _ _ => rfl
  · rw [Lib.toList_data, eq_iff_iff, iff_false]
    intro e; rw [e] at hl; simp at hl; omega
set_option maxHeartbeats 1000000 in
set_option maxRecDepth 100000 in
theorem rtrimS_any (s : ByteArray) (w : World) (hs : s.size ≤ 1000000) : Calls Tryz.prog 73 #[.string s] w fun e w' => e = .returned (.string (bt (trimW s.data.toList))) ∧ w' = w := by
  go_enter Tryz.func73, Tryz.ntmps73
  go_wp2
  go_loopg [0] s.size (fun g sv wr => ∃ S : ByteArray, sv = .string S ∧ S.size = g ∧ wr = w ∧ Hid (S.data.toList.dropWhile blk = s.data.toList.dropWhile blk ∧ S.size ≤ 1000000))
  case atStart => exact ⟨s, rfl, rfl, rfl, rfl, hs⟩
  case round =>
    obtain ⟨S, rfl, hg, rfl, hI⟩ := hrel
    obtain ⟨w9, hw9⟩ : ∃ w9, w9 = wr := ⟨_, rfl⟩
    by_cases hS : S = ⟨#[]⟩
    · have e1 : S.toList.isEmpty = true := by rw [hS, Lib.toList_data]; rfl
      have e2 : (S.toList = []) = True := by rw [hS, Lib.toList_data]; exact eq_true rfl
      have hT0 : Hid (rtrim S.data.toList = trimW s.data.toList ∧ S.size ≤ 1000000) := ⟨by rw [trimW_eq, ← hI.out.1, hS]; rfl, hI.out.2⟩
      clear hS hg hI hs
      subst hw9
      go_wp2_with fail
      go_loopg [0] S.size (fun g sv wr => ∃ T : ByteArray, sv = .string T ∧ T.size = g ∧ wr = w9 ∧ Hid (rtrim T.data.toList = trimW s.data.toList ∧ T.size ≤ 1000000))
      case atStart => exact ⟨S, rfl, rfl, rfl, hT0⟩
      case round =>
        clear hT0
        obtain ⟨T, rfl, hg, rfl, hT⟩ := hrel
        by_cases hS : T = ⟨#[]⟩
        · have e1 : T.toList.isEmpty = true := by rw [hS, Lib.toList_data]; rfl
          have e2 : (T.toList = []) = True := by rw [hS, Lib.toList_data]; exact eq_true rfl
          have hR : T = bt (trimW s.data.toList) := by rw [← hT.out.1, hS]; rfl
          have HR := Lib.hid hR
          clear hS hR hg
          go_wp2
          go_ret
          exact ⟨by rw [← HR.out]; rfl, rfl⟩
        · obtain ⟨e1, e2, e3⟩ := str_litR hS
          have hTs := hT.out.2
          have u3 : 1 ≤ (T.size : Int) ∧ (T.size : Int) - 1 < (T.size : Int) := by omega
          have u4 : (0 : Int) ≤ (T.size : Int) - 1 := by omega
          have u5 : (T.size : Int) - 1 ≤ (T.size : Int) := by omega
          have e4 : T.size - 1 < T.size := by omega
          have u7 : IntKind.i64.wrap ((T.size : Int) - 1) = (T.size : Int) - 1 := w64 rfl (by omega) (by omega)
          have HB := Lib.hid (rblank_any T[T.size - 1] wr)
          have hsn := data_snoc' T e3
          cases hb : blk T[T.size - 1] with
          | true =>
            rw [hb] at HB
            have hn : rtrim (T.extract 0 (T.size - 1)).data.toList = trimW s.data.toList := by
              have h9 := hT.out.1
              rw [hsn, rtrim_snoc, if_pos hb] at h9
              exact h9
            have hz : (T.extract 0 (T.size - 1)).size = T.size - 1 := by rw [ByteArray.size_extract]; omega
            have HN := Lib.hid (And.intro hn (And.intro hz (And.intro hTs (And.intro hg e3))))
            clear hsn hb hn hz hTs hS hg
            go_wp2_with fail
            refine HB.out.mono ?_
            rintro e wb ⟨rfl, rfl⟩
            go_wp2
            go_roundg (T.size - 1)
            case rel => exact ⟨_, rfl, HN.out.2.1, rfl, HN.out.1, by have := HN.out.2.1; have := HN.out.2.2.1; omega⟩
            case measure => have := HN.out.2.2.2; omega
          | false =>
            rw [hb] at HB
            have hn : T = bt (trimW s.data.toList) := by
              have h9 := hT.out.1
              rw [hsn, rtrim_snoc, if_neg (by rw [hb]; decide), ← hsn] at h9
              rw [← h9, bt_back]
            have HN := Lib.hid hn
            clear hsn hb hn hTs hS hg
            go_wp2_with fail
            refine HB.out.mono ?_
            rintro e wb ⟨rfl, rfl⟩
            go_wp2
            go_ret
            exact ⟨by rw [← HN.out]; rfl, rfl⟩
    · obtain ⟨e1, e2, e3⟩ := str_litR hS
      have hSs := hI.out.2
      have u3 : (0 : Int) < (S.size : Int) := by omega
      have u4 : (1 : Int) ≤ (S.size : Int) := by omega
      have HB := Lib.hid (rblank_any S[0] wr)
      have hcn := data_cons' S e3
      cases hb : blk S[0] with
      | true =>
        rw [hb] at HB
        have hn : (S.extract 1 S.size).data.toList.dropWhile blk = s.data.toList.dropWhile blk := by
          have h9 := hI.out.1
          rw [hcn, List.dropWhile_cons, if_pos hb] at h9
          exact h9
        have hz : (S.extract 1 S.size).size = S.size - 1 := by rw [ByteArray.size_extract]; omega
        have HN := Lib.hid (And.intro hn (And.intro hz (And.intro hSs (And.intro hg e3))))
        clear hcn hb hn hz hSs hS hg hw9
        go_wp2_with fail
        refine HB.out.mono ?_
        rintro e wb ⟨rfl, rfl⟩
        go_wp2
        go_roundg (S.size - 1)
        case rel => exact ⟨_, rfl, HN.out.2.1, rfl, HN.out.1, by have := HN.out.2.1; have := HN.out.2.2.1; omega⟩
        case measure => have := HN.out.2.2.2; omega
      | false =>
        rw [hb] at HB
        have hT0 : Hid (rtrim S.data.toList = trimW s.data.toList ∧ S.size ≤ 1000000) := ⟨by
          rw [trimW_eq, ← hI.out.1, hcn, List.dropWhile_cons, if_neg (by rw [hb]; decide)], hI.out.2⟩
        clear hcn hb hSs hS hg hI hs
        go_wp2_with fail
        refine HB.out.mono ?_
        rintro e wb ⟨rfl, rfl⟩
        obtain ⟨w9, hw9⟩ : ∃ w9, w9 = wb := ⟨_, rfl⟩
        subst hw9
        go_wp2_with fail
        go_loopg [0] S.size (fun g sv wr => ∃ T : ByteArray, sv = .string T ∧ T.size = g ∧ wr = w9 ∧ Hid (rtrim T.data.toList = trimW s.data.toList ∧ T.size ≤ 1000000))
        case atStart => exact ⟨S, rfl, rfl, rfl, hT0⟩
        case round =>
          clear hT0
          obtain ⟨T, rfl, hg, rfl, hT⟩ := hrel
          by_cases hS : T = ⟨#[]⟩
          · have e1 : T.toList.isEmpty = true := by rw [hS, Lib.toList_data]; rfl
            have e2 : (T.toList = []) = True := by rw [hS, Lib.toList_data]; exact eq_true rfl
            have hR : T = bt (trimW s.data.toList) := by rw [← hT.out.1, hS]; rfl
            have HR := Lib.hid hR
            clear hS hR hg
            go_wp2
            go_ret
            exact ⟨by rw [← HR.out]; rfl, rfl⟩
          · obtain ⟨e1, e2, e3⟩ := str_litR hS
            have hTs := hT.out.2
            have u3 : 1 ≤ (T.size : Int) ∧ (T.size : Int) - 1 < (T.size : Int) := by omega
            have u4 : (0 : Int) ≤ (T.size : Int) - 1 := by omega
            have u5 : (T.size : Int) - 1 ≤ (T.size : Int) := by omega
            have e4 : T.size - 1 < T.size := by omega
            have u7 : IntKind.i64.wrap ((T.size : Int) - 1) = (T.size : Int) - 1 := w64 rfl (by omega) (by omega)
            have HB := Lib.hid (rblank_any T[T.size - 1] wr)
            have hsn := data_snoc' T e3
            cases hb : blk T[T.size - 1] with
            | true =>
              rw [hb] at HB
              have hn : rtrim (T.extract 0 (T.size - 1)).data.toList = trimW s.data.toList := by
                have h9 := hT.out.1
                rw [hsn, rtrim_snoc, if_pos hb] at h9
                exact h9
              have hz : (T.extract 0 (T.size - 1)).size = T.size - 1 := by rw [ByteArray.size_extract]; omega
              have HN := Lib.hid (And.intro hn (And.intro hz (And.intro hTs (And.intro hg e3))))
              clear hsn hb hn hz hTs hS hg
              go_wp2_with fail
              refine HB.out.mono ?_
              rintro e wb ⟨rfl, rfl⟩
              go_wp2
              go_roundg (T.size - 1)
              case rel => exact ⟨_, rfl, HN.out.2.1, rfl, HN.out.1, by have := HN.out.2.1; have := HN.out.2.2.1; omega⟩
              case measure => have := HN.out.2.2.2; omega
            | false =>
              rw [hb] at HB
              have hn : T = bt (trimW s.data.toList) := by
                have h9 := hT.out.1
                rw [hsn, rtrim_snoc, if_neg (by rw [hb]; decide), ← hsn] at h9
                rw [← h9, bt_back]
              have HN := Lib.hid hn
              clear hsn hb hn hTs hS hg
              go_wp2_with fail
              refine HB.out.mono ?_
              rintro e wb ⟨rfl, rfl⟩
              go_wp2
              go_ret
              exact ⟨by rw [← HN.out]; rfl, rfl⟩
end
end Go.Proofs.YtjoipgekmnnlpaaGreatDoor
