/- Walks: the reference of layer 1 on chapter 22: Text, Parse. Plain: what the reference of layer 22 computes is what the session does: lines pushed, paths, options. -/
import Derived.Test.YtjoipgekmnnlpaaGreatDoorRows
import Derived.Test.YtjoipgekmnnlpaaGreatDoorBits
import Derived.Test.YtjoipgekmnnlpaaGreatDoorPlain1
import Derived.Deep.RegionWith
import Derived.Deep.QuietTactic
import Derived.BigQuiet
import Derived.IntWalk
import Derived.Deep.DeepCutAuto
import Derived.Deep.CutBlock
import Derived.Deep.RegionHeld3
import Derived.Test.YtjoipgekmnnlpaaGreatDoorSmPz
namespace Go.Proofs.YtjoipgekmnnlpaaGreatDoor
open Go.RowKit Pk Hx C1

theorem bslR : ByteSl Tryz.prog 67 5 where
  ht := Tryz.underlying67
  he := Tryz.underlying5
  hi := info_parts (show (Tryz.prog.info? 5).map (fun i => (i.zero, i.size, i.bytes)) = some (some (.int .u8 0), 1, 1) by kernel_rfl)
theorem b8_eq {x : Int} {u : Nat} (h : x = u) : b8 x = UInt8.ofNat u := by subst h; simp [b8]
theorem itoa_one {n : Int} (h0 : 0 ≤ n) (h1 : n < 10) : Lib.itoa n = [b8 (48 + n)] := by
  rw [itoa_pos h0, Lib.decDigits_one (by omega), b8_eq (u := 48 + n.toNat) (by omega)]
theorem itoa_more {n : Int} (h : 10 ≤ n) : Lib.itoa n = Lib.itoa (n / 10) ++ [b8 (48 + n % 10)] := by
  rw [itoa_pos (by omega), itoa_pos (by omega), dd_snoc (by omega), b8_eq (u := 48 + n.toNat % 10) (by omega), show (n / 10).toNat = n.toNat / 10 by omega]
theorem itoa_m1 {n : Int} (h0 : n < 0) (h1 : -10 < n) : Lib.itoa n = [45, b8 (48 - n)] := by
  rw [itoa_ne h0, Lib.decDigits_one (by omega), b8_eq (u := 48 + n.natAbs) (by omega)]
theorem itoa_mm {n : Int} (h : n ≤ -10) : Lib.itoa n = Lib.itoa (-(-n / 10)) ++ [b8 (48 + (-n) % 10)] := by
  rw [itoa_ne (by omega), itoa_ne (by omega), dd_snoc (by omega), b8_eq (u := 48 + n.natAbs % 10) (by omega), show (-(-n / 10)).natAbs = n.natAbs / 10 by omega]
  rfl
theorem one_lit (x : Int) (h0 : 0 ≤ x) (h1 : x < 256) : (Lib.byteCells [b8 x]).toArray = #[Value.int .u8 x] := by simp [Lib.byteCells, b8_toNat x h0 h1]
theorem conv_one (w : World) (x : Int) (h0 : 0 ≤ x) (h1 : x < 256) : (convert 67 9 (.slice (some ⟨w.heap.size, 0, none⟩) 1 1)).run Tryz.prog (w.alloc (.cells #[.int .u8 x] 5)) = .ok (.string ⟨#[b8 x]⟩) (w.alloc (.cells #[.int .u8 x] 5)) := by
  have := run_string_lit (P := Tryz.prog) w bslR Tryz.underlying9 [b8 x] 1 rfl (by decide)
  rw [one_lit x h0 h1] at this
  exact this
theorem conv_oned (w : World) (x : Int) (h0 : 0 ≤ x) (h1 : x < 256) : (convert 67 9 (.slice (some ⟨w.heap.size, 0, none⟩) 1 1)).run Tryz.prog (w.alloc (.cells #[.int .u8 x] 5)).drew = .ok (.string ⟨#[b8 x]⟩) (w.alloc (.cells #[.int .u8 x] 5)).drew := by
  have h := (ownsB.lit w [b8 x] 5 1 rfl (by decide)).drew
  rw [one_lit x h0 h1] at h
  exact run_string_owned bslR Tryz.underlying9 h
theorem conv_later (w w1 : World) (x : Int) (h0 : 0 ≤ x) (h1 : x < 256) (hb : Below (w.alloc (.cells #[.int .u8 x] 5)).drew.heap.size (w.alloc (.cells #[.int .u8 x] 5)).drew w1) : (convert 67 9 (.slice (some ⟨w.heap.size, 0, none⟩) 1 1)).run Tryz.prog w1 = .ok (.string ⟨#[b8 x]⟩) w1 := by
  have h := (ownsB.lit w [b8 x] 5 1 rfl (by decide)).drew
  rw [one_lit x h0 h1] at h
  exact run_string_owned bslR Tryz.underlying9 (h.below hb (Nat.le_refl _))
theorem str_app (l : List UInt8) (c : UInt8) : (⟨l.toArray⟩ ++ ⟨#[c]⟩ : ByteArray) = ⟨(l ++ [c]).toArray⟩ := by
  have : ∀ a b : ByteArray, a.data = b.data → a = b := fun a b h => by cases a; cases b; congr 1
  apply this
  rw [ByteArray.data_append]
  simp
theorem arr_exR (l : List UInt8) : ∃ A : ByteArray, A = ⟨l.toArray⟩ ∧ A.data.toList = l ∧ A.size = l.length := ⟨⟨l.toArray⟩, rfl, by simp, by simp [ByteArray.size]⟩

set_option maxRecDepth 100000 in
set_option maxHeartbeats 400000 in
theorem textR_any : ∀ (k : Nat) (n : Int) (w : World), n.natAbs ≤ k → -9223372036854775808 ≤ n → n ≤ 9223372036854775807 →
    Calls Tryz.prog 53 #[.int .i64 n] w fun e w' => e = .returned (.string ⟨(Lib.itoa n).toArray⟩) ∧ Below w.heap.size w w' := by
  intro k
  induction k using Nat.strongRecOn with
  | _ k ih =>
    intro n w hk hlo hhi
    rcases (show (0 ≤ n ∧ n < 10) ∨ 10 ≤ n ∨ (n < 0 ∧ -10 < n) ∨ n ≤ -10 by omega) with ⟨a, b⟩ | a | ⟨a, b⟩ | a
    · have hcv := fun wx => conv_one wx (48 + n) (by omega) (by omega)
      have HI := Lib.hid (itoa_one a b)
      clear ih
      go_enter Tryz.func53, Tryz.ntmps53
      go_wp2
      go_ret
      rw [HI.out]
      exact ⟨rfl, (Below.refl _ _).alloc (Nat.le_refl _) _⟩
    · have IH0 := fun w => ih (n / 10).natAbs (by omega) (n / 10) w (Nat.le_refl _) (by omega) (by omega)
      have hlen := itoa_len (n := n / 10) (by omega) (by omega)
      obtain ⟨T, hT, hTl, hTs⟩ := arr_exR (Lib.itoa (n / 10))
      rw [← hT] at IH0
      have IH := Lib.hid IH0
      have hTb : T.size ≤ 20 := by omega
      have HT := Lib.hid hT
      clear IH0 hT hTl hTs hlen
      have hcv1 := fun wx => conv_one wx (48 + n % 10) (by omega) (by omega)
      have hcv2 := fun wx => conv_oned wx (48 + n % 10) (by omega) (by omega)
      have HI := Lib.hid (itoa_more a)
      have hc1 : (⟨#[b8 (48 + n % 10)]⟩ : ByteArray).size = 1 := rfl
      have w1 : IntKind.i64.wrap (48 + n % 10) = 48 + n % 10 := w64 rfl (by omega) (by omega)
      have w2 : IntKind.u8.wrap (48 + n % 10) = 48 + n % 10 := w8 (by omega) (by omega)
      have w3 : IntKind.i64.wrap (n.tdiv 10) = n / 10 := w64d (n := 10) (by omega) (by omega) (by decide)
      have w4 : n.tmod 10 = n % 10 := tmod_nn (by omega)
      clear ih
      go_enter Tryz.func53, Tryz.ntmps53
      go_wp2_with fail
      go_region_with (go_at_call 53; (with_reducible refine (IH.out _).mono ?_); rintro e w3 ⟨rfl, hb3⟩; try have hcv3 := conv_later _ _ _ (by omega) (by omega) hb3)
      all_goals
        go_wp2
        go_ret
        refine ⟨by rw [HI.out, ← str_app, ← HT.out]; rfl, ?_⟩
        first
          | exact (((Below.refl _ _).drew).trans hb3).alloc hb3.size _
          | exact (((Below.refl _ _).alloc (Nat.le_refl _) _).drew).trans (hb3.mono (by simp))
    · have hcv := fun wx => conv_one wx (48 - n) (by omega) (by omega)
      have HI := Lib.hid (itoa_m1 a b)
      have w1 : IntKind.i64.wrap (48 - n) = 48 - n := w64 rfl (by omega) (by omega)
      have w2 : IntKind.u8.wrap (48 - n) = 48 - n := w8 (by omega) (by omega)
      have hc1 : (⟨#[b8 (48 - n)]⟩ : ByteArray).size = 1 := rfl
      clear ih
      go_enter Tryz.func53, Tryz.ntmps53
      go_wp2
      go_ret
      rw [HI.out]
      exact ⟨rfl, (Below.refl _ _).alloc (Nat.le_refl _) _⟩
    · have IH0 := fun w => ih (-(-n / 10)).natAbs (by omega) (-(-n / 10)) w (Nat.le_refl _) (by omega) (by omega)
      have hlen := itoa_len (n := -(-n / 10)) (by omega) (by omega)
      obtain ⟨T, hT, hTl, hTs⟩ := arr_exR (Lib.itoa (-(-n / 10)))
      rw [← hT] at IH0
      have IH := Lib.hid IH0
      have hTb : T.size ≤ 20 := by omega
      have HT := Lib.hid hT
      have hnn := Lib.hid (Int.neg_neg n)
      clear IH0 hT hTl hTs hlen
      have hcv1 := fun wx => conv_one wx (48 + -n % 10) (by omega) (by omega)
      have hcv2 := fun wx => conv_oned wx (48 + -n % 10) (by omega) (by omega)
      have HI := Lib.hid (itoa_mm a)
      have hc1 : (⟨#[b8 (48 + -n % 10)]⟩ : ByteArray).size = 1 := rfl
      have e1 : n.tdiv 10 = -(-n / 10) := by rw [← Int.tdiv_eq_ediv_of_nonneg (a := -n) (by omega), Int.neg_tdiv, Int.neg_neg]
      have e2 : n.tmod 10 = -(-n % 10) := by rw [← Int.tmod_eq_emod_of_nonneg (a := -n) (by omega), Int.neg_tmod, Int.neg_neg]
      have e3 : (48 : Int) - -(-n % 10) = 48 + -n % 10 := by omega
      have w1 : IntKind.i64.wrap (48 + -n % 10) = 48 + -n % 10 := w64 rfl (by omega) (by omega)
      have w2 : IntKind.u8.wrap (48 + -n % 10) = 48 + -n % 10 := w8 (by omega) (by omega)
      have w3 : IntKind.i64.wrap (-(-n / 10)) = -(-n / 10) := w64 rfl (by omega) (by omega)
      have w5 : IntKind.i64.wrap (-(-n % 10)) = -(-n % 10) := w64 rfl (by omega) (by omega)
      clear ih
      go_enter Tryz.func53, Tryz.ntmps53
      go_wp2_with fail
      go_region_with (go_at_call 53; (with_reducible refine (IH.out _).mono ?_); rintro e w3 ⟨rfl, hb3⟩; try have hcv3 := conv_later _ _ _ (by omega) (by omega) hb3)
      all_goals
        go_wp2
        go_ret
        refine ⟨by rw [HI.out, ← str_app, ← HT.out]; rfl, ?_⟩
        first
          | exact (((Below.refl _ _).drew).trans hb3).alloc hb3.size _
          | exact (((Below.refl _ _).alloc (Nat.le_refl _) _).drew).trans (hb3.mono (by simp))
end Go.Proofs.YtjoipgekmnnlpaaGreatDoor
namespace Go.Proofs.YtjoipgekmnnlpaaGreatDoor
open Go.RowKit Pk Hx C1

theorem ret_ibr {a b : Int} {x y : Bool} (h : a = b) (h' : x = y) : Ending.returned (.tuple #[.int .i64 a, .bool x]) = .returned (.tuple #[.int .i64 b, .bool y]) := by rw [h, h']
/-- the loop's state: the digits so far spell m -/
def DigIs (D : ByteArray) (k m : Nat) : Prop := m = val 0 (D.data.toList.take k) ∧ ∀ c ∈ D.data.toList.take k, digC c = true
theorem dig_step {D : ByteArray} {k m : Nat} (h : DigIs D k m) (hk : k < D.size) (hd : 48 ≤ D[k].toNat ∧ D[k].toNat ≤ 57) : DigIs D (k + 1) (10 * m + (D[k].toNat - 48)) := by
  obtain ⟨h1, h2⟩ := h
  have e : D.data.toList.take (k + 1) = D.data.toList.take k ++ [D[k]] := by rw [List.take_succ_eq_append_getElem (by simpa using hk)]; rfl
  refine ⟨by rw [e, val_snoc, ← h1]; omega, fun c hc => ?_⟩
  rw [e] at hc
  rcases List.mem_append.1 hc with hc | hc
  · exact h2 c hc
  · rw [List.mem_singleton] at hc; subst hc; exact (digC_iff _).2 hd
theorem val_split : ∀ (a b : List UInt8) (acc : Nat), val acc a ≤ val acc (a ++ b)
  | [], b, _ => val_ge b _
  | _ :: r, b, _ => val_split r b _
theorem none_big {l : List UInt8} {D : ByteArray} {k m : Nat} (hb : D.data.toList = body l) (h : DigIs D k m) (hm : 9223372036854775808 < m) : prs l = none :=
  prs_none fun hc => by
    have h1 : val 0 (D.data.toList.take k) ≤ val 0 D.data.toList := by
      have := val_split (D.data.toList.take k) (D.data.toList.drop k) 0
      rwa [List.take_append_drop] at this
    rw [← h.1, hb] at h1
    obtain ⟨-, c1, c2⟩ := hc
    unfold ival at c1 c2
    by_cases hn : negL l = true
    · rw [if_pos hn] at c1; omega
    · rw [if_neg hn] at c2; omega
theorem none_dig {l : List UInt8} {s : ByteArray} {p : Nat} (hb : s.data.toList = body l) (hp : p < s.size) (hd : ¬ (48 ≤ s[p].toNat ∧ s[p].toNat ≤ 57)) : prs l = none :=
  prs_none fun h => by
    have := h.1.1 s[p] (by rw [← hb]; exact List.getElem_mem _)
    exact hd ((digC_iff _).1 this)
theorem quo_min (q : Int) (h0 : 0 ≤ q) (h1 : q ≤ 9) : IntKind.i64.wrap ((-9223372036854775808 + q).tdiv 10) = -((9223372036854775808 - q) / 10) := by
  have e : (-9223372036854775808 + q).tdiv 10 = -((9223372036854775808 - q) / 10) := by
    rw [← Int.tdiv_eq_ediv_of_nonneg (a := 9223372036854775808 - q) (by omega), show (-9223372036854775808 + q) = -(9223372036854775808 - q) by omega, Int.neg_tdiv]
  rw [e]
  exact w64 rfl (by omega) (by omega)
theorem head_of {l : List UInt8} {c : UInt8} {r : List UInt8} (h : l = c :: r) : (negL l = true ↔ c = 45) := by
  subst h; unfold negL; simp

set_option maxHeartbeats 4000000 in
theorem parseR_any (s : ByteArray) (lo hi : Int) (w : World) (hs : s.size ≤ 1000000) :
    Calls Tryz.prog 133 #[.string s, .int .i64 lo, .int .i64 hi] w fun e w' => e = .returned (.tuple #[.int .i64 (parseL s.data.toList lo hi).1, .bool (parseL s.data.toList lo hi).2]) ∧ Below w.heap.size w w' := by
  obtain ⟨nb, hnb⟩ : ∃ nb, nb = negL s.data.toList := ⟨_, rfl⟩
  obtain ⟨D, hDb⟩ : ∃ D : ByteArray, D = if nb = true then s.extract 1 s.size else s := ⟨_, rfl⟩
  have hpos : nb = true → 0 < s.size := fun h => by
    rw [hnb] at h
    unfold negL at h
    rcases Nat.eq_zero_or_pos s.size with h' | h'
    · rw [List.eq_nil_of_length_eq_zero (show s.data.toList.length = 0 from h')] at h; cases h
    · exact h'
  have hDl : D.data.toList = body s.data.toList := by
    rw [hDb]
    unfold body
    rw [← hnb]
    split
    · rw [show (s.extract 1 s.size).data.toList = (s.data.toList.drop 1).take (s.size - 1) by rw [← Lib.extract_toList, Lib.toList_data]]
      rw [List.take_of_length_le (by rw [List.length_drop]; show s.size - 1 ≤ s.size - 1; omega), List.drop_one]
    · rfl
  have hDs : D.size ≤ s.size := by
    have h1 : D.data.toList.length = D.size := rfl
    have h2 : s.data.toList.length = s.size := rfl
    rw [← h1, ← h2, hDl]
    unfold body; split <;> simp
  have HNB := Lib.hid hnb
  have HDB := Lib.hid hDb
  have HDL := Lib.hid hDl
  clear hnb hDb hDl
  go_enter Tryz.func133, Tryz.ntmps133
  go_upto_region 1 with fail
  go_cut [8] (fun v wc => wc = w ∧ v = .bool nb)
  case first =>
    by_cases h0 : 0 < s.size
    · have hc := (head_of (show s.data.toList = s[0] :: tl s 1 by rw [← tl_zero, tl_cons s 0 h0]))
      rw [← HNB.out] at hc
      by_cases h45 : s[0] = 45
      · obtain rfl : nb = true := hc.2 h45
        have q1 : ((s[0].toNat : Int) == 45) = true := by rw [h45]; rfl
        clear hc h45
        go_wp2
        go_meet
        exact ⟨rfl, rfl⟩
      · obtain rfl : nb = false := (Bool.not_eq_true nb).mp fun h => h45 (hc.1 h)
        have q1 : ((s[0].toNat : Int) == 45) = false := beq_eq_false_iff_ne.2 (fun e => h45 (by rw [← UInt8.toNat_inj]; show s[0].toNat = 45; omega))
        clear hc h45
        go_wp2
        go_meet
        exact ⟨rfl, rfl⟩
    · obtain rfl : nb = false := (Bool.not_eq_true nb).mp fun h => h0 (hpos h)
      go_wp2
      go_meet
      exact ⟨rfl, rfl⟩
  case rest =>
  obtain ⟨rfl, rfl⟩ := hcut
  go_upto_if 22 with fail
  go_cut [9] (fun v wc' => wc' = wc ∧ v = .string D)
  case first =>
    cases nb with
    | true =>
      have e := HDB.out
      rw [if_pos rfl] at e
      have h1 := hpos rfl
      subst e
      go_wp2
      go_meet
      exact ⟨rfl, rfl⟩
    | false =>
      have e := HDB.out
      rw [if_neg (by decide)] at e
      subst e
      go_wp2
      go_meet
      exact ⟨rfl, rfl⟩
  case rest =>
  obtain ⟨rfl, rfl⟩ := hcut
  go_wp2
  go_loop [10, 11] (fun nv iv => ∃ (k m : Nat), iv = .int .i64 k ∧ nv = .int .i64 (-(m : Int)) ∧ k ≤ D.size ∧ m ≤ 9223372036854775808 ∧ Hid (DigIs D k m)) (fun _ i => D.size - (intOf i).toNat)
  case atStart => exact ⟨0, 0, rfl, rfl, by omega, by omega, rfl, fun c hc => by simp at hc⟩
  case round =>
    obtain ⟨k, m, rfl, rfl, hk, hm, hdig⟩ := hrel
    by_cases hlt : k < D.size
    · have hb := D[k].toNat_lt
      by_cases hd : 48 ≤ D[k].toNat ∧ D[k].toNat ≤ 57
      · obtain ⟨q, hq⟩ : ∃ q : Nat, D[k].toNat = q + 48 := ⟨D[k].toNat - 48, by omega⟩
        have hst := dig_step hdig.out hlt hd
        rw [show D[k].toNat - 48 = q by omega] at hst
        have e0 : (D[k].toNat : Int) - 48 = q := by omega
        have q9 : q ≤ 9 := by omega
        have w1 : IntKind.i64.wrap (-9223372036854775808 + (q : Int)) = -9223372036854775808 + (q : Int) := w64 rfl (by omega) (by omega)
        have w2 := quo_min q (by omega) (by omega)
        clear hd hdig hq
        by_cases hov : 10 * m + q ≤ 9223372036854775808
        · have h1 : -((9223372036854775808 - (q : Int)) / 10) ≤ -(m : Int) := by omega
          have w3 : IntKind.i64.wrap (10 * -(m : Int)) = 10 * -(m : Int) := w64 rfl (by omega) (by omega)
          have w4 : IntKind.i64.wrap (10 * -(m : Int) - (q : Int)) = 10 * -(m : Int) - (q : Int) := w64 rfl (by omega) (by omega)
          have HST := Lib.hid hst
          clear hst
          go_wp2
          go_round
          case rel => exact ⟨k + 1, 10 * m + q, by go_num, by congr 1; omega, by omega, hov, HST⟩
          case measure => simp [intOf]; omega
        · have h1 : -(m : Int) < -((9223372036854775808 - (q : Int)) / 10) := by omega
          have hn := Lib.hid (none_big HDL.out hst (by omega))
          clear hst
          go_wp2
          go_ret2
          exact ⟨ret_ibr (by rw [parseL, hn.out]; rfl) (by rw [parseL, hn.out]; rfl), Below.refl _ _⟩
      · have hn := Lib.hid (none_dig HDL.out hlt hd)
        rcases (show D[k].toNat < 48 ∨ (48 ≤ D[k].toNat ∧ 57 < D[k].toNat) by omega) with d | ⟨d, d'⟩
        · have e1 : (D[k].toNat : Int) - 48 < 0 := by omega
          clear hd hdig
          go_wp2
          go_ret2
          exact ⟨ret_ibr (by rw [parseL, hn.out]; rfl) (by rw [parseL, hn.out]; rfl), Below.refl _ _⟩
        · have e1 : 0 ≤ (D[k].toNat : Int) - 48 := by omega
          have e2 : 9 < (D[k].toNat : Int) - 48 := by omega
          clear hd hdig
          go_wp2
          go_ret2
          exact ⟨ret_ibr (by rw [parseL, hn.out]; rfl) (by rw [parseL, hn.out]; rfl), Below.refl _ _⟩
    · have hv : val 0 (body s.data.toList) = m := by
        have := hdig.out.1
        rw [List.take_of_length_le (by show D.size ≤ k; omega), HDL.out] at this
        exact this.symm
      have hiv : ival s.data.toList = if nb = true then -(m : Int) else m := by
        unfold ival; rw [← HNB.out, hv]
      have HIV := Lib.hid hiv
      clear hdig hv hiv
      by_cases hmin : nb = false ∧ m = 9223372036854775808
      · obtain ⟨rfl, hm2⟩ := hmin
        have hF := Lib.hid (show parseL s.data.toList lo hi = (0, false) by
          rw [parseL, prs_none (fun h => by have e := HIV.out; rw [if_neg (by decide)] at e; omega)]; rfl)
        have q1 : (-(m : Int) == -9223372036854775808) = true := beq_iff_eq.2 (by omega)
        clear hm2
        go_wp2
        go_ret2
        rw [hF.out]
        exact ⟨rfl, Below.refl _ _⟩
      · obtain ⟨v, hv⟩ : ∃ v, v = ival s.data.toList := ⟨_, rfl⟩
        have hr1 : -9223372036854775808 ≤ v ∧ v ≤ 9223372036854775807 := by
          have e := HIV.out
          rw [← hv] at e
          cases nb with
          | true => rw [if_pos rfl] at e; omega
          | false =>
            rw [if_neg (by decide)] at e
            have : m ≠ 9223372036854775808 := fun h => hmin ⟨rfl, h⟩
            omega
        have hsl : (nb = true ∧ v = -(m : Int)) ∨ (nb = false ∧ v = (m : Int) ∧ (-(m : Int) == -9223372036854775808) = false) := by
          have e := HIV.out
          rw [← hv] at e
          cases nb with
          | true => left; rw [if_pos rfl] at e; exact ⟨rfl, e⟩
          | false =>
            right
            rw [if_neg (by decide)] at e
            have : m ≠ 9223372036854775808 := fun h => hmin ⟨rfl, h⟩
            exact ⟨rfl, e, beq_eq_false_iff_ne.2 (by omega)⟩
        obtain ⟨hr1, hr2⟩ := hr1
        have htx := fun w => textR_any v.natAbs v w (Nat.le_refl _) hr1 hr2
        clear HIV hmin
        by_cases hcan : C1.Can s.data.toList
        · rw [show Lib.itoa v = s.data.toList by rw [hv, itoa_ival hcan], show (⟨s.data.toList.toArray⟩ : ByteArray) = s by simp] at htx
          have HTX := Lib.hid htx
          have hps := prs_some hcan (by rw [← hv]; exact hr1) (by rw [← hv]; exact hr2)
          rw [← hv] at hps
          have HPS := Lib.hid hps
          clear htx hps hcan hv
          rcases (show v < lo ∨ (lo ≤ v ∧ hi < v) ∨ (lo ≤ v ∧ v ≤ hi) by omega) with c | ⟨c, c'⟩ | ⟨c, c'⟩
          · have HF := Lib.hid (show parseL s.data.toList lo hi = (0, false) by rw [parseL, HPS.out, pickR]; exact if_neg (by omega))
            rcases hsl with ⟨rfl, rfl⟩ | ⟨rfl, rfl, q1⟩
            all_goals
              go_wp2_with (go_at_call 53; go_must (refine (HTX.out _).mono ?_; rintro e w2 ⟨rfl, hb2⟩))
              go_ret2
              rw [HF.out]
              exact ⟨rfl, hb2⟩
          · have HF := Lib.hid (show parseL s.data.toList lo hi = (0, false) by rw [parseL, HPS.out, pickR]; exact if_neg (by omega))
            rcases hsl with ⟨rfl, rfl⟩ | ⟨rfl, rfl, q1⟩
            all_goals
              go_wp2_with (go_at_call 53; go_must (refine (HTX.out _).mono ?_; rintro e w2 ⟨rfl, hb2⟩))
              go_ret2
              rw [HF.out]
              exact ⟨rfl, hb2⟩
          · have HF := Lib.hid (show parseL s.data.toList lo hi = (v, true) by rw [parseL, HPS.out, pickR]; exact if_pos ⟨c, c'⟩)
            rcases hsl with ⟨rfl, rfl⟩ | ⟨rfl, rfl, q1⟩
            all_goals
              go_wp2_with (go_at_call 53; go_must (refine (HTX.out _).mono ?_; rintro e w2 ⟨rfl, hb2⟩))
              go_ret2
              rw [HF.out]
              exact ⟨rfl, hb2⟩
        · have hcT := can_itoa v
          obtain ⟨T, hT, hTl, hTs⟩ := arr_exR (Lib.itoa v)
          rw [← hT] at htx
          have HTX := Lib.hid htx
          have q2 : (!T.toList == s.toList) = true := by
            have : (T.toList == s.toList) = false := beq_eq_false_iff_ne.2 fun e => hcan (by
              rw [Lib.toList_data, Lib.toList_data, hTl] at e
              rw [← e]; exact hcT)
            rw [this]; rfl
          have HF := Lib.hid (show parseL s.data.toList lo hi = (0, false) by rw [parseL, prs_none (fun h => hcan h.1)]; rfl)
          clear htx hcT hT hTl hTs hcan hv
          rcases hsl with ⟨rfl, rfl⟩ | ⟨rfl, rfl, q1⟩
          all_goals
            go_wp2_with (go_at_call 53; go_must (refine (HTX.out _).mono ?_; rintro e w2 ⟨rfl, hb2⟩))
            go_ret2
            rw [HF.out]
            exact ⟨rfl, hb2⟩
end Go.Proofs.YtjoipgekmnnlpaaGreatDoor
namespace Sm
open Go Lx

/-- no blank at the end -/
def NT (l : List UInt8) : Prop := ∀ c, l.getLast? = some c → blk c = false
/-- no blank at the beginning -/
def NH (l : List UInt8) : Prop := ∀ c, l.head? = some c → blk c = false
def rtrimR (l : List UInt8) : List UInt8 := (l.reverse.dropWhile blk).reverse
theorem rtrimR_nt {l : List UInt8} (h : NT l) : rtrimR l = l := by
  unfold rtrimR
  cases hr : l.reverse with
  | nil => rw [List.dropWhile_nil]; rw [← hr, List.reverse_reverse]
  | cons c r =>
    have hc : blk c = false := h c (by rw [List.getLast?_eq_head?_reverse, hr]; rfl)
    rw [List.dropWhile_cons, if_neg (by rw [hc]; decide), ← hr, List.reverse_reverse]
theorem nh_drop (l : List UInt8) : NH (l.dropWhile blk) := by
  induction l with
  | nil => intro c hc; cases hc
  | cons d r ih =>
    rw [List.dropWhile_cons]
    by_cases hd : blk d = true
    · rw [if_pos hd]; exact ih
    · rw [if_neg hd]
      intro c hc
      injection hc with hc
      rw [← hc]; simpa using hd
theorem drop_nh {l : List UInt8} (h : NH l) : l.dropWhile blk = l := by
  cases l with
  | nil => rfl
  | cons c r => rw [List.dropWhile_cons, if_neg (by rw [h c rfl]; decide)]
theorem nt_rtrim (l : List UInt8) : NT (rtrimR l) := by
  intro c hc
  unfold rtrimR at hc
  rw [List.getLast?_reverse] at hc
  exact nh_drop _ c hc
theorem nt_suffix {a b : List UInt8} (h : NT (a ++ b)) : NT b := by
  intro c hc
  refine h c ?_
  rw [List.getLast?_append, hc]
  rfl
theorem nt_drop {l : List UInt8} (h : NT l) (n : Nat) : NT (l.drop n) := by
  rw [← List.take_append_drop n l] at h
  exact nt_suffix h
theorem nt_dropWhile {l : List UInt8} (h : NT l) (p : UInt8 → Bool) : NT (l.dropWhile p) := by
  rw [← List.takeWhile_append_dropWhile (p := p) (l := l)] at h
  exact nt_suffix h
theorem trimW_def (l : List UInt8) : trimW l = (rtrimR l).dropWhile blk := rfl
theorem nt_trim (l : List UInt8) : NT (trimW l) := nt_dropWhile (nt_rtrim l) _
theorem nh_trim (l : List UInt8) : NH (trimW l) := nh_drop _
theorem trimW_nt {l : List UInt8} (h : NT l) : trimW l = l.dropWhile blk := by rw [trimW_def, rtrimR_nt h]
theorem trimW_idem (l : List UInt8) : trimW (trimW l) = trimW l := by
  rw [trimW_nt (nt_trim l), drop_nh (nh_trim l)]
theorem trimW_lenR (l : List UInt8) : (trimW l).length ≤ l.length := by
  rw [trimW_def]
  have h1 : ((rtrimR l).dropWhile blk).length ≤ (rtrimR l).length := (List.dropWhile_sublist _).length_le
  have h2 : (rtrimR l).length ≤ l.length := by
    unfold rtrimR
    rw [List.length_reverse]
    have := (List.dropWhile_sublist blk (l := l.reverse)).length_le
    rw [List.length_reverse] at this
    exact this
  omega
theorem trimW_ne {l : List UInt8} (h : NT l) (hne : l ≠ []) : trimW l ≠ [] := by
  rw [trimW_nt h]
  intro e
  obtain ⟨c, hc⟩ : ∃ c, l.getLast? = some c := by
    cases hl : l.getLast? with
    | none => exact absurd (List.getLast?_eq_none_iff.1 hl) hne
    | some c => exact ⟨c, rfl⟩
  have hb := h c hc
  have hm := List.mem_of_getLast? hc
  have key : ∀ l : List UInt8, l.dropWhile blk = [] → ∀ c ∈ l, blk c = true := by
    intro l
    induction l with
    | nil => intro _ c hc; cases hc
    | cons d r ih =>
      intro e c hc
      rw [List.dropWhile_cons] at e
      by_cases hd : blk d = true
      · rw [if_pos hd] at e
        rcases List.mem_cons.1 hc with rfl | hc
        · exact hd
        · exact ih e c hc
      · rw [if_neg hd] at e; cases e
  exact absurd (key l e c hm) (by rw [hb]; decide)
/-- the options, counted: the last size, how many sizes, how many bodies -/
def gvR : Nat → List UInt8 → Nat → Nat → Nat → Option (Nat × Nat × Nat)
  | _, [], n, x, y => some (n, x, y)
  | 0, _ :: _, _, _, _ => none
  | m + 1, c :: l, n, x, y => if blk c = false then none else match optW (wordW (c :: l)).1 with
    | none => none
    | some none => gvR m ((trimW (c :: l)).dropWhile (fun c => !blk c)) n x (y + 1)
    | some (some k) => gvR m ((trimW (c :: l)).dropWhile (fun c => !blk c)) k (x + 1) y
def fin3 : Option (Nat × Nat × Nat) → Option Nat
  | none => none
  | some (k, p, q) => if p ≤ 1 ∧ q ≤ 1 then some k else none
theorem wordW_trim {a b : List UInt8} (h : trimW a = trimW b) : wordW a = wordW b := by unfold wordW; rw [h]
theorem rest_shorter {l : List UInt8} (h : NT l) (hne : l ≠ []) : ((trimW l).dropWhile (fun c => !blk c)).length < l.length := by
  have h1 := trimW_ne h hne
  have h2 := trimW_lenR l
  cases ht : trimW l with
  | nil => exact absurd ht h1
  | cons c r =>
    have hc := nh_trim l c (by rw [ht]; rfl)
    rw [List.dropWhile_cons, if_pos (by rw [hc]; rfl)]
    have := (List.dropWhile_sublist (fun c => !blk c) (l := r)).length_le
    rw [ht, List.length_cons] at h2
    omega
theorem head_blank (l : List UInt8) : ∀ c, (l.dropWhile (fun c => !blk c)).head? = some c → blk c = true := by
  induction l with
  | nil => intro c hc; cases hc
  | cons d r ih =>
    intro c hc
    rw [List.dropWhile_cons] at hc
    by_cases hd : blk d = true
    · rw [if_neg (by rw [hd]; decide)] at hc
      injection hc with hc
      rw [← hc]; exact hd
    · rw [if_pos (by simpa using hd)] at hc
      exact ih c hc
theorem gv_opts : ∀ (m m' : Nat) (s P : List UInt8) (n x y : Nat), NT s → (∀ c, s.head? = some c → blk c = true) → NT P → trimW P = trimW s → s.length ≤ m → P.length ≤ m' →
    fin3 (gvR m s n x y) = if x ≤ 1 ∧ y ≤ 1 then optsW m' P (decide (x = 1)) (decide (y = 1)) n else none := by
  intro m
  induction m with
  | zero =>
    intro m' s P n x y hs hh hP ht hl hl'
    obtain rfl : s = [] := List.eq_nil_of_length_eq_zero (by omega)
    have hPe : P = [] := by
      by_cases e : P = []
      · exact e
      · exact absurd (ht.trans rfl) (trimW_ne hP e)
    subst hPe
    cases m' <;> rfl
  | succ m ih =>
    intro m' s P n x y hs hh hP ht hl hl'
    cases s with
    | nil =>
      have hPe : P = [] := by
        by_cases e : P = []
        · exact e
        · exact absurd (ht.trans rfl) (trimW_ne hP e)
      subst hPe
      cases m' <;> rfl
    | cons c l =>
      have hc := hh c rfl
      cases P with
      | nil =>
        exact absurd (ht.symm.trans rfl) (trimW_ne hs (by simp))
      | cons d p =>
        cases m' with
        | zero => simp at hl'
        | succ k =>
          have hw : wordW (d :: p) = wordW (c :: l) := wordW_trim ht
          have r1 := rest_shorter hs (by simp)
          have r2 := rest_shorter hP (by simp)
          rw [ht] at r2
          have hn := nt_dropWhile (nt_trim (c :: l)) (fun c => !blk c)
          have e2 : (wordW (c :: l)).2 = trimW ((trimW (c :: l)).dropWhile (fun c => !blk c)) := rfl
          have tl2 := trimW_lenR ((trimW (c :: l)).dropWhile (fun c => !blk c))
          show fin3 (if blk c = false then none else match optW (wordW (c :: l)).1 with
            | none => none
            | some none => gvR m ((trimW (c :: l)).dropWhile (fun c => !blk c)) n x (y + 1)
            | some (some k) => gvR m ((trimW (c :: l)).dropWhile (fun c => !blk c)) k (x + 1) y) = if x ≤ 1 ∧ y ≤ 1 then (match optW (wordW (d :: p)).1 with
            | none => none
            | some none => if decide (y = 1) = true then none else optsW k (wordW (d :: p)).2 (decide (x = 1)) true n
            | some (some z) => if decide (x = 1) = true then none else optsW k (wordW (d :: p)).2 true (decide (y = 1)) z) else none
          rw [hw, if_neg (by rw [hc]; decide)]
          cases ho : optW (wordW (c :: l)).1 with
          | none => simp [fin3]
          | some v =>
            cases v with
            | none =>
              simp only
              rw [ih k _ _ n x (y + 1) hn (head_blank _) (nt_trim _) (trimW_idem _) (by simp at hl; simp at r1; omega) (by simp at hl'; simp at r2; omega), ← e2]
              by_cases hx : x ≤ 1
              · rcases (show y = 0 ∨ y = 1 ∨ 1 < y by omega) with rfl | rfl | hy
                · rw [if_pos ⟨hx, by omega⟩, if_pos ⟨hx, by omega⟩]; rfl
                · rw [if_neg (by omega), if_pos ⟨hx, by omega⟩]; rfl
                · rw [if_neg (by omega), if_neg (by omega)]
              · rw [if_neg (by omega), if_neg (by omega)]
            | some z =>
              simp only
              rw [ih k _ _ z (x + 1) y hn (head_blank _) (nt_trim _) (trimW_idem _) (by simp at hl; simp at r1; omega) (by simp at hl'; simp at r2; omega), ← e2]
              by_cases hy : y ≤ 1
              · rcases (show x = 0 ∨ x = 1 ∨ 1 < x by omega) with rfl | rfl | hx
                · rw [if_pos ⟨by omega, hy⟩, if_pos ⟨by omega, hy⟩]; rfl
                · rw [if_neg (by omega), if_pos ⟨by omega, hy⟩]; rfl
                · rw [if_neg (by omega), if_neg (by omega)]
              · rw [if_neg (by omega), if_neg (by omega)]
/-- the options of MAIL as one answer -/
def givW (y : List UInt8) : Option Nat := if hdB y = true then none else optsW y.length y false false 0
theorem giv_eq (y : List UInt8) (h : NT y) : givW y = if hdB y = true then none else fin3 (gvR y.length y 0 0 0) := by
  unfold givW
  by_cases hb : hdB y = true
  · rw [if_pos hb, if_pos hb]
  · rw [if_neg hb, if_neg hb, gv_opts y.length y.length y y 0 0 0 h (fun c hc => by
      cases y with
      | nil => cases hc
      | cons d r => injection hc with hc; subst hc; simpa [hdB] using hb) h rfl (Nat.le_refl _) (Nat.le_refl _)]
    rfl
/-- a byte of a path -/
def okP (c : UInt8) : Bool := okA c && decide (c ≠ 62)
theorem pathW_span (l : List UInt8) : pathW (60 :: l) = match l.dropWhile okP with | [] => none | c :: r => if c = 62 then some (l.takeWhile okP, r) else none := by
  have key : ∀ l : List UInt8, ((l.dropWhile (fun c => decide (c ≠ 62))) ≠ [] ∧ (l.takeWhile (fun c => decide (c ≠ 62))).all okA = true → l.dropWhile okP = l.dropWhile (fun c => decide (c ≠ 62)) ∧ l.takeWhile okP = l.takeWhile (fun c => decide (c ≠ 62))) ∧
      (¬ ((l.dropWhile (fun c => decide (c ≠ 62))) ≠ [] ∧ (l.takeWhile (fun c => decide (c ≠ 62))).all okA = true) → ∀ c r, l.dropWhile okP = c :: r → c ≠ 62) := by
    intro l
    induction l with
    | nil => exact ⟨fun h => absurd rfl h.1, fun _ c r e => by cases e⟩
    | cons d t ih =>
      by_cases hd : d = 62
      · subst hd
        refine ⟨fun _ => ⟨rfl, rfl⟩, fun h => absurd ⟨by simp, rfl⟩ h⟩
      · have e1 : (d :: t).dropWhile (fun c => decide (c ≠ 62)) = t.dropWhile (fun c => decide (c ≠ 62)) := by rw [List.dropWhile_cons, if_pos (by simpa using hd)]
        have e2 : (d :: t).takeWhile (fun c => decide (c ≠ 62)) = d :: t.takeWhile (fun c => decide (c ≠ 62)) := by rw [List.takeWhile_cons, if_pos (by simpa using hd)]
        rw [e1, e2, List.all_cons]
        by_cases ha : okA d = true
        · have hp : okP d = true := by unfold okP; rw [ha]; simpa using hd
          have e3 : (d :: t).dropWhile okP = t.dropWhile okP := by rw [List.dropWhile_cons, if_pos hp]
          have e4 : (d :: t).takeWhile okP = d :: t.takeWhile okP := by rw [List.takeWhile_cons, if_pos hp]
          rw [e3, e4, ha, Bool.true_and]
          exact ⟨fun h => ⟨(ih.1 h).1, by rw [(ih.1 h).2]⟩, ih.2⟩
        · have ha : okA d = false := by simpa using ha
          have hp : ¬ okP d = true := by unfold okP; rw [ha, Bool.false_and]; decide
          rw [ha]
          refine ⟨fun h => by simp at h, fun _ c r e => ?_⟩
          rw [List.dropWhile_cons, if_neg hp] at e
          injection e with e
          rw [← e]; exact hd
  show (if (60 : UInt8) = 60 ∧ (l.dropWhile (fun c => decide (c ≠ 62))) ≠ [] ∧ (l.takeWhile (fun c => decide (c ≠ 62))).all okA = true then some (l.takeWhile (fun c => decide (c ≠ 62)), (l.dropWhile (fun c => decide (c ≠ 62))).tail) else none) = _
  by_cases h : (l.dropWhile (fun c => decide (c ≠ 62))) ≠ [] ∧ (l.takeWhile (fun c => decide (c ≠ 62))).all okA = true
  · rw [if_pos ⟨rfl, h⟩]
    obtain ⟨e1, e2⟩ := (key l).1 h
    rw [e1, e2]
    have h62 : ∀ (t : List UInt8) c r, t.dropWhile (fun c => decide (c ≠ 62)) = c :: r → c = 62 := by
      intro t
      induction t with
      | nil => intro c r e; cases e
      | cons d t ih =>
        intro c r e
        rw [List.dropWhile_cons] at e
        by_cases hd : d = 62
        · rw [if_neg (by simpa using hd)] at e
          injection e with e
          rw [← e]; exact hd
        · rw [if_pos (by simpa using hd)] at e
          exact ih c r e
    cases hx : l.dropWhile (fun c => decide (c ≠ 62)) with
    | nil => exact absurd hx h.1
    | cons c r => rw [h62 l c r hx]; rfl
  · rw [if_neg (fun e => h e.2)]
    have := (key l).2 h
    cases hx : l.dropWhile okP with
    | nil => rfl
    | cons c r => simp only; rw [if_neg (this c r hx)]
/-- every line but the last is whole -/
theorem linN_whole : ∀ (s : List UInt8) (i : Nat) (h : i < (linN s).length), i + 1 < (linN s).length → (linN s)[i].getLast? = some 10 := by
  intro s
  refine lin_rec (P := fun s => ∀ (i : Nat) (h : i < (linN s).length), i + 1 < (linN s).length → (linN s)[i].getLast? = some 10) (fun i h => by cases h) (fun l hne ih => ?_) s
  have e := linN_cons l hne
  by_cases h10 : l.contains 10 = true
  · intro i h h1
    obtain ⟨X, hX⟩ : ∃ X, X = (linN l)[i] := ⟨_, rfl⟩
    have hx : (linN l)[i]? = some X := by rw [hX]; exact List.getElem?_eq_getElem h
    rw [← hX]
    clear hX
    rw [e] at hx h1
    cases i with
    | zero =>
      injection hx with hx
      rw [← hx, lnL_yes l h10]
      simp
    | succ i =>
      rw [List.getElem?_cons_succ] at hx
      rw [List.length_cons] at h1
      have := ih i (by omega) (by omega)
      rw [List.getElem?_eq_getElem (by omega)] at hx
      injection hx with hx
      rw [← hx]; exact this
  · have h10 : l.contains 10 = false := by simpa using h10
    intro i h h1
    rw [lnL_no l h10, List.take_length, List.drop_length, linN_nil] at e
    rw [e] at h1
    simp at h1
theorem linN_part : ∀ (s : List UInt8), ∀ x ∈ linN s, x.getLast? ≠ some 10 → x.contains 10 = false := by
  intro s
  refine lin_rec (P := fun s => ∀ x ∈ linN s, x.getLast? ≠ some 10 → x.contains 10 = false) (fun x h => by cases h) (fun l hne ih => ?_) s
  intro x hx hl
  rw [linN_cons l hne] at hx
  rcases List.mem_cons.1 hx with rfl | hx
  · by_cases h10 : l.contains 10 = true
    · rw [lnL_yes l h10] at hl
      simp at hl
    · have h10 : l.contains 10 = false := by simpa using h10
      rw [lnL_no l h10, List.take_length]; exact h10
  · exact ih x hx hl
/-- within the reference's Push: the lines so far, and what is left -/
structure PsA (s : List UInt8) (i : Nat) (outs : List (List UInt8)) (left : List UInt8) : Prop where
  out : outs = (pushL [] ((linN s).take i)).1
  rst : (pushL [] ((linN s).take i)).2 = left.take 1000
  nil : i < (linN s).length → left = []
  no : left.contains 10 = false
  len : left.length ≤ s.length
theorem psA_zero (s : List UInt8) : PsA s 0 [] [] := ⟨rfl, rfl, fun _ => rfl, rfl, Nat.zero_le _⟩
theorem psA_step {s : List UInt8} {i : Nat} {outs : List (List UInt8)} {left : List UInt8} (h : PsA s i outs left) (hi : i < (linN s).length) :
    ((linN s)[i].getLast? = some 10 → PsA s (i + 1) (outs ++ [(linN s)[i].take 1000]) []) ∧ ((linN s)[i].getLast? ≠ some 10 → PsA s (i + 1) outs (linN s)[i]) := by
  have ht := List.take_succ_eq_append_getElem hi
  have hp := pushL_snoc (linN s)[i] ((linN s).take i) []
  have hl := h.nil hi
  have hr := h.rst
  subst hl
  rw [show ([] : List UInt8).take 1000 = [] from rfl] at hr
  rw [hr, List.nil_append] at hp
  refine ⟨fun hw => ?_, fun hw => ?_⟩
  · rw [if_pos hw] at hp
    refine ⟨?_, ?_, fun _ => rfl, rfl, Nat.zero_le _⟩
    · rw [ht, hp, h.out]
    · rw [ht, hp]; rfl
  · rw [if_neg hw] at hp
    refine ⟨?_, ?_, fun hj => ?_, linN_part s _ (List.getElem_mem hi) hw, (linN_ne s _ (List.getElem_mem hi)).2⟩
    · rw [ht, hp, h.out]
    · rw [ht, hp]
    · exact absurd (linN_whole s i hi hj) hw
theorem push_left (L c : List UInt8) (h : L.contains 10 = false) : pushW (L.take 1000) c = pushW [] (L ++ c) := by
  rw [pushW_app, pushW_free L [] (Nat.zero_le _) h]
  simp
theorem psA_end {L c : List UInt8} {i : Nat} {outs : List (List UInt8)} {left : List UInt8} (h : PsA (L ++ c) i outs left) (hi : ¬ i < (linN (L ++ c)).length) (hL : L.contains 10 = false) :
    outs = (pushW (L.take 1000) c).1 ∧ (pushW (L.take 1000) c).2 = left.take 1000 := by
  have h1 := h.out
  have h2 := h.rst
  rw [List.take_of_length_le (by omega), pushL_lin _ _ (Nat.zero_le _)] at h1 h2
  rw [push_left L c hL]
  exact ⟨h1, h2⟩
theorem optW_size {p v : List UInt8} (h : beginW sizeK p = some v) : optW p = (numV v).map some := by
  have h2 : (p.map up).take 5 = sizeK := by
    unfold beginW at h
    split at h
    · rename_i h2
      rw [← List.map_take]; exact h2
    · cases h
  unfold optW
  rw [if_neg, h]
  rintro (e | e) <;> (rw [e] at h2; exact absurd h2 (by decide))
theorem optW_not {p : List UInt8} (h : beginW sizeK p = none) : optW p = if p.map up = body7 ∨ p.map up = body8 then some none else none := by
  unfold optW
  rw [h]
/-- within the reference's reading of options -/
structure GvI (S : ByteArray) (n x y N : Nat) (X0 : Option Nat) : Prop where
  nt : NT S.data.toList
  ans : ∃ m, S.data.toList.length ≤ m ∧ X0 = if hdB S.data.toList = true then none else fin3 (gvR m S.data.toList n x y)
  bx : x + S.size ≤ N
  by_ : y + S.size ≤ N
  bn : n ≤ 9223372036854775807
theorem gvI_zero {y : ByteArray} (h : NT y.data.toList) : GvI y 0 0 0 y.size (givW y.data.toList) :=
  ⟨h, ⟨_, Nat.le_refl _, giv_eq _ h⟩, by omega, by omega, by decide⟩
theorem gvI_end {S : ByteArray} {n x y N : Nat} {X0 : Option Nat} (h : GvI S n x y N X0) (h0 : S.data.toList = []) : X0 = if x ≤ 1 ∧ y ≤ 1 then some n else none := by
  obtain ⟨m, -, e⟩ := h.ans
  rw [h0] at e
  rw [e]
  cases m <;> rfl
theorem gvI_head {S : ByteArray} {n x y N : Nat} {X0 : Option Nat} (h : GvI S n x y N X0) (hb : hdB S.data.toList = true) : X0 = none := by
  obtain ⟨m, -, e⟩ := h.ans
  rw [e, if_pos hb]
theorem gvI_step {S : ByteArray} {n x y N : Nat} {X0 : Option Nat} (h : GvI S n x y N X0) (hne : S.data.toList ≠ []) (hb : hdB S.data.toList = false) :
    (optW (wordW S.data.toList).1 = none → X0 = none) ∧ ∀ S' : ByteArray, S'.data.toList = (trimW S.data.toList).dropWhile (fun c => !blk c) → S'.size < S.size ∧
      (optW (wordW S.data.toList).1 = some none → GvI S' n x (y + 1) N X0) ∧ ∀ k, k ≤ 9223372036854775807 → optW (wordW S.data.toList).1 = some (some k) → GvI S' k (x + 1) y N X0 := by
  obtain ⟨hnt, ⟨m, hm, he⟩, hbx, hby, hbn⟩ := h
  have hsl : S.data.toList.length = S.size := rfl
  have hsh := rest_shorter hnt hne
  rw [if_neg (by rw [hb]; decide)] at he
  cases hS : S.data.toList with
  | nil => exact absurd hS hne
  | cons c l =>
    rw [hS] at he hb hsh hm hsl
    have hc : blk c = true := by
      have : (!blk c) = false := hb
      simpa using this
    cases m with
    | zero => simp at hm
    | succ m =>
      have e1 : gvR (m + 1) (c :: l) n x y = if blk c = false then none else match optW (wordW (c :: l)).1 with
        | none => none
        | some none => gvR m ((trimW (c :: l)).dropWhile (fun c => !blk c)) n x (y + 1)
        | some (some k) => gvR m ((trimW (c :: l)).dropWhile (fun c => !blk c)) k (x + 1) y := rfl
      rw [e1, if_neg (by rw [hc]; decide)] at he
      refine ⟨fun ho => ?_, fun S' hS' => ?_⟩
      · rw [ho] at he; exact he
      · have hl' : S'.data.toList.length = S'.size := rfl
        have hlt : S'.size < S.size := by rw [← hl', hS', ← hsl]; exact hsh
        have hnt' : NT S'.data.toList := by rw [hS']; exact nt_dropWhile (nt_trim _) _
        have hb' : hdB S'.data.toList = false := by
          have := head_blank (trimW (c :: l))
          rw [← hS'] at this
          cases hq : S'.data.toList with
          | nil => rfl
          | cons d q =>
            rw [hq] at this
            show (!blk d) = false
            rw [this d rfl]; rfl
        have hm' : S'.data.toList.length ≤ m := by rw [hl']; omega
        refine ⟨hlt, fun ho => ?_, fun k hk ho => ?_⟩
        · rw [ho] at he
          exact ⟨hnt', ⟨m, hm', by rw [if_neg (by rw [hb']; decide), hS']; exact he⟩, by omega, by omega, hbn⟩
        · rw [ho] at he
          exact ⟨hnt', ⟨m, hm', by rw [if_neg (by rw [hb']; decide), hS']; exact he⟩, by omega, by omega, hk⟩
end Sm
