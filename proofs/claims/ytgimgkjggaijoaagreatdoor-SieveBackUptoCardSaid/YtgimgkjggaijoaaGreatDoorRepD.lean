/- Walks: (*strings.byteStringReplacer).Replace. -/
import Derived.Test.YtgimgkjggaijoaaGreatDoorRepX
import Derived.Test.YtgimgkjggaijoaaGreatDoorRowZ
import Derived.Test.YtgimgkjggaijoaaGreatDoorSplP
import Derived.Test.YtgimgkjggaijoaaGreatDoorShelf
import Derived.Deep.RegionLaw
import Derived.Deep.QuietTactic
import Derived.BigQuiet
namespace Go.Proofs.YtgimgkjggaijoaaGreatDoor
open Go.RowKit Pk Rp

theorem lookup_nodup {ps : List (UInt8 × ByteArray)} (hnd : (ps.map (·.1)).Nodup) {c : UInt8} {s : ByteArray} (h : (c, s) ∈ ps) : ps.lookup c = some s := by
  induction ps with
  | nil => cases h
  | cons p ps ih =>
    rw [List.map_cons, List.nodup_cons] at hnd
    rcases List.mem_cons.1 h with rfl | h
    · exact List.lookup_cons_self
    · have hne : c ≠ p.1 := fun e => hnd.1 (by rw [← e]; exact List.mem_map_of_mem h)
      rw [List.lookup_cons, beq_eq_false_iff_ne.2 hne]
      exact ih hnd.2 h
theorem below_drew (w : World) (n : Nat) : Below w.heap.size w (w.drewN n) := ⟨rfl, rfl, rfl, Nat.le_refl _, fun _ _ => rfl⟩
/-- what the first part finds -/
def SizeIs (ps : List (UInt8 × ByteArray)) (l : List UInt8) (nv av : Value) : Prop := ∃ b : Bool, nv = .int .i64 ((repA ps l).length : Nat) ∧ av = .bool b ∧ (b = false → anyL ps l = false)
theorem sum_step {ps : List (UInt8 × ByteArray)} {l : List UInt8} {t : Nat} (h : t < ps.length) : sumC (ps.take (t + 1)) l = sumC (ps.take t) l + (l.count ps[t].1 : Int) * ((ps[t].2.size : Int) - 1) ∧ anyC (ps.take (t + 1)) l = (anyC (ps.take t) l || decide (l.count ps[t].1 ≠ 0)) := by
  rw [List.take_succ_eq_append_getElem h, sumC_append]
  constructor
  · unfold sumC; simp
  · unfold anyC; rw [List.any_append]; simp
theorem rep_take {ps : List (UInt8 × ByteArray)} {s : ByteArray} {i : Nat} (h : i < s.size) : repA ps (s.data.toList.take (i + 1)) = repA ps (s.data.toList.take i) ++ repP ps s[i] ∧ anyL ps (s.data.toList.take (i + 1)) = (anyL ps (s.data.toList.take i) || (ps.lookup s[i]).isSome) := by
  have e : s.data.toList.take (i + 1) = s.data.toList.take i ++ [s[i]] := by rw [List.take_succ_eq_append_getElem (by simpa using h)]; rfl
  rw [e]
  constructor
  · unfold repA; rw [List.flatMap_append]; simp
  · unfold anyL; rw [List.any_append]; simp
theorem repA_mono (ps : List (UInt8 × ByteArray)) (l : List UInt8) (i : Nat) : (repA ps (l.take i)).length ≤ (repA ps l).length := by
  have : repA ps l = repA ps (l.take i) ++ repA ps (l.drop i) := by
    unfold repA
    rw [← List.flatMap_append, List.take_append_drop]
  rw [this, List.length_append]; omega
theorem oneB_def (c : UInt8) : oneB c = ⟨#[c]⟩ := rfl
theorem count_any (s ks : ByteArray) (c : UInt8) (h : ks = ⟨#[c]⟩) (w : World) : Calls Tryz.prog 226 #[.string s, .string ks] w fun e w' => e = .returned (.int .i64 (s.data.toList.count c : Nat)) ∧ w = w' := by
  subst h
  exact (Tryz.strings_Count_one s c w).mono fun _ _ ⟨h1, h2⟩ => ⟨h1, h2.symm⟩
set_option maxHeartbeats 4000000 in
set_option maxRecDepth 100000 in
theorem bsr_any (R B : Nat) (ps : List (UInt8 × ByteArray)) (s : ByteArray) (w : World) (hT : Tab w R B ps) (hs : s.size ≤ 1000000) (hn : ps.length ≤ 100) (h1 : 1 ≤ ps.length) (hnd : (ps.map (·.1)).Nodup) (hM : ∀ p ∈ ps, p.2.size ≤ 1000) :
    Calls Tryz.prog 224 #[.pointer (some ⟨R, 0, none⟩), .string s] w fun e w' => e = .returned (.string ⟨(repA ps s.data.toList).toArray⟩) ∧ Below w.heap.size w w' := by
  obtain ⟨vt, hvt, hown⟩ := hT.tr
  obtain ⟨K, hK⟩ : ∃ K, K = ps.reverse := ⟨_, rfl⟩
  rw [← hK] at hown
  have hKl : K.length = ps.length := by rw [hK, List.length_reverse]
  have hKd : (K.map (·.1)).Nodup := by rw [hK, List.map_reverse]; exact (List.reverse_perm _).nodup_iff.2 hnd
  have hKm : ∀ p ∈ K, p ∈ ps := fun p hp => by rw [hK] at hp; exact List.mem_reverse.1 hp
  have hsum : (s.size : Int) + sumC K s.data.toList = ((repA ps s.data.toList).length : Nat) := by rw [hK, sumC_reverse, rep_len ps hnd, dataL]
  have hanyK : anyC K s.data.toList = false → anyL ps s.data.toList = false := fun h => anyC_false _ _ (by rw [hK, anyC_reverse] at h; exact h)
  have hbd : ∀ t, -100000000 ≤ sumC (K.take t) s.data.toList ∧ sumC (K.take t) s.data.toList ≤ 100000000000 := fun t => by
    have := sumC_abs 1000 s.data.toList 1000000 (by rw [dataL]; exact hs) (K.take t) fun p hp => hM p (hKm p (List.mem_of_mem_take hp))
    have hl : (K.take t).length ≤ 100 := by rw [List.length_take]; omega
    generalize sumC (K.take t) s.data.toList = z at *
    generalize (K.take t).length = q at *
    clear hsum hanyK
    omega
  have hN : (repA ps s.data.toList).length ≤ 1000000000 := by
    have := rep_ge ps 1000 hM (by decide) s.data.toList
    rw [dataL] at this
    have := Nat.mul_le_mul_right 1000 hs
    omega
  rcases hown.form with ⟨rfl, he⟩ | ⟨g, cap, rfl, hBg, hlc, hcm, hcells⟩
  · exfalso
    have := congrArg List.length he
    rw [List.length_map, hKl, List.length_nil] at this
    omega
  · rw [List.length_map] at hvt hlc
    have hrow : ∀ t (h : t < K.length), w.cell? ⟨g, t, none⟩ = some (.string (oneB K[t].1)) := fun t h => by
      have := hcells t (by rw [List.length_map]; exact h)
      rw [this]; simp
    have hlen : K.length ≤ 100 := by omega
    have HROW := Lib.hid hrow
    have HT := Lib.hid hT
    have HSUM := Lib.hid hsum
    have HANY := Lib.hid hanyK
    have HBD := Lib.hid hbd
    have HKD := Lib.hid hKd
    have HKM := Lib.hid hKm
    have HM := Lib.hid hM
    have HND := Lib.hid hnd
    have HKL := Lib.hid hKl
    have hK0 : 0 < K.length := by omega
    clear hcells hrow hT hsum hanyK hbd hKd hKm hM hnd hKl hown hK hBg hcm h1 hn
    have hbel0 := Below.refl w.heap.size w
    go_enter Tryz.func224, Tryz.ntmps224
    go_upto_if 26 with fail
    go_cut [5, 6] (fun nv av wc => SizeIs ps s.data.toList nv av ∧ Below w.heap.size w wc)
    case first =>
      by_cases hbig : 8 * K.length ≤ s.size
      · have qb : decide ((K.length : Int) * 8 ≤ (s.size : Int)) = true := decide_eq_true (by omega)
        rw [qb]
        go_wp2_with fail
        go_loopw [5, 6, 32] (fun nv av iv wr => ∃ (t : Nat) (z : Int) (b : Bool), nv = .int .i64 z ∧ av = .bool b ∧ iv = .int .i64 t ∧ t ≤ K.length ∧ Below w.heap.size w wr ∧ Hid (z = s.size + sumC (K.take t) s.data.toList ∧ b = anyC (K.take t) s.data.toList)) (fun _ _ iv _ => K.length - (intOf iv).toNat)
        case atStart => exact ⟨0, _, _, rfl, rfl, by first | rfl | trivial, by omega, hbel0, by simp [sumC], rfl⟩
        case round =>
          obtain ⟨t, z, b, rfl, rfl, rfl, ht, hbel, hrel⟩ := hrel
          by_cases hlt : t < K.length
          · obtain ⟨e1, e2⟩ := hrel.out
            obtain ⟨e3, e4⟩ := sum_step (l := s.data.toList) hlt
            have hB0 := HBD.out t
            have hB1 := HBD.out (t + 1)
            have hmem := HKM.out _ (List.getElem_mem hlt)
            have hsz := HM.out _ hmem
            have hlk := lookup_nodup HND.out (c := K[t].1) (s := K[t].2) hmem
            have hc0 := cell_later hbel (HROW.out t hlt)
            obtain ⟨vk, hvk, hvl⟩ := HT.out.tab K[t].1
            rw [hlk] at hvl
            obtain ⟨gk, cpk, curk, fzk, rfl, hk2, -, -⟩ := hvl
            have hvk := cell_later hbel hvk
            have hC := count_any s (oneB K[t].1) K[t].1 rfl
            have hds : K[t].2.data.toList.length = K[t].2.size := rfl
            rw [hds] at hvk hk2
            have hcl : s.data.toList.count K[t].1 ≤ s.size := List.count_le_length
            have hks0 : (oneB K[t].1).size = 1 := rfl
            have hkx : (oneB K[t].1)[0] = K[t].1 := rfl
            generalize hcn : s.data.toList.count K[t].1 = cn at *
            generalize K[t].1 = kc at *
            generalize K[t].2.size = sz at *
            obtain ⟨ks, hks0, hks, HKS⟩ : ∃ ks : ByteArray, ∃ h : 0 < ks.size, ks.size = 1 ∧ Hid (oneB kc = ks ∧ ks[0].toNat = kc.toNat) := ⟨oneB kc, show 0 < 1 by decide, rfl, rfl, rfl⟩
            rw [HKS.out.1] at hc0 hC
            rw [← HKS.out.2] at hvk
            have hkb2 : (ks[0].toNat : Int) < 256 := by have := ks[0].toNat_lt; omega
            obtain ⟨m, hm⟩ : ∃ m, (cn : Int) * ((sz : Int) - 1) = m := ⟨_, rfl⟩
            rw [hm] at e3
            have HC := Lib.hid hC
            by_cases h0 : cn = 0
            · subst h0
              have hm0 : m = 0 := by rw [← hm]; simp
              have hd : Hid (z = s.size + sumC (K.take (t + 1)) s.data.toList ∧ b = anyC (K.take (t + 1)) s.data.toList) := ⟨by rw [e3, e1, hm0]; omega, by rw [e4, e2]; simp⟩
              clear hrel e1 e2 e3 e4 hB0 hB1 hmem hsz hlk hC hds hcl hkx hcn hm hm0 hvk HKS
              go_wp2_with (go_at_call 226; refine (HC.out _).mono ?_; rintro e w' ⟨rfl, rfl⟩)
              go_roundw
              case rel => exact ⟨t + 1, z, b, rfl, rfl, by go_num, by omega, hbel, hd⟩
              case measure => simp [intOf]; omega
            · have hd : Hid (z + m = s.size + sumC (K.take (t + 1)) s.data.toList ∧ true = anyC (K.take (t + 1)) s.data.toList) := ⟨by rw [e3, e1]; omega, by rw [e4]; simp [h0]⟩
              have q0 : ((cn : Int) != 0) = true := bne_iff_ne.2 (by omega)
              have w1 : IntKind.i64.wrap ((sz : Int) - 1) = (sz : Int) - 1 := w64 rfl (by omega) (by omega)
              have w2 : IntKind.i64.wrap m = m := w64 rfl (by omega) (by omega)
              have w3 : IntKind.i64.wrap (z + m) = z + m := w64 rfl (by omega) (by omega)
              clear hrel e1 e2 e3 e4 hB0 hB1 hmem hlk hC hds hkx hcn HKS h0
              go_wp2_with (go_at_call 226; refine (HC.out _).mono ?_; rintro e w' ⟨rfl, rfl⟩)
              go_quiet (fail)
              go_wp2
              go_roundw
              case rel => exact ⟨t + 1, z + m, true, rfl, rfl, by go_num, by omega, hbel.trans ((below_drew _ _).mono hbel.size), hd⟩
              case measure => simp [intOf]; omega
          · obtain ⟨e1, e2⟩ := hrel.out
            rw [List.take_of_length_le (by omega)] at e1 e2
            have hd : Hid (SizeIs ps s.data.toList (.int .i64 z) (.bool b)) := ⟨b, by rw [e1, HSUM.out], rfl, fun h => HANY.out (by rw [← e2]; exact h)⟩
            clear e1 e2 hrel
            go_wp2
            go_meet
            exact ⟨hd.out, hbel⟩
      · have qb : decide ((K.length : Int) * 8 ≤ (s.size : Int)) = false := decide_eq_false (by omega)
        rw [qb]
        go_wp2_with fail
        go_loopw [5, 6, 10] (fun nv av iv wr => ∃ (i : Nat) (z : Int) (b : Bool), nv = .int .i64 z ∧ av = .bool b ∧ iv = .int .i64 i ∧ i ≤ s.size ∧ Below w.heap.size w wr ∧ Hid (z = ((repA ps (s.data.toList.take i)).length : Nat) + ((s.size : Int) - i) ∧ b = anyL ps (s.data.toList.take i))) (fun _ _ iv _ => s.size - (intOf iv).toNat)
        case atStart => exact ⟨0, _, _, rfl, rfl, by first | rfl | trivial, by omega, hbel0, by simp [repA], rfl⟩
        case round =>
          obtain ⟨i, z, b, rfl, rfl, rfl, hi, hbel, hrel⟩ := hrel
          by_cases hlt : i < s.size
          · obtain ⟨e1, e2⟩ := hrel.out
            obtain ⟨e3, e4⟩ := rep_take (ps := ps) hlt
            have hmo := repA_mono ps s.data.toList i
            obtain ⟨vk, hvk, hvl⟩ := HT.out.tab s[i]
            have hvk := cell_later hbel hvk
            have hnn := fun (w : World) a n c => run_neq_slice_nil_any (P := Tryz.prog) w 68 5 a n c 0 0 Tryz.underlying68
            have hc256 : (s[i].toNat : Int) < 256 := by have := s[i].toNat_lt; omega
            cases hlk : ps.lookup s[i] with
            | none =>
              rw [hlk] at hvl e4
              obtain rfl : vk = .slice none 0 0 := hvl
              have hp : repP ps s[i] = [s[i]] := by unfold repP; rw [hlk]
              rw [hp] at e3
              have hd : Hid (z = ((repA ps (s.data.toList.take (i + 1))).length : Nat) + ((s.size : Int) - (i + 1 : Nat)) ∧ b = anyL ps (s.data.toList.take (i + 1))) := ⟨by rw [e3, e1, List.length_append, List.length_singleton]; omega, by rw [e4, e2]; simp⟩
              clear hrel e1 e2 e3 e4 hp hlk
              go_wp2
              go_roundw
              case rel => exact ⟨i + 1, z, b, rfl, rfl, by go_num, by omega, hbel, hd⟩
              case measure => simp [intOf]; omega
            | some r =>
              rw [hlk] at hvl e4
              obtain ⟨gk, cpk, curk, fzk, rfl, hk2, -, -⟩ := hvl
              have hp : repP ps s[i] = r.data.toList := by unfold repP; rw [hlk]
              have hsz := HM.out _ (lookup_mem hlk)
              have hds : r.data.toList.length = r.size := rfl
              rw [hp] at e3
              rw [hds] at hvk hk2
              have hsz : r.size ≤ 1000 := hsz
              have hz0 : 0 ≤ z ∧ z ≤ 2000000000 := by omega
              have hd : Hid (z + ((r.size : Int) - 1) = ((repA ps (s.data.toList.take (i + 1))).length : Nat) + ((s.size : Int) - (i + 1 : Nat)) ∧ true = anyL ps (s.data.toList.take (i + 1))) := ⟨by rw [e3, e1, List.length_append, hds]; omega, by rw [e4]; simp⟩
              obtain ⟨z1, z2⟩ := hz0
              clear hrel e1 e2 e3 e4 hp hlk hds
              go_wp2
              go_roundw
              case rel => exact ⟨i + 1, _, true, rfl, rfl, by go_num, by omega, hbel, hd⟩
              case measure => simp [intOf]; omega
          · obtain ⟨e1, e2⟩ := hrel.out
            rw [List.take_of_length_le (by rw [dataL]; omega)] at e1 e2
            have hd : Hid (SizeIs ps s.data.toList (.int .i64 z) (.bool b)) := ⟨b, by rw [show z = ((repA ps s.data.toList).length : Nat) by omega], rfl, fun h => by rw [← e2]; exact h⟩
            clear e1 e2 hrel
            go_wp2
            go_meet
            exact ⟨hd.out, hbel⟩
    case rest =>
      obtain ⟨⟨b, rfl, rfl, hb⟩, hbc⟩ := hcut
      have hzc := hbc.size
      have hTc := HT.out.below hbc
      cases b with
      | false =>
        have hd : Hid (Ending.returned (.string s) = .returned (.string ⟨(repA ps s.data.toList).toArray⟩)) := by
          show _ = _
          rw [any_same ps _ (hb rfl)]
        clear hb hTc
        go_wp2
        go_ret
        exact ⟨hd.out, hbc⟩
      | true =>
        have HTc := Lib.hid hTc
        obtain ⟨N, hNN⟩ : ∃ N, N = (repA ps s.data.toList).length := ⟨_, rfl⟩
        rw [← hNN] at hN ⊢
        have HNN := Lib.hid hNN
        clear hb hTc hNN hvt
        go_wp2_with (at_make; refine make_bytes _ rfl (.tmp 84) (.tmp 84) bslR rfl wc.heap.size .i64 .i64 _ _ N rfl rfl rfl rfl (by omega) (Nat.le_refl _) ?_; intro w6 hown6 hg6)
        have hb6 : Below wc.heap.size wc w6 := Below.grown (Below.refl _ wc) hg6 (Nat.le_refl _) (fun k hk => by cases hk)
        have hr6 := rowZ_owns hown6
        have hz6 := rowZ_lt hr6
        clear hown6 hg6
        go_loopw [13, 14] (fun jv iv wr => ∃ (i j : Nat), jv = .int .i64 j ∧ iv = .int .i64 i ∧ i ≤ s.size ∧ j ≤ N ∧ rowZ wr wc.heap.size 5 (repA ps (s.data.toList.take i) ++ List.replicate (N - j) 0) ∧ Below wc.heap.size wc wr ∧ Hid ((repA ps (s.data.toList.take i)).length = j)) (fun _ iv _ => s.size - (intOf iv).toNat)
        case atStart => exact ⟨0, 0, by first | rfl | trivial, by first | rfl | trivial, by omega, by omega, hr6, hb6, rfl⟩
        case round =>
          clear hr6 hb6
          obtain ⟨i, j, rfl, rfl, hi, hj, hrow, hbel, hrel⟩ := hrel
          by_cases hlt : i < s.size
          · obtain ⟨e3, -⟩ := rep_take (ps := ps) hlt
            have hmo := repA_mono ps s.data.toList (i + 1)
            rw [← HNN.out, e3, List.length_append, hrel.out] at hmo
            obtain ⟨vk, hvk, hvl⟩ := HTc.out.tab s[i]
            have hvk0 := hvk
            have hvk := cell_later hbel hvk
            have hnn := fun (w : World) a n c => run_neq_slice_nil_any (P := Tryz.prog) w 68 5 a n c 0 0 Tryz.underlying68
            have hc256 : (s[i].toNat : Int) < 256 := by have := s[i].toNat_lt; omega
            cases hlk : ps.lookup s[i] with
            | none =>
              rw [hlk] at hvl
              obtain rfl : vk = .slice none 0 0 := hvl
              have hp : repP ps s[i] = [s[i]] := by unfold repP; rw [hlk]
              rw [hp] at e3 hmo
              have hjl : j < (repA ps (s.data.toList.take i) ++ List.replicate (N - j) 0).length := by rw [List.length_append, List.length_replicate, hrel.out]; simp at hmo; omega
              have hcj := rowZ_cell hrow j hjl
              have hfj := rowZ_frozen (j := j) hrow
              have hst := rowZ_stored hrow j s[i].toNat (by omega) hc256
              rw [set_pad _ j N hrel.out (by simp at hmo; omega), b8_of, ← e3] at hst
              have hjN : j < N := by simp at hmo; omega
              have hd : Hid ((repA ps (s.data.toList.take (i + 1))).length = j + 1) := by
                show _ = _
                rw [e3, List.length_append, hrel.out]; rfl
              clear hrel e3 hp hlk hmo hrow
              go_wp2
              go_roundw
              case rel => exact ⟨i + 1, j + 1, by go_num, by go_num, by omega, by omega, hst, hbel.setCell (p := ⟨wc.heap.size, j, none⟩) (Nat.le_refl _) _, hd⟩
              case measure => simp [intOf]; omega
            | some r =>
              rw [hlk] at hvl
              obtain ⟨gk, cpk, curk, fzk, rfl, hk2, hk3, hk4⟩ := hvl
              have hp : repP ps s[i] = r.data.toList := by unfold repP; rw [hlk]
              have hds : r.data.toList.length = r.size := rfl
              rw [hp] at e3 hmo
              rw [hds] at hvk hk2 hmo hk4
              have hgk := lt_of_block hk3
              have hcb : ∀ q v, (Lib.byteCells r.data.toList)[q]? = some v → wr.cell? ((⟨gk, 0, none⟩ : Addr).add q) = some v := fun q v hq => by
                have hq1 := (List.getElem?_eq_some_iff.1 hq).1
                rw [Lib.byteCells_length, hds] at hq1
                have e5 : (Lib.byteCells r.data.toList) = r.data.toList.map u8V := rfl
                rw [e5, ← hk4, List.getElem?_take, if_pos hq1] at hq
                rw [Addr.add_lit, Nat.zero_add]
                unfold World.cell?
                rw [hbel.block gk hgk, hk3]
                simpa using hq
              obtain ⟨cur, hg1, hg2, hg3⟩ := hrow
              have hLl : (repA ps (s.data.toList.take i) ++ List.replicate (N - j) 0).length = N := by rw [List.length_append, List.length_replicate, hrel.out]; omega
              rw [hLl] at hg2
              have hspl := fun (w' : World) h => rowZ_splice (w := w') (g := wc.heap.size) (j := j) (e := 5) (l := repA ps (s.data.toList.take i) ++ List.replicate (N - j) 0) (r := r.data.toList) (by rw [hLl]; exact hg2) hg3 (by rw [hLl, hds]; omega) h
              have hnew : (repA ps (s.data.toList.take i) ++ List.replicate (N - j) 0).take j ++ (r.data.toList ++ (repA ps (s.data.toList.take i) ++ List.replicate (N - j) 0).drop (j + r.data.toList.length)) = repA ps (s.data.toList.take (i + 1)) ++ List.replicate (N - (j + r.size)) 0 := by
                rw [List.take_append_of_le_length (by rw [hrel.out]; omega), List.take_of_length_le (by rw [hrel.out]; omega), List.drop_append, List.drop_eq_nil_of_le (by rw [hrel.out]; omega), hrel.out, e3, List.nil_append, List.drop_replicate, hds, List.append_assoc, show N - j - (j + r.size - j) = N - (j + r.size) by omega]
              rw [hnew] at hspl
              have hd : Hid ((repA ps (s.data.toList.take (i + 1))).length = j + r.size) := by
                show _ = _
                rw [e3, List.length_append, hrel.out]; rfl
              have HS := Lib.hid hspl
              have HCB := Lib.hid hcb
              have z0 : (0 : Int) ≤ (j : Int) := by omega
              have z1 : (j : Int) ≤ (N : Int) := by omega
              have z2 : IntKind.i64.wrap ((j : Int) + (r.size : Int)) = (j : Int) + (r.size : Int) := w64 rfl (by omega) (by omega)
              have hlb : (Lib.byteCells r.data.toList).length = r.size := by rw [Lib.byteCells_length, hds]
              have HLB := Lib.hid hlb
              clear hrel e3 hp hlk hcb hspl hnew hLl hg3 hk3 hk4 hlb hds hk2
              by_cases hjN : j = N
              · have hr0 : r.size = 0 := by omega
                have hlb0 : (Lib.byteCells r.data.toList).length = 0 := by rw [HLB.out]; exact hr0
                have HR0 := Lib.hid hr0
                have HLB0 := Lib.hid hlb0
                clear hr0 hlb0
                subst hjN
                go_wp2
                go_region_law ((refine step_copy_splice rfl (.tmp 105) (.tmp 111) 68 68 rfl 5 Tryz.underlying68 (by kernel_rfl) _ _ _ _ _ _ rfl rfl wc.heap.size j cur _ hg1 (Lib.byteCells r.data.toList) (by rw [HLB.out, HR0.out]; exact (Nat.min_eq_left (by omega)).symm) (fun h => absurd h (by rw [HLB0.out]; decide)) (by rw [HLB.out]; omega) (oneCell_bytes _) wc.heap.size wc hbel.drew (Nat.le_refl _) ?_; intro w4 hg4 hb4))
                have hr4 := HS.out w4 hg4.out
                have hlb := HLB.out
                rw [hlb]
                clear hg4 hg1
                go_wp2
                go_roundw
                case rel => exact ⟨i + 1, j + r.size, by go_num, by go_num, by omega, by omega, hr4, hb4, hd⟩
                case measure => simp [intOf]; omega
              · have z3 : ¬ N = j := fun e => hjN e.symm
                go_wp2
                go_region_law ((refine step_copy_splice rfl (.tmp 105) (.tmp 111) 68 68 rfl 5 Tryz.underlying68 (by kernel_rfl) _ _ _ _ _ _ rfl rfl wc.heap.size j cur _ hg1 (Lib.byteCells r.data.toList) (by rw [HLB.out]; exact (Nat.min_eq_left (by omega)).symm) (fun _ => ⟨rfl, _, rfl, HCB.out⟩) (by rw [HLB.out]; omega) (oneCell_bytes _) wc.heap.size wc hbel.drew (Nat.le_refl _) ?_; intro w4 hg4 hb4))
                have hr4 := HS.out w4 hg4.out
                have hlb := HLB.out
                rw [hlb]
                clear hg4 hg1
                go_wp2
                go_roundw
                case rel => exact ⟨i + 1, j + r.size, by go_num, by go_num, by omega, by omega, hr4, hb4, hd⟩
                case measure => simp [intOf]; omega
          · have hX : repA ps (s.data.toList.take i) = repA ps s.data.toList := by rw [List.take_of_length_le (by rw [dataL]; omega)]
            have hjN : j = N := by have := hrel.out; rw [hX, ← HNN.out] at this; exact this.symm
            rw [hX, hjN, Nat.sub_self, List.replicate_zero, List.append_nil] at hrow
            have hcv := run_string_rowZ (ts := 9) (cap := N) bslR Tryz.underlying9 hrow HNN.out.symm
            have hfin := hbc.trans (hbel.mono hzc)
            clear hrel hrow hX hjN
            go_wp2
            go_ret
            exact ⟨rfl, hfin⟩
end Go.Proofs.YtgimgkjggaijoaaGreatDoor
