/- Walks: header: field, Join. -/
import Derived.Test.YthchklbnkojkgaaGreatDoorHd1
import Derived.Test.YthchklbnkojkgaaGreatDoorBld
import Derived.WalkSmall
namespace Go.Proofs.YthchklbnkojkgaaGreatDoor
open Go.RowKit Pk Hd

theorem cut_colon : ∀ l : List UInt8, Lib.cut l [58] = (l.takeWhile (fun c => !(c == 58)), (l.dropWhile (fun c => !(c == 58))).drop 1, l.contains 58)
  | [] => rfl
  | c :: r => by
    by_cases hc : c = 58
    · subst hc
      rw [cutG_hit (by simp [List.isPrefixOf])]
      simp
    · have t1 : (c :: r).takeWhile (fun c => !(c == 58)) = c :: r.takeWhile (fun c => !(c == 58)) := by rw [List.takeWhile_cons, if_pos (by simp [hc])]
      have t2 : (c :: r).dropWhile (fun c => !(c == 58)) = r.dropWhile (fun c => !(c == 58)) := by rw [List.dropWhile_cons, if_pos (by simp [hc])]
      have t3 : (c :: r).contains 58 = r.contains 58 := by
        rw [List.contains_cons, beq_eq_false_iff_ne.2 (fun e : (58 : UInt8) = c => hc e.symm), Bool.false_or]
      rw [t1, t2, t3, cutG_cons (by simp [List.isPrefixOf]; exact fun e => hc e.symm), cut_colon r]
      cases h : r.contains 58 with
      | true => rw [if_pos rfl]
      | false =>
        rw [if_neg (by simp)]
        have hn : ∀ d ∈ r, (!(d == 58)) = true := fun d hd => by
          cases hq : (d == 58) with
          | false => rfl
          | true =>
            have : r.contains 58 = true := by rw [List.contains_iff_mem]; rw [← beq_iff_eq.1 hq]; exact hd
            rw [this] at h; cases h
        have t5 : r.dropWhile (fun c => !(c == 58)) = [] := by
          have := dw_all (fun c : UInt8 => !(c == 58)) r [] hn
          rw [List.append_nil] at this; rw [this]; rfl
        have t4 : r.takeWhile (fun c => !(c == 58)) = r := by
          have := List.takeWhile_append_dropWhile (p := fun c : UInt8 => !(c == 58)) (l := r)
          rw [t5, List.append_nil] at this; exact this
        rw [t4, t5]; rfl
theorem drewN_below (w : World) (n : Nat) : Below w.heap.size w (w.drewN n) := ⟨rfl, rfl, rfl, Nat.le_refl _, fun _ _ => rfl⟩
theorem cut58 (s : ByteArray) (w : World) (m : Int) (hm : w.cell? ⟨2, 0, none⟩ = some (.int .i64 m)) (hs : s.size ≤ 100000000) : Calls Tryz.prog 58 #[.string s, .string ⟨#[58]⟩] w fun e w' => e = .returned (.tuple #[.string (toB (s.data.toList.takeWhile fun c => !(c == 58))), .string (toB ((s.data.toList.dropWhile fun c => !(c == 58)).drop 1)), .bool (s.data.toList.contains 58)]) ∧ Below w.heap.size w w' := by
  have h := Tryz.strings_Cut s ⟨#[58]⟩ m w (by omega) hm
  have e : Lib.cut s.data.toList (⟨#[58]⟩ : ByteArray).data.toList = _ := cut_colon s.data.toList
  rw [e] at h
  refine h.mono ?_
  rintro e' w' ⟨rfl, n, rfl⟩
  exact ⟨rfl, drewN_below w n⟩
theorem trimR_any (x : ByteArray) (w : World) (h : x.size ≤ 100000000) :
    Calls Tryz.prog 59 #[.string x, .string ⟨#[32, 9]⟩] w fun e w' => e = .returned (.string (toB (trimR x.data.toList))) ∧ Below w.heap.size w w' :=
  Any.strings_TrimRight_laid Tryz.lays162 (by kernel_rfl) x ⟨#[32, 9]⟩ w (by omega) (by decide) (by
    intro j b h
    rcases j with _ | _ | j <;> simp at h <;> subst h <;> decide)
theorem trimB_any (x : ByteArray) (w : World) (h : x.size ≤ 100000000) :
    Calls Tryz.prog 35 #[.string x, .string ⟨#[32, 9]⟩] w fun e w' => e = .returned (.string (toB (Hd.trimB x.data.toList))) ∧ Below w.heap.size w w' :=
  Any.strings_Trim_laid Tryz.lays160 (by kernel_rfl) x ⟨#[32, 9]⟩ w (by omega) (by decide) (by
    intro j b h
    rcases j with _ | _ | j <;> simp at h <;> subst h <;> decide)
theorem trimR_le (l : List UInt8) : (trimR l).length ≤ l.length := by
  unfold trimR Lib.trimRightS
  rw [List.length_reverse]
  exact Nat.le_trans (List.dropWhile_sublist _).length_le (by simp)
theorem trimB_le (l : List UInt8) : (Hd.trimB l).length ≤ l.length := by
  rw [trim_eq]
  have h1 := (List.dropWhile_sublist blk (l := (l.reverse.dropWhile blk).reverse)).length_le
  have h2 := (List.dropWhile_sublist blk (l := l.reverse)).length_le
  rw [List.length_reverse] at h1 h2
  omega
def FldIs (x : Fld) (w : World) (e : Ending) (w' : World) : Prop := e = .returned (.agg #[.string x.name, .string x.value, .string x.raw, .bool x.bad]) ∧ Below w.heap.size w w'
theorem fld_at {w1 : World} {b : Nat} {x0 x1 x2 x3 : Value} {t : TypeId} (h : w1.heap[b]? = some (.cells #[x0, x1, x2, x3] t (0, 0))) :
    (w1.cell? ⟨b, 0, none⟩ = some x0 ∧ w1.cell? ⟨b, 1, none⟩ = some x1 ∧ w1.cell? ⟨b, 2, none⟩ = some x2 ∧ w1.cell? ⟨b, 3, none⟩ = some x3) ∧ (w1.frozen? ⟨b, 0, none⟩ = false ∧ w1.frozen? ⟨b, 1, none⟩ = false ∧ w1.frozen? ⟨b, 2, none⟩ = false ∧ w1.frozen? ⟨b, 3, none⟩ = false) :=
  ⟨⟨(Lib.cell_of_heap h 0).trans rfl, (Lib.cell_of_heap h 1).trans rfl, (Lib.cell_of_heap h 2).trans rfl, (Lib.cell_of_heap h 3).trans rfl⟩, by simp [World.frozen?, h], by simp [World.frozen?, h], by simp [World.frozen?, h], by simp [World.frozen?, h]⟩
theorem set4 {w w1 : World} (h : Below w.heap.size w w1) (x0 x1 x2 x3 : Value) : Below w.heap.size w ((((w1.setCell ⟨w.heap.size, 0, none⟩ x0).setCell ⟨w.heap.size, 1, none⟩ x1).setCell ⟨w.heap.size, 2, none⟩ x2).setCell ⟨w.heap.size, 3, none⟩ x3) :=
  (((h.setCell (p := ⟨w.heap.size, 0, none⟩) (Nat.le_refl _) _).setCell (p := ⟨w.heap.size, 1, none⟩) (Nat.le_refl _) _).setCell (p := ⟨w.heap.size, 2, none⟩) (Nat.le_refl _) _).setCell (p := ⟨w.heap.size, 3, none⟩) (Nat.le_refl _) _
def zF : Obj := .cells #[.string ⟨#[]⟩, .string ⟨#[]⟩, .string ⟨#[]⟩, .bool false] 29
theorem zF_at {w w1 : World} (hb : Below (w.alloc zF).heap.size (w.alloc zF) w1) : w1.heap[w.heap.size]? = some (.cells #[.string ⟨#[]⟩, .string ⟨#[]⟩, .string ⟨#[]⟩, .bool false] 29 (0, 0)) ∧ Below w.heap.size w w1 ∧ w.heap.size < w1.heap.size := by
  have h1 : w.heap.size < (w.alloc zF).heap.size := by simp
  have h2 := (hb.block w.heap.size h1).trans (heap_alloc_new w _)
  exact ⟨h2, ((Below.refl _ w).alloc (Nat.le_refl _) _).trans (hb.mono (Nat.le_of_lt h1)), lt_of_block h2⟩
set_option maxHeartbeats 4000000 in
set_option maxRecDepth 100000 in
theorem field_any (s : ByteArray) (w : World) (m : Int) (hm : w.cell? ⟨2, 0, none⟩ = some (.int .i64 m)) (hs : s.size ≤ 10000000) : Calls Tryz.prog 41 #[.string s] w (FldIs (fieldL s.data.toList) w) := by
  have hE := fun w => end_any s w (by omega)
  have hle := lineN_le s.data.toList
  rw [dataL] at hle
  have hnm : nameL s.data.toList = (bareL (s.data.toList.take (lineN s.data.toList))).takeWhile fun c => !(c == 58) := rfl
  have hcb : colonB s.data.toList = (bareL (s.data.toList.take (lineN s.data.toList))).contains 58 := rfl
  have hfl : fieldL s.data.toList = if (colonB s.data.toList && rightB (trimR (nameL s.data.toList))) = true then ⟨toB (trimR (nameL s.data.toList)), toB (bareL (s.data.toList.drop ((nameL s.data.toList).length + 1))), toB s.data.toList, false⟩ else ⟨toB [], toB [], toB s.data.toList, true⟩ := rfl
  rw [hfl, toB_back]
  generalize lineN s.data.toList = n at hE hle hnm hcb
  have hFd : (s.extract 0 n).data.toList = s.data.toList.take n := by rw [Lib.extract_data, List.drop_zero, Nat.sub_zero]
  have hFs := ext_size s 0 n
  generalize hF : s.extract 0 n = F at hFd hFs
  have hB := fun w => bare_any F w (by omega)
  rw [hFd] at hB
  have hBl := bare_le (s.data.toList.take n)
  rw [List.length_take, dataL] at hBl
  obtain ⟨B, hBe, hBd, hBs⟩ := arrE (bareL (s.data.toList.take n))
  have hB : ∀ w, Calls Tryz.prog 40 #[.string F] w fun e w' => e = .returned (.string B) ∧ w = w' := by rw [hBe]; exact hB
  have hC := fun w1 (hb : Below w.heap.size w w1) => cut58 B w1 m (cell_later hb hm) (by omega)
  rw [hBd, ← hnm, ← hcb] at hC
  have hNl : (nameL s.data.toList).length ≤ B.size := by
    rw [hnm, hBs]; exact (List.takeWhile_sublist _).length_le
  have hNc : colonB s.data.toList = true → (nameL s.data.toList).length < B.size := fun h => by
    rw [hcb, List.contains_iff_mem] at h
    rw [hnm, hBs]
    have h1 := (List.takeWhile_sublist (fun c : UInt8 => !(c == 58)) (l := bareL (s.data.toList.take n))).length_le
    by_cases he : ((bareL (s.data.toList.take n)).takeWhile fun c => !(c == 58)).length = (bareL (s.data.toList.take n)).length
    · exfalso
      have h2 : (bareL (s.data.toList.take n)).takeWhile (fun c => !(c == 58)) = bareL (s.data.toList.take n) := (List.takeWhile_sublist _).eq_of_length he
      have := tw_all (fun c : UInt8 => !(c == 58)) (bareL (s.data.toList.take n)) 58 (by rw [h2]; exact h)
      simp at this
    · omega
  generalize toB ((bareL (s.data.toList.take n)).dropWhile (fun c => !(c == 58)) |>.drop 1) = R at hC
  obtain ⟨N, hNe, hNd, hNs⟩ := arrE (nameL s.data.toList)
  have hN2 : toB (nameL s.data.toList) = N := hNe.symm
  rw [hN2] at hC
  have hT := fun w => trimR_any N w (by omega)
  rw [hNd] at hT
  have hTl := trimR_le (nameL s.data.toList)
  obtain ⟨T, hTe, hTd, hTs⟩ := arrE (trimR (nameL s.data.toList))
  have hT2 : toB (trimR (nameL s.data.toList)) = T := hTe.symm
  rw [hT2] at hT ⊢
  have hR := fun w => right_any T w (by omega)
  rw [hTd] at hR
  have hZ : toB [] = ⟨#[]⟩ := rfl
  rw [hZ]
  rw [← hNs] at hNl hNc ⊢
  have HE := Lib.hid hE
  have HB := Lib.hid hB
  have HC := Lib.hid hC
  have HT := Lib.hid hT
  have z1 : (n : Int) ≤ (s.size : Int) := by omega
  have z0 : (0 : Int) ≤ (n : Int) := by omega
  cases hok : colonB s.data.toList with
  | false =>
    rw [hok] at HC
    rw [Bool.false_and, if_neg (by decide)]
    clear hE hB hC hT hR hFd hFs hBl hBe hBd hBs hNc hNe hNd hN2 hNs hTl hTe hTd hT2 hTs hcb hnm hfl hm hok hZ hNl
    go_enter Tryz.func41, Tryz.ntmps41
    go_wp2_with (first
      | (go_at_call 39; refine (HE.out _).mono ?_; rintro e w' ⟨rfl, rfl⟩)
      | (go_at_call 40; (with_reducible refine (HB.out _).mono ?_); rintro e w1 ⟨rfl, rfl⟩)
      | (go_at_call 58; go_loud ((with_reducible refine (HC.out _ ((Below.refl _ w).alloc (Nat.le_refl _) _)).mono ?_); rintro e w1 ⟨rfl, hb1⟩; obtain ⟨hk1, hbA, hzA⟩ := zF_at hb1))
      | (go_at_call 59; go_loud ((with_reducible refine (HT.out _).mono ?_); rintro e w2 ⟨rfl, hb2⟩; have hk2 := (hb2.block _ hzA).trans hk1; obtain ⟨⟨c0, c1, c2, c3⟩, f0, f1, f2, f3⟩ := fld_at hk2; have hbB := hbA.trans (hb2.mono (Nat.le_of_lt hzA)))))
    exact bodyPost_ret (v := .agg #[.string ⟨#[]⟩, .string ⟨#[]⟩, .string s, .bool true]) (by simp [results, Tryz.results41, go_sem, c0, c1, c2, c3]) rfl ⟨rfl, set4 hbB _ _ _ _⟩
  | true =>
    rw [hok] at HC
    rw [Bool.true_and]
    have hNc := hNc hok
    cases hr : rightB (trimR (nameL s.data.toList)) with
    | false =>
      rw [hr] at hR
      have HR := Lib.hid hR
      rw [if_neg (by decide)]
      clear hE hB hC hT hR hFd hFs hBl hBe hBd hBs hNc hNe hNd hN2 hNs hTl hTe hTd hT2 hTs hcb hnm hfl hm hok hZ hNl hr
      go_enter Tryz.func41, Tryz.ntmps41
      go_wp2_with (first
        | (go_at_call 39; refine (HE.out _).mono ?_; rintro e w' ⟨rfl, rfl⟩)
        | (go_at_call 40; (with_reducible refine (HB.out _).mono ?_); rintro e w1 ⟨rfl, rfl⟩)
        | (go_at_call 58; go_loud ((with_reducible refine (HC.out _ ((Below.refl _ w).alloc (Nat.le_refl _) _)).mono ?_); rintro e w1 ⟨rfl, hb1⟩; obtain ⟨hk1, hbA, hzA⟩ := zF_at hb1))
        | (go_at_call 59; go_loud ((with_reducible refine (HT.out _).mono ?_); rintro e w2 ⟨rfl, hb2⟩; have hk2 := (hb2.block _ hzA).trans hk1; obtain ⟨⟨c0, c1, c2, c3⟩, f0, f1, f2, f3⟩ := fld_at hk2; have hbB := hbA.trans (hb2.mono (Nat.le_of_lt hzA))))
        | (go_at_call 10; refine (HR.out _).mono ?_; rintro e w' ⟨rfl, rfl⟩))
      exact bodyPost_ret (v := .agg #[.string ⟨#[]⟩, .string ⟨#[]⟩, .string s, .bool true]) (by simp [results, Tryz.results41, go_sem, c0, c1, c2, c3]) rfl ⟨rfl, set4 hbB _ _ _ _⟩
    | true =>
      rw [hr] at hR
      have HR := Lib.hid hR
      rw [if_pos rfl]
      have z2 : (N.size : Int) + 1 ≤ (s.size : Int) := by omega
      have z3 : (0 : Int) ≤ (N.size : Int) + 1 := by omega
      have hVd := ext_from s (N.size + 1)
      have hVs := ext_size s (N.size + 1) s.size
      generalize hV : s.extract (N.size + 1) s.size = V at hVd hVs
      have hv := fun w => bare_any V w (by omega)
      rw [hVd] at hv
      have HV := Lib.hid hv
      generalize toB (bareL (s.data.toList.drop (N.size + 1))) = U at HV ⊢
      have zt : ((N.size : Int) + 1).toNat = N.size + 1 := by omega
      clear hE hB hC hT hR hFd hFs hBl hBe hBd hBs hNc hNe hNd hN2 hNs hTl hTe hTd hT2 hTs hcb hnm hfl hm hok hZ hNl hr hv hVd hVs
      go_enter Tryz.func41, Tryz.ntmps41
      go_wp2_with (first
        | (go_at_call 39; refine (HE.out _).mono ?_; rintro e w' ⟨rfl, rfl⟩)
        | (go_at_call 40; (with_reducible refine (HB.out _).mono ?_); rintro e w1 ⟨rfl, rfl⟩)
        | (go_at_call 58; go_loud ((with_reducible refine (HC.out _ ((Below.refl _ w).alloc (Nat.le_refl _) _)).mono ?_); rintro e w1 ⟨rfl, hb1⟩; obtain ⟨hk1, hbA, hzA⟩ := zF_at hb1))
        | (go_at_call 59; go_loud ((with_reducible refine (HT.out _).mono ?_); rintro e w2 ⟨rfl, hb2⟩; have hk2 := (hb2.block _ hzA).trans hk1; obtain ⟨⟨c0, c1, c2, c3⟩, f0, f1, f2, f3⟩ := fld_at hk2; have hbB := hbA.trans (hb2.mono (Nat.le_of_lt hzA))))
        | (go_at_call 10; refine (HR.out _).mono ?_; rintro e w' ⟨rfl, rfl⟩)
        | (go_at_call 40; (with_reducible refine (HV.out _).mono ?_); rintro e w1 ⟨rfl, rfl⟩))
      exact bodyPost_ret (v := .agg #[.string T, .string U, .string s, .bool false]) (by simp [results, Tryz.results41, go_sem, c0, c1, c2, c3]) rfl ⟨rfl, set4 hbB _ _ _ _⟩
end Go.Proofs.YthchklbnkojkgaaGreatDoor
