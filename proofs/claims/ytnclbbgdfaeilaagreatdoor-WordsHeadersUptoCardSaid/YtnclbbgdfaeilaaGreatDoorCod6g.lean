/- Walks: the program's codec: UnB64. -/
import Derived.Test.YtnclbbgdfaeilaaGreatDoorCod6f
import Derived.Test.YtnclbbgdfaeilaaGreatDoorCod6b
import Derived.Test.YtnclbbgdfaeilaaGreatDoorBldW
namespace Go.Proofs.YtnclbbgdfaeilaaGreatDoor
open Go.RowKit Pk C6 Hx

/-- the values of all characters -/
def fR : List UInt8 → List Int
  | [] => []
  | c :: r => if 0 ≤ valR c then valR c :: fR r else fR r
theorem dR_cut : ∀ l : List UInt8, dR l = fR (Lib.cut l [61]).1
  | [] => by rw [cut_nil (by decide)]; rfl
  | c :: r => by
    by_cases hc : c = 61
    · subst hc
      rw [cut_hit (by simp [List.isPrefixOf])]
      simp [dR, fR]
    · rw [cut_cons (by simp [List.isPrefixOf]; exact fun e => hc e.symm)]
      rw [dR, if_neg hc, fR, dR_cut r]
theorem tabV_no {c : UInt8} (h : ¬ 0 ≤ valR c) : ((tabV c).toNat : Int) = 0 := by unfold tabV; rw [if_neg h]; rfl
theorem tabV_yes {c : UInt8} (h : 0 ≤ valR c) : ((tabV c).toNat : Int) = valR c + 1 := by
  unfold tabV; rw [if_pos h]
  have := valR_hi c
  have : (valR c + 1).toNat < 256 := by omega
  simp; omega
def UnIs (s A : ByteArray) (i : Nat) (acc : List UInt8) (p : List Int) : Prop := acc ++ duR (p ++ fR (tl A i)) = unB64R s.data.toList
theorem un_no {s A : ByteArray} {i : Nat} {acc : List UInt8} {p : List Int} (h : UnIs s A i acc p) (hi : i < A.size) (hv : ¬ 0 ≤ valR A[i]) : UnIs s A (i + 1) acc p := by
  unfold UnIs at *
  rw [tl_cons A i hi, fR, if_neg hv] at h
  exact h
theorem un_yes {s A : ByteArray} {i : Nat} {acc : List UInt8} {p : List Int} (h : UnIs s A i acc p) (hi : i < A.size) (hv : 0 ≤ valR A[i]) : UnIs s A (i + 1) acc (p ++ [valR A[i]]) := by
  unfold UnIs at *
  rw [tl_cons A i hi, fR, if_pos hv] at h
  rw [← h]; simp
theorem un_four {s A : ByteArray} {i : Nat} {acc : List UInt8} {a b c d : Int} (h : UnIs s A i acc [a, b, c, d]) : UnIs s A i (acc ++ [b8 (a * 4 + b / 16), b8 (b % 16 * 16 + c / 4), b8 (c % 4 * 64 + d)]) [] := by
  unfold UnIs at *
  rw [← h]
  simp [duR]
theorem un_end {s A : ByteArray} {i : Nat} {acc : List UInt8} {p : List Int} (h : UnIs s A i acc p) (hi : ¬ i < A.size) : acc ++ duR p = unB64R s.data.toList := by
  unfold UnIs at h
  rw [tl_end A i (by omega)] at h
  simpa [fR] using h

def pv (p : List Int) : Int := p.foldl (fun v x => v * 64 + x) 0
set_option maxHeartbeats 4000000 in
theorem unB64P_any (s : ByteArray) (w : World) (m : Int) (hs : s.size ≤ 4000000) (hm : w.cell? ⟨1, 0, none⟩ = some (.int .i64 m)) :
    Calls Tryz.prog 69 #[.string s] w fun e w' => e = .returned (.string ⟨(unB64R s.data.toList).toArray⟩) ∧ Below w.heap.size w w' := by
  obtain ⟨A, hA, hAl, hAs⟩ := arr_ex (Lib.cut s.data.toList [61]).1
  obtain ⟨R, hR, hRl, hRs⟩ := arr_ex (Lib.cut s.data.toList [61]).2.1
  obtain ⟨more, hmore⟩ : ∃ b, b = (Lib.cut s.data.toList [61]).2.2 := ⟨_, rfl⟩
  have hcut : ∀ wr : World, wr.cell? ⟨1, 0, none⟩ = some (.int .i64 m) → Calls Tryz.prog 51 #[.string s, .string ⟨#[61]⟩] wr fun e w' => e = .returned (.tuple #[.string A, .string R, .bool more]) ∧ ∃ n, w' = wr.drewN n := by
    intro wr hmr
    rw [hA, hR, hmore]
    exact Tryz.strings_Cut s ⟨#[61]⟩ m wr (by omega) hmr
  have HC := Lib.hid hcut
  have hlen := cut_length [61] (by decide) s.data.toList
  have hSs : s.data.toList.length = s.size := rfl
  have hAle : A.size ≤ s.size := by omega
  have h0 : UnIs s A 0 [] [] := by
    unfold UnIs unB64R
    rw [dR_cut, tl_zero, hAl]; rfl
  clear hcut hA hAl hAs hR hRl hRs hmore hlen hSs
  go_enter Tryz.func69, Tryz.ntmps69
  go_wp2_with (first
    | (go_at_call 98; refine (values_any _).mono ?_; rintro e w1 ⟨rfl, hb1⟩; have hz1 := hb1.size)
    | (refine wpList_store_row rfl 115 (.tmp 4) (.tmp 9) rfl _ tabA rfl rfl 115 Tryz.zeroCells115 (heap_alloc_new _ _) (by rw [tabA_size]; kernel_rfl) (by rw [tabA_size]; kernel_rfl) tabA_one ?_; rw [World.setRow_alloc_new]; have hB0 := ((Bld.new w).below hb1 (Nat.le_refl _)).alloc (.cells tabA 115); have hz1' : w.heap.size + 1 ≤ w1.heap.size := (by simpa using hz1); have hbel0 := (((Below.refl _ _).alloc (Nat.le_refl w.heap.size) _).trans (hb1.mono (by simp))).alloc (by omega) (.cells tabA 115); have ht0 := heap_alloc_new w1 (.cells tabA 115 (0, 0)); have hm1 := cell_below hm hbel0 rfl)
    | (go_at_call 51; refine (HC.out _ hm1).mono ?_; rintro e w' ⟨rfl, dn, rfl⟩; have hbd := below_draws' (w1.alloc (.cells tabA 115)) dn; have hB1 := hB0.below hbd (Nat.le_refl _); have hbel1 := hbel0.trans (hbd.mono (by simp; omega)); have ht1 := (hbd.block w1.heap.size (by simp)).trans ht0; generalize World.drewN (w1.alloc (.cells tabA 115)) dn = w2 at *))
  generalize w1.heap.size = tb at *
  go_loopw [5, 6, 18] (fun v k i wr => ∃ (j : Nat) (acc : List UInt8) (p : List Int), i = .int .i64 j ∧ k = .int .i64 (p.length : Nat) ∧ v = .int .i64 (pv p) ∧ p.length ≤ 3 ∧ (∀ x ∈ p, 0 ≤ x ∧ x < 64) ∧ Bld wr w.heap.size w.heap.size acc ∧ wr.heap[tb]? = some (.cells tabA 115 (0, 0)) ∧ Below w.heap.size w wr ∧ j ≤ A.size ∧ acc.length ≤ 3 * j ∧ UnIs s A j acc p) (fun _ _ i _ => A.size - (intOf i).toNat)
  case atStart => exact ⟨0, [], [], rfl, rfl, rfl, by simp, by simp, hB1, ht1, hbel1, by omega, by simp, h0⟩
  case round =>
    obtain ⟨j, acc, p, rfl, rfl, rfl, hp, hpr, hB, ht, hbel, hj, hal, hst0⟩ := hrel
    have hsz := hbel.size
    have hne : tb ≠ w.heap.size := by omega
    obtain ⟨V, hV⟩ : ∃ V, V = pv p := ⟨_, rfl⟩
    rw [← hV]
    by_cases hlt : j < A.size
    · have hb := A[j].toNat_lt
      have hcell := (cell_of_row _ _ _ _ _ _ ht).trans (tabA_at A[j])
      by_cases hv : 0 ≤ valR A[j]
      · have hst := un_yes hst0 hlt hv
        rw [tabV_yes hv] at hcell
        have hx1 := valR_hi A[j]
        clear hst0
        generalize valR A[j] = x at *
        have hxq : (x + 1 == 0) = false := beq_eq_false_iff_ne.2 (by omega)
        have j1 : IntKind.u8.wrap (x + 1 - 1) = x := by rw [IntKind.wrap_u8]; omega
        have j2 : IntKind.i64.wrap x = x := w64 rfl (by omega) (by omega)
        have hpn : ∀ y ∈ p ++ [x], 0 ≤ y ∧ y < 64 := by
          intro y hy
          rcases List.mem_append.1 hy with h | h
          · exact hpr y h
          · rw [List.mem_singleton] at h; subst h; exact ⟨hv, hx1⟩
        match p, hp with
        | [], _ =>
          have hVe : V = 0 := by rw [hV]; rfl
          clear hV
          have k1 : IntKind.i64.wrap (V * 64) = V * 64 := w64 rfl (by omega) (by omega)
          have k2 : bits .or .i64 (V * 64) x = V * 64 + x := or_i64 6 (by decide) (by omega) (by omega) (by omega) (by omega) (by omega)
          clear hpr
          have hVn : V * 64 + x = pv ([] ++ [x]) := by rw [hVe]; simp [pv] <;> omega
          clear hVe
          go_wp2_with fail
          go_roundw
          case rel => exact ⟨j + 1, acc, [] ++ [x], by go_num, by simp, by first | rfl | rw [hVn], by simp, hpn, hB, ht, hbel, by omega, by omega, hst⟩
          case measure => simp [intOf]; omega
        | [a], _ =>
          obtain ⟨ha0, ha1⟩ := hpr a (by simp)
          have hVe : V = a := by rw [hV]; simp [pv] <;> omega
          clear hV
          have k1 : IntKind.i64.wrap (V * 64) = V * 64 := w64 rfl (by omega) (by omega)
          have k2 : bits .or .i64 (V * 64) x = V * 64 + x := or_i64 6 (by decide) (by omega) (by omega) (by omega) (by omega) (by omega)
          clear hpr
          have hVn : V * 64 + x = pv ([a] ++ [x]) := by rw [hVe]; simp [pv] <;> omega
          clear hVe
          go_wp2_with fail
          go_roundw
          case rel => exact ⟨j + 1, acc, [a] ++ [x], by go_num, by simp, by first | rfl | rw [hVn], by simp, hpn, hB, ht, hbel, by omega, by omega, hst⟩
          case measure => simp [intOf]; omega
        | [a, b], _ =>
          obtain ⟨ha0, ha1⟩ := hpr a (by simp)
          obtain ⟨hb0, hb1⟩ := hpr b (by simp)
          have hVe : V = a * 64 + b := by rw [hV]; simp [pv] <;> omega
          clear hV
          have k1 : IntKind.i64.wrap (V * 64) = V * 64 := w64 rfl (by omega) (by omega)
          have k2 : bits .or .i64 (V * 64) x = V * 64 + x := or_i64 6 (by decide) (by omega) (by omega) (by omega) (by omega) (by omega)
          clear hpr
          have hVn : V * 64 + x = pv ([a, b] ++ [x]) := by rw [hVe]; simp [pv] <;> omega
          clear hVe
          go_wp2_with fail
          go_roundw
          case rel => exact ⟨j + 1, acc, [a, b] ++ [x], by go_num, by simp, by first | rfl | rw [hVn], by simp, hpn, hB, ht, hbel, by omega, by omega, hst⟩
          case measure => simp [intOf]; omega
        | [a, b, c], _ =>
          obtain ⟨ha0, ha1⟩ := hpr a (by simp)
          obtain ⟨hb0, hb1⟩ := hpr b (by simp)
          obtain ⟨hc0, hc1⟩ := hpr c (by simp)
          have hVe : V = a * 4096 + b * 64 + c := by rw [hV]; simp [pv] <;> omega
          clear hV
          have k1 : IntKind.i64.wrap (V * 64) = V * 64 := w64 rfl (by omega) (by omega)
          have k2 : bits .or .i64 (V * 64) x = V * 64 + x := or_i64 6 (by decide) (by omega) (by omega) (by omega) (by omega) (by omega)
          have hst4 := un_four hst
          clear hpr
          have q1 : IntKind.u8.wrap ((V * 64 + x) / 65536) = ((b8 (a * 4 + b / 16)).toNat : Int) := by rw [b8_toNat _ (by omega) (by omega), IntKind.wrap_u8]; omega
          have q2 : IntKind.u8.wrap ((V * 64 + x) / 256) = ((b8 (b % 16 * 16 + c / 4)).toNat : Int) := by rw [b8_toNat _ (by omega) (by omega), IntKind.wrap_u8]; omega
          have q3 : IntKind.u8.wrap (V * 64 + x) = ((b8 (c % 4 * 64 + x)).toNat : Int) := by rw [b8_toNat _ (by omega) (by omega), IntKind.wrap_u8]; omega
          have hlt' := lt_of_block ht
          have hblt := hB.lt
          clear hVe
          generalize b8 (a * 4 + b / 16) = o1 at *
          generalize b8 (b % 16 * 16 + c / 4) = o2 at *
          generalize b8 (c % 4 * 64 + x) = o3 at *
          go_wp2_with (go_at_call 99; refine (bwrite _ _ _ 3 acc [o1, o2, o3] _ (hB.alloc _) rfl (cells_new _ _ _) (by omega) (by decide) (by omega) (by simp; omega)).mono ?_; rintro e w' ⟨rfl, hB2, hb2, hk2⟩; have ht2 := hk2 _ _ ((Below.heap_alloc _ _ _ hlt').trans ht) (by simpa using hne) (by intro c fz; simp))
          go_roundw
          case rel => exact ⟨j + 1, _, [], by go_num, rfl, rfl, by simp, by simp, hB2, ht2, (hbel.alloc hsz _).trans hb2, by omega, by simp; omega, hst4⟩
          case measure => simp [intOf]; omega
      · have hst := un_no hst0 hlt hv
        rw [tabV_no hv] at hcell
        clear hst0
        have hk : (p.length : Int) ≤ 3 := by omega
        go_wp2_with fail
        go_roundw
        case rel => exact ⟨j + 1, acc, p, by go_num, rfl, by rw [hV], hp, hpr, hB, ht, hbel, by omega, by omega, hst⟩
        case measure => simp [intOf]; omega
    · have he := un_end hst0 hlt
      clear hst0
      match p, hp with
      | [], _ =>
        have hVe : V = 0 := by rw [hV]; rfl
        clear hV hpr
        have HE := Lib.hid ((show acc = acc ++ duR [] by simp [duR]).trans he)
        clear he
        go_wp2_with (go_at_call 32; refine (bstr _ _ _ _ hB (by omega)).mono ?_; rintro e w' ⟨rfl, -, hb9, -⟩)
        go_ret
        rw [← HE.out]
        exact ⟨rfl, hbel.trans hb9⟩
      | [a], _ =>
        obtain ⟨ha0, ha1⟩ := hpr a (by simp)
        have hVe : V = a := by rw [hV]; simp [pv] <;> omega
        clear hV hpr
        have HE := Lib.hid ((show acc = acc ++ duR [a] by simp [duR]).trans he)
        clear he
        go_wp2_with (go_at_call 32; refine (bstr _ _ _ _ hB (by omega)).mono ?_; rintro e w' ⟨rfl, -, hb9, -⟩)
        go_ret
        rw [← HE.out]
        exact ⟨rfl, hbel.trans hb9⟩
      | [a, b], _ =>
        obtain ⟨ha0, ha1⟩ := hpr a (by simp)
        obtain ⟨hb0, hb1⟩ := hpr b (by simp)
        have hVe : V = a * 64 + b := by rw [hV]; simp [pv] <;> omega
        clear hV hpr
        have HE := Lib.hid ((show acc ++ [b8 (a * 4 + b / 16)] = acc ++ duR [a, b] by simp [duR]).trans he)
        clear he
        have q1 : IntKind.u8.wrap (V / 16) = a * 4 + b / 16 := by rw [IntKind.wrap_u8]; omega
        clear hVe
        go_wp2_with (first | (go_at_call 35; refine (wb _ _ _ (a * 4 + b / 16) _ hB (by omega) (by omega) (by first | omega | (simp; omega)) (by omega)).mono ?_; rintro e w' ⟨rfl, hB5, hb5, -⟩; have hz5 := hb5.size) | (go_at_call 32; refine (bstr _ _ _ _ hB5 (by omega)).mono ?_; rintro e w' ⟨rfl, -, hb9, -⟩))
        go_ret
        rw [← HE.out]
        exact ⟨rfl, (hbel.trans hb5).trans hb9⟩
      | [a, b, c], _ =>
        obtain ⟨ha0, ha1⟩ := hpr a (by simp)
        obtain ⟨hb0, hb1⟩ := hpr b (by simp)
        obtain ⟨hc0, hc1⟩ := hpr c (by simp)
        have hVe : V = a * 4096 + b * 64 + c := by rw [hV]; simp [pv] <;> omega
        clear hV hpr
        have HE := Lib.hid ((show acc ++ [b8 (a * 4 + b / 16), b8 (b % 16 * 16 + c / 4)] = acc ++ duR [a, b, c] by simp [duR]).trans he)
        clear he
        have q1 : IntKind.u8.wrap (V / 1024) = a * 4 + b / 16 := by rw [IntKind.wrap_u8]; omega
        have q2 : IntKind.u8.wrap (V / 4) = b % 16 * 16 + c / 4 := by rw [IntKind.wrap_u8]; omega
        clear hVe
        go_wp2_with (first | (go_at_call 35; refine (wb _ _ _ (b % 16 * 16 + c / 4) _ hB5 (by omega) (by omega) (by first | omega | (simp; omega)) (by omega)).mono ?_; rintro e w' ⟨rfl, hB6, hb6, -⟩; have hz6 := hb6.size) | (go_at_call 35; refine (wb _ _ _ (a * 4 + b / 16) _ hB (by omega) (by omega) (by first | omega | (simp; omega)) (by omega)).mono ?_; rintro e w' ⟨rfl, hB5, hb5, -⟩; have hz5 := hb5.size) | (go_at_call 32; refine (bstr _ _ _ _ hB6 (by omega)).mono ?_; rintro e w' ⟨rfl, -, hb9, -⟩))
        go_ret
        rw [← HE.out]
        exact ⟨rfl, ((hbel.trans hb5).trans hb6).trans hb9⟩
end Go.Proofs.YtnclbbgdfaeilaaGreatDoor
