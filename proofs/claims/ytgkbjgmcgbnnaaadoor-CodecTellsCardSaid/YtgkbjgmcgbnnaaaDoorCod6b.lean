/- Walks: the program's codec: UnQ, UnQp. -/
import Derived.Test.YtgkbjgmcgbnnaaaDoorCod6
import Derived.Test.YtgkbjgmcgbnnaaaDoorSpec6b
import Derived.Test.YtgkbjgmcgbnnaaaDoorShelf
import Derived.Shelf.Strings.SlTrimAscii
namespace Go.Proofs.YtgkbjgmcgbnnaaaDoor
open Go.RowKit Pk C6 Hx

theorem cell_below {w w' : World} {B : Nat} {m : Int} (hm : w.cell? ⟨0, 0, none⟩ = some (.int .i64 m)) (h : Below B w w') (hB : B = w.heap.size) : w'.cell? ⟨0, 0, none⟩ = some (.int .i64 m) := by
  have hlt : 0 < w.heap.size := by
    rcases Nat.lt_or_ge 0 w.heap.size with h | h
    · exact h
    · unfold World.cell? at hm
      rw [Array.getElem?_eq_none (by simpa using h)] at hm
      simp at hm
  exact (World.cell?_of_block (h.block 0 (by omega))).trans hm
theorem unblank_cut : ∀ l : List UInt8, unblank l = if (Lib.cut l [95]).2.2 = true then (Lib.cut l [95]).1 ++ 32 :: unblank (Lib.cut l [95]).2.1 else l
  | [] => by rw [cut_nil (by decide)]; rfl
  | c :: r => by
    by_cases hc : c = 95
    · subst hc
      rw [cut_hit (by simp [List.isPrefixOf])]
      simp [unblank]
    · rw [cut_cons (by simp [List.isPrefixOf]; exact fun e => hc e.symm)]
      have ih := unblank_cut r
      have e : unblank (c :: r) = c :: unblank r := by
        unfold unblank
        rw [List.map_cons, if_neg]
        intro h; exact hc (by rw [← UInt8.toNat_inj]; exact h)
      rw [e, ih]
      simp only
      split <;> simp
theorem replF (l : List UInt8) : Lib.replaceK [95] [32] (Lib.count l [95]) l = if (Lib.cut l [95]).2.2 = true then (Lib.cut l [95]).1 ++ 32 :: Lib.replaceK [95] [32] (Lib.count (Lib.cut l [95]).2.1 [95]) (Lib.cut l [95]).2.1 else l := by
  by_cases h : Lib.index l [95] = -1
  · rw [Lib.count_miss h]
    unfold Lib.cut
    rw [h]; rfl
  · have hg := Lib.index_ge l [95]
    obtain ⟨i, hi⟩ : ∃ i : Nat, Lib.index l [95] = i := ⟨(Lib.index l [95]).toNat, by omega⟩
    rw [Lib.count_hit (by decide) hi, Nat.add_comm, Lib.replaceK_hit _ _ _ _ _ hi]
    unfold Lib.cut
    rw [hi, if_pos (Int.natCast_nonneg i)]
    simp
theorem replU : ∀ (n : Nat) (l : List UInt8), l.length ≤ n → Lib.replaceK [95] [32] (Lib.count l [95]) l = unblank l
  | 0, l, h => by
    have : l = [] := List.eq_nil_of_length_eq_zero (by omega)
    subst this; rfl
  | n + 1, l, h => by
    rw [replF, unblank_cut]
    split
    · rename_i hc
      have hl := cut_length [95] (by decide) l
      rw [if_pos hc] at hl
      rw [replU n _ (by simp at hl; omega)]
    · rfl
theorem replace_unblank (l : List UInt8) : Lib.replaceAll l [95] [32] = unblank l := by
  unfold Lib.replaceAll Lib.replace Lib.replaceNum
  rw [if_neg (by decide), if_pos (.inl (by decide))]
  exact replU _ l (Nat.le_refl _)
theorem unQP_any (s : ByteArray) (w : World) (m : Int) (hs : s.size ≤ 3000000) (hm : w.cell? ⟨0, 0, none⟩ = some (.int .i64 m)) :
    Calls Tryd.prog 20 #[.string s] w fun e w' => e = .returned (.string ⟨(unQR s.data.toList).toArray⟩) ∧ Below w.heap.size w w' := by
  have hcl := Lib.countB_le ⟨#[95]⟩ (by decide) s.size s (Nat.le_refl _)
  have hra := Tryd.strings_ReplaceAll s ⟨#[95]⟩ ⟨#[32]⟩ m w (by omega) hm (by decide) (by show _ + _ * 1 ≤ _; omega)
  have e : Lib.replaceAll s.data.toList (⟨#[95]⟩ : ByteArray).data.toList (⟨#[32]⟩ : ByteArray).data.toList = unblank s.data.toList := replace_unblank _
  rw [e] at hra
  have HR := Lib.hid hra
  clear hra e hcl hm
  go_enter Tryd.func20, Tryd.ntmps20
  go_wp2_with (first
    | (go_at_call 42; refine (HR.out).mono ?_; rintro e w' ⟨rfl, hb1⟩; have hz1 := hb1.size)
    | (go_at_call 39; refine (unescape_any _ _ (by show (unblank s.data.toList).length ≤ _; unfold unblank; rw [List.length_map]; show s.size ≤ _; omega)).mono ?_; rintro e w' ⟨rfl, hb2⟩))
  go_ret
  exact ⟨rfl, hb1.trans (hb2.mono hz1)⟩

theorem trim_any (x : ByteArray) (w : World) (h : x.size ≤ 4000000) :
    Calls Tryd.prog 38 #[.string x, .string ⟨#[32, 9]⟩] w fun e w' => e = .returned (.string ⟨(Lib.trimRightS x.data.toList [32, 9]).toArray⟩) ∧ Below w.heap.size w w' :=
  Any.strings_TrimRight_laid Tryd.lays162 (by kernel_rfl) x ⟨#[32, 9]⟩ w (by omega) (by decide) (by
    intro j b h
    rcases j with _ | _ | j <;> simp at h <;> subst h <;> decide)
theorem suf_ends (l : List UInt8) (c : UInt8) : Lib.hasSuffix l [c] = ends1 c l := by
  unfold Lib.hasSuffix ends1
  rw [Bool.eq_iff_iff, List.isSuffixOf_iff_suffix, beq_iff_eq]
  constructor
  · rintro ⟨t, rfl⟩; simp
  · intro h
    rw [List.getLast?_eq_some_iff] at h
    obtain ⟨t, rfl⟩ := h
    exact ⟨t, rfl⟩
theorem suf_any (x : ByteArray) (c : UInt8) (w : World) (h : x.size ≤ 4000000) :
    Calls Tryd.prog 37 #[.string x, .string ⟨#[c]⟩] w fun e w' => e = .returned (.bool (ends1 c x.data.toList)) ∧ w' = w := by
  have := Tryd.strings_HasSuffix x ⟨#[c]⟩ w (by omega)
  have e : Lib.hasSuffix x.data.toList (⟨#[c]⟩ : ByteArray).data.toList = ends1 c x.data.toList := suf_ends _ _
  rw [e] at this
  exact this
theorem trimRightS_length (l cs : List UInt8) : (Lib.trimRightS l cs).length ≤ l.length := by
  unfold Lib.trimRightS
  rw [List.length_reverse]
  exact Nat.le_trans (List.dropWhile_sublist _).length_le (by simp)
theorem ends1_pos {c : UInt8} {l : List UInt8} (h : ends1 c l = true) : 0 < l.length := by
  unfold ends1 at h
  cases l with
  | nil => simp at h
  | cons => simp
theorem dropl (x : ByteArray) (n : Nat) (h : n + 1 = x.size) : (x.extract 0 n).data.toList = x.data.toList.dropLast := by
  have e : (x.extract 0 n).data.toList = (x.data.toList.drop 0).take (n - 0) := by rw [← Lib.extract_toList, Lib.toList_data]
  rw [e, List.drop_zero, List.dropLast_eq_take]
  congr 1
  show n - 0 = x.size - 1
  omega
theorem arr_ex (l : List UInt8) : ∃ A : ByteArray, A = ⟨l.toArray⟩ ∧ A.data.toList = l ∧ A.size = l.length := ⟨⟨l.toArray⟩, rfl, by simp, by simp [ByteArray.size]⟩
theorem cut_miss (l sep : List UInt8) (h : (Lib.cut l sep).2.2 = false) : (Lib.cut l sep).2.1 = [] := by
  unfold Lib.cut at *
  split at h
  · cases h
  · rename_i c; rw [if_neg c]
theorem unq_next (l : List UInt8) : unq [] l = unline (Lib.cut l [10]).1 (Lib.cut l [10]).2.2 ++ unq [] (Lib.cut l [10]).2.1 := by
  rw [unq_cut l []]
  simp only [List.nil_append]
  split
  · rename_i h; rw [h]
  · rename_i h
    have h' : (Lib.cut l [10]).2.2 = false := by simpa using h
    rw [cut_miss _ _ h', h']
    simp [unq, unline, uncut, ends1, Lib.trimRightS, escR]

theorem unline_len (a : List UInt8) (more : Bool) : (unline a more).length ≤ a.length + (if more = true then 1 else 0) := by
  have hu : ∀ (a e : List UInt8), (uncut a e).length ≤ a.length + e.length := by
    intro a e
    unfold uncut
    have h1 := escR_length (Lib.trimRightS a [32, 9])
    have h2 := escR_length (Lib.trimRightS a [32, 9]).dropLast
    have h3 := trimRightS_length a [32, 9]
    have h4 : (Lib.trimRightS a [32, 9]).dropLast.length ≤ (Lib.trimRightS a [32, 9]).length := by simp
    split
    · omega
    · rw [List.length_append]; omega
  unfold unline
  split
  · split
    · rename_i h
      have := hu a.dropLast [13, 10]
      have := ends1_pos h
      simp at *; omega
    · have := hu a [10]; simp at *; omega
  · have := hu a []; simp at *; omega
theorem below_draws' (w : World) (n : Nat) : Below w.heap.size w (w.drewN n) := ⟨rfl, rfl, rfl, Nat.le_refl _, fun _ _ => rfl⟩
theorem wlen (a : Nat) (x y : ByteArray) (N : Nat) (h : a + x.size + y.size ≤ N) : a + (x ++ y).size ≤ N := by rw [ByteArray.size_append]; omega
theorem wlen' (a : Nat) (l : List UInt8) (y : ByteArray) (N : Nat) (h : a + l.length + y.size ≤ N) : a + ((⟨(escR l).toArray⟩ : ByteArray) ++ y).size ≤ N := by
  rw [ByteArray.size_append]
  have := escR_length l
  have e : (⟨(escR l).toArray⟩ : ByteArray).size = (escR l).length := by simp [ByteArray.size]
  omega
theorem lenstep {acc y u : List UInt8} {r n : Nat} (h : y = u) (hu : acc.length + u.length + r ≤ n) : (acc ++ y).length + r ≤ n := by rw [List.length_append, h]; exact hu
theorem unq_end {S s : ByteArray} {acc : List UInt8} (h : Hid (acc ++ unq [] (tl S 0) = unq [] (tl s 0))) (h0 : ¬ 0 < S.size) : acc = unQpR s.data.toList := by
  have e := h.out
  rw [tl_end S 0 (by omega), tl_zero] at e
  have : unq [] [] = [] := by decide
  rw [this] at e
  simpa [unQpR] using e

set_option maxHeartbeats 4000000 in
theorem unQpP_any (s : ByteArray) (w : World) (m : Int) (hs : s.size ≤ 3000000) (hm : w.cell? ⟨0, 0, none⟩ = some (.int .i64 m)) :
    Calls Tryd.prog 16 #[.string s] w fun e w' => e = .returned (.string ⟨(unQpR s.data.toList).toArray⟩) ∧ Below w.heap.size w w' := by
  go_enter Tryd.func16, Tryd.ntmps16
  go_wp2
  go_loopw [0] (fun v wr => ∃ (S : ByteArray) (acc : List UInt8), v = .string S ∧ Bld wr w.heap.size w.heap.size acc ∧ Below w.heap.size w wr ∧ acc.length + S.size ≤ s.size ∧ Hid (acc ++ unq [] (tl S 0) = unq [] (tl s 0))) (fun v _ => match v with | .string S => S.size | _ => 0)
  case atStart => exact ⟨s, [], rfl, Bld.new w, (Below.refl _ _).alloc (Nat.le_refl _) _, by simp, rfl⟩
  case round =>
    obtain ⟨S, acc, rfl, hB, hbel, hal, hrel⟩ := hrel
    have hsz := hbel.size
    have hmr := cell_below hm hbel rfl
    by_cases h0 : 0 < S.size
    · have hne := str_ne h0
      obtain ⟨A, hA, hAl, hAs⟩ := arr_ex (Lib.cut S.data.toList [10]).1
      obtain ⟨R, hR, hRl, hRs⟩ := arr_ex (Lib.cut S.data.toList [10]).2.1
      obtain ⟨more, hmore⟩ : ∃ b, b = (Lib.cut S.data.toList [10]).2.2 := ⟨_, rfl⟩
      have hcut : Calls Tryd.prog 30 #[.string S, .string ⟨#[10]⟩] wr fun e w' => e = .returned (.tuple #[.string A, .string R, .bool more]) ∧ ∃ n, w' = wr.drewN n := by
        rw [hA, hR, hmore]
        exact Tryd.strings_Cut S ⟨#[10]⟩ m wr (by omega) hmr
      have HC := Lib.hid hcut
      have hlen := cut_length [10] (by decide) S.data.toList
      rw [← hmore, ← hAs, ← hRs] at hlen
      have hSs : S.data.toList.length = S.size := rfl
      rw [hSs] at hlen
      have hRlt : R.size < S.size := by
        cases hmm : more with
        | true => rw [hmm] at hlen; simp at hlen; omega
        | false =>
          rw [hmm] at hmore
          have := cut_miss _ _ hmore.symm
          rw [this, List.length_nil] at hRs
          omega
      have hunl := unline_len A.data.toList more
      have hAA : A.data.toList.length = A.size := rfl
      rw [hAA] at hunl
      have hstep : ∀ y, y = unline A.data.toList more → Hid (acc ++ y ++ unq [] (tl R 0) = unq [] (tl s 0)) := by
        rintro y rfl
        show _ = _
        rw [← hrel.out, tl_zero, tl_zero, unq_next S.data.toList, hAl, hRl, ← hmore]; simp
      have HS := Lib.hid hstep
      clear hcut hA hAl hAs hR hRl hRs hmore hstep hrel hmr
      have hAle : A.size ≤ S.size := by split at hlen <;> omega
      obtain ⟨l0, hl0⟩ : ∃ l0, l0 = (if more = true ∧ ends1 13 A.data.toList = true then A.data.toList.dropLast else A.data.toList) := ⟨_, rfl⟩
      obtain ⟨T, hT, hTl, hTs⟩ := arr_ex (Lib.trimRightS l0 [32, 9])
      have hl0s : l0.length ≤ A.size := by rw [hl0]; split <;> simp <;> omega
      have hTs' := trimRightS_length l0 [32, 9]
      have htrim : Hid (∀ (x : ByteArray) (w : World), x.data.toList = l0 → Calls Tryd.prog 38 #[.string x, .string ⟨#[32, 9]⟩] w fun e w' => e = .returned (.string T) ∧ Below w.heap.size w w') := by
        intro x w hx
        rw [hT, ← hx]
        exact trim_any x w (by have : x.data.toList.length = x.size := rfl; rw [hx] at this; omega)
      have hTA : T.size ≤ A.size := by omega
      clear hTs hTs' hT
      have hsufA : Hid (∀ w, Calls Tryd.prog 37 #[.string A, .string ⟨#[13]⟩] w fun e w' => e = .returned (.bool (ends1 13 A.data.toList)) ∧ w' = w) := fun w => suf_any A 13 w (by omega)
      have hsufT : Hid (∀ w, Calls Tryd.prog 37 #[.string T, .string ⟨#[61]⟩] w fun e w' => e = .returned (.bool (ends1 61 T.data.toList)) ∧ w' = w) := fun w => suf_any T 61 w (by omega)
      have hgoal : Hid (unline A.data.toList more = if ends1 61 T.data.toList = true then escR T.data.toList.dropLast else escR T.data.toList ++ (if more = true then (if ends1 13 A.data.toList = true then [13, 10] else [10]) else [])) := by
        show _ = _
        rw [hTl, hl0]
        unfold unline
        cases more with
        | false => simp [uncut]
        | true =>
          simp only [true_and, if_true]
          split <;> rfl
      clear hTl
      have HL0 := Lib.hid hl0
      clear hl0
      obtain ⟨e13, he13⟩ : ∃ b, b = ends1 13 A.data.toList := ⟨_, rfl⟩
      obtain ⟨e61, he61⟩ : ∃ b, b = ends1 61 T.data.toList := ⟨_, rfl⟩
      have hp13 : Hid (e13 = true → 0 < A.size) := fun h => ends1_pos (he13 ▸ h)
      have hp61 : Hid (e61 = true → 0 < T.size) := fun h => ends1_pos (he61 ▸ h)
      rw [← he13] at hsufA HL0 hgoal
      rw [← he61] at hsufT hgoal
      clear he13 he61
      have hun : Hid (∀ (x : ByteArray) (w : World), x.size ≤ T.size → Calls Tryd.prog 39 #[.string x] w fun e w' => e = .returned (.string ⟨(escR x.data.toList).toArray⟩) ∧ Below w.heap.size w w') := fun x w hx => unescape_any x w (by omega)
      have hwl := hun
      rcases more with _ | _
      · rcases e61 with _ | _
        · have hRsz : R.size < S.size := hRlt
          have hTS : T.size ≤ S.size := by omega
          have hlen' : A.size + R.size ≤ S.size := by simp at hlen; omega
          have hunl' : (unline A.data.toList false).length ≤ A.size + 0 := hunl
          clear hunl
          have hes1 : (escR T.data.toList).length ≤ T.size := escR_length T.data.toList
          have hes2 : (escR T.data.toList.dropLast).length ≤ T.size := Nat.le_trans (escR_length _) (by rw [List.length_dropLast]; show T.size - 1 ≤ _; omega)
          go_wp2_with (first
            | (go_at_call 30; refine (HC.out).mono ?_; rintro e w' ⟨rfl, dn, rfl⟩; have hb0 := below_draws' wr dn; have hB0 := hB.below hb0 (Nat.le_refl _); have hz0 := hb0.size; generalize wr.drewN dn = w0 at *)
            | (go_at_call 37; refine (hsufT.out _).mono ?_; rintro e w' ⟨rfl, rfl⟩)
            | (go_at_call 38; refine (htrim.out _ _ (HL0.out.symm)).mono ?_; rintro e w' ⟨rfl, hb1⟩; have hB1 := hB0.below hb1 (Nat.le_refl _); have hz1 := hb1.size)
            | (go_at_call 39; go_loud (refine (hun.out _ _ (Nat.le_refl _)).mono ?_); rintro e w' ⟨rfl, hb2⟩; have hB2 := hB1.below hb2 (Nat.le_refl _); have hz2 := hb2.size)
            | (go_at_call 26; go_must (refine (ws _ _ _ _ _ hB2 (by refine wlen' _ _ _ _ ?_; show acc.length + T.size + 0 ≤ _; omega) (by omega)).mono ?_); rintro e w' ⟨rfl, hB3, hb3, -⟩))
          go_roundw
          case rel => exact ⟨R, _, rfl, hB3, ((hbel.trans (hb0.mono hsz)).trans (hb1.mono (by omega))).trans ((hb2.mono (by omega)).trans hb3), lenstep (u := unline A.data.toList false) (by rw [hgoal.out]; simp) (by omega), HS.out _ (by rw [hgoal.out]; simp)⟩
          case measure => exact hRsz
        · have hRsz : R.size < S.size := hRlt
          have hTp := hp61.out rfl
          have hTS : T.size ≤ S.size := by omega
          have hlen' : A.size + R.size ≤ S.size := by simp at hlen; omega
          have hunl' : (unline A.data.toList false).length ≤ A.size + 0 := hunl
          clear hunl
          have hes1 : (escR T.data.toList).length ≤ T.size := escR_length T.data.toList
          have hes2 : (escR T.data.toList.dropLast).length ≤ T.size := Nat.le_trans (escR_length _) (by rw [List.length_dropLast]; show T.size - 1 ≤ _; omega)
          go_wp2_with (first
            | (go_at_call 30; refine (HC.out).mono ?_; rintro e w' ⟨rfl, dn, rfl⟩; have hb0 := below_draws' wr dn; have hB0 := hB.below hb0 (Nat.le_refl _); have hz0 := hb0.size; generalize wr.drewN dn = w0 at *)
            | (go_at_call 37; refine (hsufT.out _).mono ?_; rintro e w' ⟨rfl, rfl⟩)
            | (go_at_call 38; refine (htrim.out _ _ (HL0.out.symm)).mono ?_; rintro e w' ⟨rfl, hb1⟩; have hB1 := hB0.below hb1 (Nat.le_refl _); have hz1 := hb1.size)
            | (go_at_call 39; refine (hun.out _ _ (by rw [ByteArray.size_extract]; omega)).mono ?_; rintro e w' ⟨rfl, hb2⟩; have hB2 := hB1.below hb2 (Nat.le_refl _); have hz2 := hb2.size)
            | (go_at_call 26; go_must (refine (ws _ _ _ _ _ hB2 (by refine wlen' _ _ _ _ ?_; rw [List.length_dropLast]; show acc.length + (T.size - 1) + 0 ≤ _; omega) (by omega)).mono ?_); rintro e w' ⟨rfl, hB3, hb3, -⟩))
          go_roundw
          case rel => exact ⟨R, _, rfl, hB3, ((hbel.trans (hb0.mono hsz)).trans (hb1.mono (by omega))).trans ((hb2.mono (by omega)).trans hb3), lenstep (u := unline A.data.toList false) (by rw [hgoal.out]; simp) (by omega), HS.out _ (by rw [hgoal.out]; simp)⟩
          case measure => exact hRsz
      · rcases e13 with _ | _
        · rcases e61 with _ | _
          · have hRsz : R.size < S.size := hRlt
            have hTS : T.size ≤ S.size := by omega
            have hlen' : A.size + 1 + R.size ≤ S.size := by simp at hlen; omega
            have hunl' : (unline A.data.toList true).length ≤ A.size + 1 := hunl
            clear hunl
            have hes1 : (escR T.data.toList).length ≤ T.size := escR_length T.data.toList
            have hes2 : (escR T.data.toList.dropLast).length ≤ T.size := Nat.le_trans (escR_length _) (by rw [List.length_dropLast]; show T.size - 1 ≤ _; omega)
            go_wp2_with (first
              | (go_at_call 30; refine (HC.out).mono ?_; rintro e w' ⟨rfl, dn, rfl⟩; have hb0 := below_draws' wr dn; have hB0 := hB.below hb0 (Nat.le_refl _); have hz0 := hb0.size; generalize wr.drewN dn = w0 at *)
              | (go_at_call 37; refine (hsufA.out _).mono ?_; rintro e w' ⟨rfl, rfl⟩)
              | (go_at_call 37; refine (hsufT.out _).mono ?_; rintro e w' ⟨rfl, rfl⟩)
              | (go_at_call 38; refine (htrim.out _ _ (HL0.out.symm)).mono ?_; rintro e w' ⟨rfl, hb1⟩; have hB1 := hB0.below hb1 (Nat.le_refl _); have hz1 := hb1.size)
              | (go_at_call 39; go_loud (refine (hun.out _ _ (Nat.le_refl _)).mono ?_); rintro e w' ⟨rfl, hb2⟩; have hB2 := hB1.below hb2 (Nat.le_refl _); have hz2 := hb2.size)
              | (go_at_call 26; go_must (refine (ws _ _ _ _ _ hB2 (by refine wlen' _ _ _ _ ?_; show acc.length + T.size + 1 ≤ _; omega) (by omega)).mono ?_); rintro e w' ⟨rfl, hB3, hb3, -⟩))
            go_roundw
            case rel => exact ⟨R, _, rfl, hB3, ((hbel.trans (hb0.mono hsz)).trans (hb1.mono (by omega))).trans ((hb2.mono (by omega)).trans hb3), lenstep (u := unline A.data.toList true) (by rw [hgoal.out]; simp) (by omega), HS.out _ (by rw [hgoal.out]; simp)⟩
            case measure => exact hRsz
          · have hRsz : R.size < S.size := hRlt
            have hTp := hp61.out rfl
            have hTS : T.size ≤ S.size := by omega
            have hlen' : A.size + 1 + R.size ≤ S.size := by simp at hlen; omega
            have hunl' : (unline A.data.toList true).length ≤ A.size + 1 := hunl
            clear hunl
            have hes1 : (escR T.data.toList).length ≤ T.size := escR_length T.data.toList
            have hes2 : (escR T.data.toList.dropLast).length ≤ T.size := Nat.le_trans (escR_length _) (by rw [List.length_dropLast]; show T.size - 1 ≤ _; omega)
            go_wp2_with (first
              | (go_at_call 30; refine (HC.out).mono ?_; rintro e w' ⟨rfl, dn, rfl⟩; have hb0 := below_draws' wr dn; have hB0 := hB.below hb0 (Nat.le_refl _); have hz0 := hb0.size; generalize wr.drewN dn = w0 at *)
              | (go_at_call 37; refine (hsufA.out _).mono ?_; rintro e w' ⟨rfl, rfl⟩)
              | (go_at_call 37; refine (hsufT.out _).mono ?_; rintro e w' ⟨rfl, rfl⟩)
              | (go_at_call 38; refine (htrim.out _ _ (HL0.out.symm)).mono ?_; rintro e w' ⟨rfl, hb1⟩; have hB1 := hB0.below hb1 (Nat.le_refl _); have hz1 := hb1.size)
              | (go_at_call 39; refine (hun.out _ _ (by rw [ByteArray.size_extract]; omega)).mono ?_; rintro e w' ⟨rfl, hb2⟩; have hB2 := hB1.below hb2 (Nat.le_refl _); have hz2 := hb2.size)
              | (go_at_call 26; go_must (refine (ws _ _ _ _ _ hB2 (by refine wlen' _ _ _ _ ?_; rw [List.length_dropLast]; show acc.length + (T.size - 1) + 0 ≤ _; omega) (by omega)).mono ?_); rintro e w' ⟨rfl, hB3, hb3, -⟩))
            go_roundw
            case rel => exact ⟨R, _, rfl, hB3, ((hbel.trans (hb0.mono hsz)).trans (hb1.mono (by omega))).trans ((hb2.mono (by omega)).trans hb3), lenstep (u := unline A.data.toList true) (by rw [hgoal.out]; simp) (by omega), HS.out _ (by rw [hgoal.out]; simp)⟩
            case measure => exact hRsz
        · rcases e61 with _ | _
          · have hRsz : R.size < S.size := hRlt
            have hAp := hp13.out rfl
            have hTS : T.size ≤ S.size := by omega
            have hlen' : A.size + 1 + R.size ≤ S.size := by simp at hlen; omega
            have hunl' : (unline A.data.toList true).length ≤ A.size + 1 := hunl
            clear hunl
            have hes1 : (escR T.data.toList).length ≤ T.size := escR_length T.data.toList
            have hes2 : (escR T.data.toList.dropLast).length ≤ T.size := Nat.le_trans (escR_length _) (by rw [List.length_dropLast]; show T.size - 1 ≤ _; omega)
            go_wp2_with (first
              | (go_at_call 30; refine (HC.out).mono ?_; rintro e w' ⟨rfl, dn, rfl⟩; have hb0 := below_draws' wr dn; have hB0 := hB.below hb0 (Nat.le_refl _); have hz0 := hb0.size; generalize wr.drewN dn = w0 at *)
              | (go_at_call 37; refine (hsufA.out _).mono ?_; rintro e w' ⟨rfl, rfl⟩)
              | (go_at_call 37; refine (hsufT.out _).mono ?_; rintro e w' ⟨rfl, rfl⟩)
              | (go_at_call 38; refine (htrim.out _ _ ((dropl _ _ (by omega)).trans HL0.out.symm)).mono ?_; rintro e w' ⟨rfl, hb1⟩; have hB1 := hB0.below hb1 (Nat.le_refl _); have hz1 := hb1.size)
              | (go_at_call 39; go_loud (refine (hun.out _ _ (Nat.le_refl _)).mono ?_); rintro e w' ⟨rfl, hb2⟩; have hB2 := hB1.below hb2 (Nat.le_refl _); have hz2 := hb2.size)
              | (go_at_call 26; go_must (refine (ws _ _ _ _ _ hB2 (by refine wlen' _ _ _ _ ?_; show acc.length + T.size + 2 ≤ _; omega) (by omega)).mono ?_); rintro e w' ⟨rfl, hB3, hb3, -⟩))
            go_roundw
            case rel => exact ⟨R, _, rfl, hB3, ((hbel.trans (hb0.mono hsz)).trans (hb1.mono (by omega))).trans ((hb2.mono (by omega)).trans hb3), lenstep (u := unline A.data.toList true) (by rw [hgoal.out]; simp) (by omega), HS.out _ (by rw [hgoal.out]; simp)⟩
            case measure => exact hRsz
          · have hRsz : R.size < S.size := hRlt
            have hAp := hp13.out rfl
            have hTp := hp61.out rfl
            have hTS : T.size ≤ S.size := by omega
            have hlen' : A.size + 1 + R.size ≤ S.size := by simp at hlen; omega
            have hunl' : (unline A.data.toList true).length ≤ A.size + 1 := hunl
            clear hunl
            have hes1 : (escR T.data.toList).length ≤ T.size := escR_length T.data.toList
            have hes2 : (escR T.data.toList.dropLast).length ≤ T.size := Nat.le_trans (escR_length _) (by rw [List.length_dropLast]; show T.size - 1 ≤ _; omega)
            go_wp2_with (first
              | (go_at_call 30; refine (HC.out).mono ?_; rintro e w' ⟨rfl, dn, rfl⟩; have hb0 := below_draws' wr dn; have hB0 := hB.below hb0 (Nat.le_refl _); have hz0 := hb0.size; generalize wr.drewN dn = w0 at *)
              | (go_at_call 37; refine (hsufA.out _).mono ?_; rintro e w' ⟨rfl, rfl⟩)
              | (go_at_call 37; refine (hsufT.out _).mono ?_; rintro e w' ⟨rfl, rfl⟩)
              | (go_at_call 38; refine (htrim.out _ _ ((dropl _ _ (by omega)).trans HL0.out.symm)).mono ?_; rintro e w' ⟨rfl, hb1⟩; have hB1 := hB0.below hb1 (Nat.le_refl _); have hz1 := hb1.size)
              | (go_at_call 39; refine (hun.out _ _ (by rw [ByteArray.size_extract]; omega)).mono ?_; rintro e w' ⟨rfl, hb2⟩; have hB2 := hB1.below hb2 (Nat.le_refl _); have hz2 := hb2.size)
              | (go_at_call 26; go_must (refine (ws _ _ _ _ _ hB2 (by refine wlen' _ _ _ _ ?_; rw [List.length_dropLast]; show acc.length + (T.size - 1) + 0 ≤ _; omega) (by omega)).mono ?_); rintro e w' ⟨rfl, hB3, hb3, -⟩))
            go_roundw
            case rel => exact ⟨R, _, rfl, hB3, ((hbel.trans (hb0.mono hsz)).trans (hb1.mono (by omega))).trans ((hb2.mono (by omega)).trans hb3), lenstep (u := unline A.data.toList true) (by rw [hgoal.out]; simp) (by omega), HS.out _ (by rw [hgoal.out]; simp)⟩
            case measure => exact hRsz
    · have he := str_nil (S := S) (by omega)
      have H := Lib.hid (unq_end hrel h0)
      go_wp2_with (go_at_call 27; refine (bstr _ _ _ _ hB (by omega)).mono ?_; rintro e w' ⟨rfl, -, hb2, -⟩)
      go_ret
      rw [← H.out]
      exact ⟨rfl, hbel.trans hb2⟩
end Go.Proofs.YtgkbjgmcgbnnaaaDoor
