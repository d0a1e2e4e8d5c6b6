/- Walks: header: end, goes, bare, Right, Unfold, small. Walks: header: field, Join. Walks: header: Parse. -/
import Derived.Test.YtnclbbgdfaeilaaGreatDoorHdPL
import Derived.Test.YtnclbbgdfaeilaaGreatDoorShelf
import Derived.Test.YtnclbbgdfaeilaaGreatDoorRows
import Derived.Shelf.Strings.SlTrimAscii
import Derived.Test.YtnclbbgdfaeilaaGreatDoorBld
import Derived.WalkSmall
namespace Go.Proofs.YtnclbbgdfaeilaaGreatDoor
open Go.RowKit Pk Hd

theorem u8n {a b : UInt8} (h : a ≠ b) : ((a.toNat : Int) == (b.toNat : Int)) = false := by rw [u8_beq, decide_eq_false h]
theorem u8y {a b : UInt8} (h : a = b) : ((a.toNat : Int) == (b.toNat : Int)) = true := by rw [u8_beq, decide_eq_true h]
theorem u8k {a : UInt8} (n : Nat) (hn : n < 256) : ((a.toNat : Int) == (n : Int)) = decide (a = UInt8.ofNat n) := by
  have := u8_beq a (UInt8.ofNat n)
  rw [show ((UInt8.ofNat n).toNat : Int) = (n : Int) by simp; omega] at this
  exact this
theorem data_cons (s : ByteArray) (h : 0 < s.size) : s.data.toList = s[0] :: tl s 1 := by rw [← tl_zero s, tl_cons s 0 h]
theorem ext_all (s : ByteArray) : s.extract 0 s.size = s := by
  rw [ext_to, List.take_of_length_le (show s.data.toList.length ≤ s.size from Nat.le_refl _)]
theorem toB_back (s : ByteArray) : toB s.data.toList = s := by unfold toB; simp
theorem ibH0 (s : ByteArray) (x : UInt8) (w : World) : Calls Tryz.prog 48 #[.string s, .int .u8 x.toNat] w fun e w' => e = .returned (.int .i64 (Lib.indexByte s.data.toList x)) ∧ w = w' := by
  refine (Tryz.strings_IndexByte s x.toNat w).mono fun _ _ ⟨h1, h2⟩ => ⟨?_, h2.symm⟩
  rw [h1]; simp
theorem ib10 (s : ByteArray) (w : World) : Calls Tryz.prog 48 #[.string s, .int .u8 10] w fun e w' => e = .returned (.int .i64 (Lib.indexByte s.data.toList 10)) ∧ w = w' := ibH0 s 10 w
theorem ibB (x : UInt8) (w : World) : Calls Tryz.prog 48 #[.string ⟨#[32, 9]⟩, .int .u8 x.toNat] w fun e w' => e = .returned (.int .i64 (Lib.indexByte [32, 9] x)) ∧ w = w' := ibH0 ⟨#[32, 9]⟩ x w
set_option maxRecDepth 100000 in
theorem endH_any (s : ByteArray) (w : World) (hs : s.size ≤ 100000000) : Calls Tryz.prog 23 #[.string s] w fun e w' => e = .returned (.int .i64 (lineN s.data.toList : Nat)) ∧ w = w' := by
  have hI := ib10 s
  have hx := lineN_ix s.data.toList
  have hle := lineN_le s.data.toList
  rw [dataL] at hx hle
  have hge := Lib.indexByte_ge s.data.toList 10
  generalize Lib.indexByte s.data.toList 10 = ix at hI hx hge
  generalize lineN s.data.toList = n at hx hle ⊢
  have HI := Lib.hid hI
  clear hI
  by_cases h : 0 ≤ ix
  · rw [if_pos h] at hx
    have HX := Lib.hid hx
    have hb : ix < 100000000 := by omega
    clear hx hge hle
    go_enter Tryz.func23, Tryz.ntmps23
    go_wp2_with (go_at_call 48; refine (HI.out _).mono ?_; rintro e w' ⟨rfl, rfl⟩)
    go_ret
    exact ⟨by rw [HX.out]; rfl, rfl⟩
  · rw [if_neg h] at hx
    have HX := Lib.hid hx
    clear hx hge hle
    go_enter Tryz.func23, Tryz.ntmps23
    go_wp2_with (go_at_call 48; refine (HI.out _).mono ?_; rintro e w' ⟨rfl, rfl⟩)
    go_ret
    exact ⟨by rw [HX.out]; rfl, rfl⟩
set_option maxRecDepth 100000 in
theorem goes_any (s : ByteArray) (w : World) : Calls Tryz.prog 25 #[.string s] w fun e w' => e = .returned (.bool (goesB s.data.toList)) ∧ w = w' := by
  by_cases h0 : 0 < s.size
  · rw [data_cons s h0]
    show Calls _ _ _ _ fun e w' => e = .returned (.bool (blk s[0])) ∧ w = w'
    have hI := ibB s[0]
    have hx : decide (0 ≤ Lib.indexByte [32, 9] s[0]) = blk s[0] := by
      have := goes_ix s[0]
      cases hb : blk s[0] with
      | true => exact decide_eq_true (this.2 hb)
      | false => exact decide_eq_false (fun e => by rw [this.1 e] at hb; cases hb)
    have hne := neS h0
    generalize Lib.indexByte [32, 9] s[0] = ix at hI hx
    generalize blk s[0] = b at hx ⊢
    have HI := Lib.hid hI
    clear hI
    go_enter Tryz.func25, Tryz.ntmps25
    go_wp2_with (go_at_call 48; refine (HI.out _).mono ?_; rintro e w' ⟨rfl, rfl⟩)
    go_ret
    exact ⟨by rw [← hx]; rfl, rfl⟩
  · have hn := nilS (S := s) (by omega)
    have : s.data.toList = [] := by rw [← Lib.toList_data]; exact hn
    rw [this]
    clear this
    go_enter Tryz.func25, Tryz.ntmps25
    go_wp2
    go_ret
    exact ⟨rfl, rfl⟩
theorem suf_last (l : List UInt8) (c : UInt8) : Lib.hasSuffix l [c] = decide (l.getLast? = some c) := by
  unfold Lib.hasSuffix
  rw [Bool.eq_iff_iff, List.isSuffixOf_iff_suffix, decide_eq_true_iff]
  constructor
  · rintro ⟨t, rfl⟩; simp
  · intro h
    rw [List.getLast?_eq_some_iff] at h
    obtain ⟨t, rfl⟩ := h
    exact ⟨t, rfl⟩
theorem trim_suf (l : List UInt8) (c : UInt8) : Lib.trimSuffix l [c] = chop c l := by
  unfold Lib.trimSuffix chop
  rw [suf_last]
  by_cases h : l.getLast? = some c
  · rw [decide_eq_true h, if_pos rfl, if_pos h, List.dropLast_eq_take]; rfl
  · rw [decide_eq_false h, if_neg (by decide), if_neg h]
theorem chop_le (c : UInt8) (l : List UInt8) : (chop c l).length ≤ l.length := by
  unfold chop
  split
  · rw [List.length_dropLast]; omega
  · exact Nat.le_refl _
theorem bare_le (l : List UInt8) : (bareL l).length ≤ l.length := by
  unfold bareL
  split
  · have := chop_le 13 l.dropLast
    rw [List.length_dropLast] at this
    omega
  · exact Nat.le_refl _
set_option maxRecDepth 100000 in
theorem bare_any (s : ByteArray) (w : World) (hs : s.size ≤ 100000000) : Calls Tryz.prog 24 #[.string s] w fun e w' => e = .returned (.string (toB (bareL s.data.toList))) ∧ w = w' := by
  have h1 := fun w => Tryz.strings_CutSuffix s ⟨#[10]⟩ w (by omega)
  have e1 : Lib.trimSuffix s.data.toList (⟨#[10]⟩ : ByteArray).data.toList = chop 10 s.data.toList := trim_suf _ _
  have e2 : Lib.hasSuffix s.data.toList (⟨#[10]⟩ : ByteArray).data.toList = decide (s.data.toList.getLast? = some 10) := suf_last _ _
  rw [e1, e2] at h1
  have hcl := chop_le 10 s.data.toList
  rw [dataL] at hcl
  obtain ⟨T, hT, hTd, hTs⟩ := arrE (chop 10 s.data.toList)
  rw [← hT] at h1
  have h2 := fun w => Tryz.strings_TrimSuffix T ⟨#[13]⟩ w (by omega)
  have e3 : Lib.trimSuffix T.data.toList (⟨#[13]⟩ : ByteArray).data.toList = chop 13 (chop 10 s.data.toList) := by rw [hTd]; exact trim_suf _ _
  rw [e3] at h2
  by_cases h : s.data.toList.getLast? = some 10
  · rw [decide_eq_true h] at h1
    have hb : bareL s.data.toList = chop 13 (chop 10 s.data.toList) := by
      have : chop 10 s.data.toList = s.data.toList.dropLast := if_pos h
      rw [this]; unfold bareL; rw [if_pos h]
    rw [hb]
    have H1 := Lib.hid h1
    have H2 := Lib.hid h2
    clear h1 h2 e1 e2 e3 hT hTd hTs hcl h hb
    go_enter Tryz.func24, Tryz.ntmps24
    go_wp2_with (first
      | (go_at_call 49; refine (H1.out _).mono ?_; rintro e w' ⟨rfl, rfl⟩)
      | (go_at_call 50; refine (H2.out _).mono ?_; rintro e w' ⟨rfl, rfl⟩))
    go_ret
    exact ⟨rfl, rfl⟩
  · rw [decide_eq_false h] at h1
    have hb : toB (bareL s.data.toList) = s := by unfold bareL; rw [if_neg h, toB_back]
    rw [hb]
    have H1 := Lib.hid h1
    clear h1 h2 e1 e2 e3 hT hTd hTs hcl h hb
    go_enter Tryz.func24, Tryz.ntmps24
    go_wp2_with (go_at_call 49; refine (H1.out _).mono ?_; rintro e w' ⟨rfl, rfl⟩)
    go_ret
    exact ⟨rfl, rfl⟩
theorem okc_true {c : UInt8} (h : okc c = true) : 32 < c.toNat ∧ c.toNat ≤ 126 ∧ c ≠ 58 := by
  unfold okc at h
  simpa using h
theorem okc_false {c : UInt8} (h : okc c = false) : c.toNat ≤ 32 ∨ (32 < c.toNat ∧ 126 < c.toNat) ∨ (32 < c.toNat ∧ c.toNat ≤ 126 ∧ c = 58) := by
  by_cases h1 : 32 < c.toNat
  · by_cases h2 : c.toNat ≤ 126
    · by_cases h3 : c = 58
      · exact .inr (.inr ⟨h1, h2, h3⟩)
      · exfalso
        have : okc c = true := by unfold okc; simp [h1, h2, h3]
        rw [this] at h; cases h
    · exact .inr (.inl ⟨h1, by omega⟩)
  · exact .inl (by omega)
theorem okAll_step {s : ByteArray} {k : Nat} {X : Bool} (h : Hid ((tl s k).all okc = X)) (hk : k < s.size) : (okc s[k] = true → Hid ((tl s (k + 1)).all okc = X)) ∧ (okc s[k] = false → X = false) := by
  have e := h.out
  rw [tl_cons s k hk, List.all_cons] at e
  exact ⟨fun h1 => by rw [h1, Bool.true_and] at e; exact e, fun h1 => by rw [h1, Bool.false_and] at e; exact e.symm⟩
theorem okAll_end {s : ByteArray} {k : Nat} {X : Bool} (h : Hid ((tl s k).all okc = X)) (hk : ¬ k < s.size) : X = true := by
  have e := h.out
  rw [tl_end s k (by omega)] at e
  exact e.symm
set_option maxHeartbeats 1000000 in
set_option maxRecDepth 100000 in
theorem right_any (s : ByteArray) (w : World) (hs : s.size ≤ 100000000) : Calls Tryz.prog 27 #[.string s] w fun e w' => e = .returned (.bool (rightB s.data.toList)) ∧ w = w' := by
  have hR : rightB s.data.toList = (!s.data.toList.isEmpty && s.data.toList.all okc) := rfl
  rw [hR]
  have hst : Hid ((tl s 0).all okc = s.data.toList.all okc) := by show _ = _; rw [tl_zero]
  have hn : s.toList.isEmpty = s.data.toList.isEmpty := by rw [Lib.toList_data]
  generalize s.data.toList.all okc = X at hst ⊢
  generalize s.data.toList.isEmpty = em at hn ⊢
  clear hR
  go_enter Tryz.func27, Tryz.ntmps27
  go_wp2
  go_loop [7] (fun iv => ∃ k : Nat, k ≤ s.size ∧ iv = .int .i64 k ∧ Hid ((tl s k).all okc = X)) (fun iv => s.size - (intOf iv).toNat)
  case atStart => exact ⟨0, by omega, by first | rfl | trivial, hst⟩
  case round =>
    clear hst
    obtain ⟨k, hk, rfl, hrel⟩ := hrel
    by_cases hlt : k < s.size
    · obtain ⟨s1, s2⟩ := okAll_step hrel hlt
      have qc : ((s[k].toNat : Int) == 58) = decide (s[k] = 58) := u8k 58 (by decide)
      cases hp : okc s[k] with
      | true =>
        obtain ⟨h1, h2, h3⟩ := okc_true hp
        have hd := s1 hp
        rw [decide_eq_false h3] at qc
        have q1 : decide ((s[k].toNat : Int) ≤ 32) = false := decide_eq_false (by omega)
        have q2 : decide ((126 : Int) < (s[k].toNat : Int)) = false := decide_eq_false (by omega)
        clear s1 s2 hrel hp h3
        go_wp2
        go_round
        case rel => exact ⟨k + 1, by omega, by go_num, hd⟩
        case measure => simp [intOf]; omega
      | false =>
        obtain rfl := s2 hp
        rcases okc_false hp with h1 | ⟨h1, h2⟩ | ⟨h1, h2, h3⟩
        · have q1 : decide ((s[k].toNat : Int) ≤ 32) = true := decide_eq_true (by omega)
          clear s1 s2 hrel hp qc
          go_wp2
          go_ret
          exact ⟨rfl, rfl⟩
        · have q1 : decide ((s[k].toNat : Int) ≤ 32) = false := decide_eq_false (by omega)
          have q2 : decide ((126 : Int) < (s[k].toNat : Int)) = true := decide_eq_true (by omega)
          clear s1 s2 hrel hp qc
          go_wp2
          go_ret
          exact ⟨rfl, rfl⟩
        · rw [decide_eq_true h3] at qc
          have q1 : decide ((s[k].toNat : Int) ≤ 32) = false := decide_eq_false (by omega)
          have q2 : decide ((126 : Int) < (s[k].toNat : Int)) = false := decide_eq_false (by omega)
          clear s1 s2 hrel hp h3
          go_wp2
          go_ret
          exact ⟨rfl, rfl⟩
    · obtain rfl := okAll_end hrel hlt
      clear hrel
      go_wp2
      go_ret
      exact ⟨rfl, rfl⟩
set_option maxRecDepth 100000 in
theorem unfold_any (s : ByteArray) (w : World) (m : Int) (hm : w.cell? ⟨1, 0, none⟩ = some (.int .i64 m)) (hs : s.size ≤ 100000000) : Calls Tryz.prog 65 #[.string s] w fun e w' => e = .returned (.string (toB (unfoldL s.data.toList))) ∧ Below w.heap.size w w' := by
  have h1 := Tryz.strings_ReplaceAll s ⟨#[13, 10]⟩ ⟨#[]⟩ m w (by omega) hm (by decide) (by show _ + _ * 0 ≤ _; omega)
  have hl : (Lib.replaceAll s.data.toList [13, 10] []).length ≤ 100000000 := by
    rw [rem_all [13, 10] _ (by decide)]
    have : ∀ (n : Nat) (l : List UInt8), (remF [13, 10] n l).length ≤ l.length := by
      intro n
      induction n with
      | zero => intro l; exact Nat.le_refl _
      | succ n ih =>
        intro l
        cases l with
        | nil => exact Nat.le_refl _
        | cons c r =>
          unfold remF
          split
          · have := ih ((c :: r).drop ([13, 10] : List UInt8).length)
            rw [List.length_drop] at this; omega
          · have := ih r
            rw [List.length_cons, List.length_cons]; omega
    have := this s.data.toList.length s.data.toList
    rw [dataL] at this ⊢; omega
  have he := unfold_repl s.data.toList
  obtain ⟨T, hT, hTd, hTs⟩ := arrE (Lib.replaceAll s.data.toList [13, 10] [])
  have h1 : Calls Tryz.prog 95 #[.string s, .string ⟨#[13, 10]⟩, .string ⟨#[]⟩] w fun e w' => e = .returned (.string T) ∧ Below w.heap.size w w' := by rw [hT]; exact h1
  have h2 : ∀ w1, Below w.heap.size w w1 → Calls Tryz.prog 95 #[.string T, .string ⟨#[10]⟩, .string ⟨#[]⟩] w1 fun e w' => e = .returned (.string (toB (unfoldL s.data.toList))) ∧ Below w1.heap.size w1 w' := fun w1 hb => by
    have := Tryz.strings_ReplaceAll T ⟨#[10]⟩ ⟨#[]⟩ m w1 (by omega) (cell_later hb hm) (by decide) (by show _ + _ * 0 ≤ _; omega)
    rw [hTd] at this
    have e2 : Lib.replaceAll (Lib.replaceAll s.data.toList [13, 10] []) (⟨#[10]⟩ : ByteArray).data.toList (⟨#[]⟩ : ByteArray).data.toList = unfoldL s.data.toList := he
    rw [e2] at this
    exact this
  have H1 := Lib.hid h1
  have H2 := Lib.hid h2
  clear h1 h2 he hT hTd hTs hl hm
  go_enter Tryz.func65, Tryz.ntmps65
  go_wp2_with (first
    | (go_at_call 95; (with_reducible refine H1.out.mono ?_); rintro e w1 ⟨rfl, hb1⟩)
    | (go_at_call 95; (with_reducible refine (H2.out _ hb1).mono ?_); rintro e w2 ⟨rfl, hb2⟩))
  go_ret
  exact ⟨rfl, hb1.trans (hb2.mono hb1.size)⟩
theorem bslH : ByteSl Tryz.prog 46 5 where
  ht := Tryz.underlying46
  he := Tryz.underlying5
  hi := info_parts (show (Tryz.prog.info? 5).map (fun i => (i.zero, i.size, i.bytes)) = some (some (.int .u8 0), 1, 1) by kernel_rfl)
def mixH (s : ByteArray) (k : Nat) : List UInt8 := (s.data.toList.take k).map Hd.lowc ++ s.data.toList.drop k
theorem mixH_length (s : ByteArray) (k : Nat) : (mixH s k).length = s.size := by
  unfold mixH
  have : s.data.toList.length = s.size := rfl
  rw [List.length_append, List.length_map, List.length_take, List.length_drop]; omega
theorem mixH_at (s : ByteArray) (k : Nat) (h : k < s.size) (h2 : k < (mixH s k).length) : (mixH s k)[k] = s[k] := by
  have hl : s.data.toList.length = s.size := rfl
  have e : (mixH s k)[k]? = some s[k] := by
    unfold mixH
    rw [List.getElem?_append_right (by rw [List.length_map, List.length_take]; omega), List.length_map, List.length_take, List.getElem?_drop]
    have : k + (k - min k s.data.toList.length) = k := by omega
    rw [this, List.getElem?_eq_getElem (by omega)]
    rfl
  rw [List.getElem?_eq_getElem h2] at e
  exact Option.some.inj e
theorem mixH_step (s : ByteArray) (k : Nat) (h : k < s.size) : (mixH s k).set k (Hd.lowc s[k]) = mixH s (k + 1) := by
  have hl : s.data.toList.length = s.size := rfl
  unfold mixH
  rw [List.set_append_right _ _ (by rw [List.length_map, List.length_take]; omega)]
  have e : k - ((s.data.toList.take k).map Hd.lowc).length = 0 := by rw [List.length_map, List.length_take]; omega
  rw [e, List.drop_eq_getElem_cons (by omega), List.set_cons_zero, List.take_succ_eq_append_getElem (by omega), List.map_append]
  simp
  rfl
theorem mixH_same (s : ByteArray) (k : Nat) (h : k < s.size) (hl : Hd.lowc s[k] = s[k]) : mixH s k = mixH s (k + 1) := by
  rw [← mixH_step s k h, hl]
  have h2 : k < (mixH s k).length := by rw [mixH_length]; exact h
  have := mixH_at s k h h2
  rw [← this]
  exact (List.set_getElem_self h2).symm
theorem mixH_zero (s : ByteArray) : mixH s 0 = s.data.toList := by unfold mixH; simp
theorem mixH_end (s : ByteArray) : mixH s s.size = smallL s.data.toList := by
  unfold mixH smallL
  have hl : s.data.toList.length = s.size := rfl
  rw [List.take_of_length_le (by omega), List.drop_eq_nil_of_le (by omega), List.append_nil]
theorem low_b8H {c : UInt8} (h1 : 65 ≤ c.toNat) (h2 : c.toNat ≤ 90) : b8 ((c.toNat : Int) + 32) = Hd.lowc c := by
  unfold Hd.lowc
  rw [if_pos ⟨h1, h2⟩]
  apply UInt8.toNat_inj.1
  have := b8_toNat ((c.toNat : Int) + 32) (by omega) (by omega)
  rw [UInt8.toNat_add]
  have e : (32 : UInt8).toNat = 32 := rfl
  rw [e]
  omega
set_option maxHeartbeats 1000000 in
set_option maxRecDepth 100000 in
theorem smallH_any (s : ByteArray) (w : World) (hs : s.size ≤ 100000000) : Calls Tryz.prog 63 #[.string s] w fun e w' => e = .returned (.string (toB (smallL s.data.toList))) ∧ Below w.heap.size w w' := by
  obtain ⟨cp, w1, hcv, hrow, hb1, hz1⟩ := conv_row (P := Tryz.prog) w 9 46 5 s Tryz.underlying9 Tryz.underlying46 Tryz.underlying5
  rw [← mixH_zero] at hrow
  go_enter Tryz.func63, Tryz.ntmps63
  go_wp2
  go_loopw [10] (fun i wr => ∃ (k : Nat), i = .int .i64 k ∧ rowF wr w.heap.size 5 (mixH s k) ∧ Below w.heap.size w wr ∧ k ≤ s.size) (fun i _ => s.size - (intOf i).toNat)
  case atStart => exact ⟨0, by first | rfl | trivial, hrow, hb1, by omega⟩
  case round =>
    clear hrow hcv hb1 hz1
    obtain ⟨k, rfl, hrow, hbel, hk⟩ := hrel
    have hsz := hbel.size
    by_cases hlt : k < s.size
    · have hc := rowF_cell hrow k (by rw [mixH_length]; exact hlt)
      rw [mixH_at s k hlt] at hc
      have hf := rowF_frozen hrow k (by rw [mixH_length]; exact hlt)
      have hb := s[k].toNat_lt
      by_cases h1 : 65 ≤ s[k].toNat
      · by_cases h2 : s[k].toNat ≤ 90
        · have hrow2 := rowF_stored hrow k ((s[k].toNat : Int) + 32) (by omega) (by omega)
          rw [low_b8H h1 h2, mixH_step s k hlt] at hrow2
          have hbel2 : Below w.heap.size w (wr.setCell ⟨w.heap.size, k, none⟩ (.int .u8 ((s[k].toNat : Int) + 32))) := hbel.setCell (Nat.le_refl _) _
          clear hrow
          go_wp2
          go_roundw
          case rel => exact ⟨k + 1, by go_num, hrow2, hbel2, by omega⟩
          case measure => simp [intOf]; omega
        · rw [mixH_same s k hlt (by unfold Hd.lowc; rw [if_neg (by omega)])] at hrow
          go_wp2
          go_roundw
          case rel => exact ⟨k + 1, by go_num, hrow, hbel, by omega⟩
          case measure => simp [intOf]; omega
      · rw [mixH_same s k hlt (by unfold Hd.lowc; rw [if_neg (by omega)])] at hrow
        go_wp2
        go_roundw
        case rel => exact ⟨k + 1, by go_num, hrow, hbel, by omega⟩
        case measure => simp [intOf]; omega
    · obtain rfl : k = s.size := by omega
      have hcv := run_string_row (P := Tryz.prog) (ts := 9) (n := s.size) (cap := cp) bslH Tryz.underlying9 hrow (mixH_length _ _)
      rw [mixH_end] at hcv
      clear hrow
      go_wp2
      go_ret
      exact ⟨rfl, hbel⟩
end Go.Proofs.YtnclbbgdfaeilaaGreatDoor
namespace Go.Proofs.YtnclbbgdfaeilaaGreatDoor
open Go.RowKit Pk Hd

theorem cut_colon : ∀ l : List UInt8, Lib.cut l [58] = (l.takeWhile (fun c => !(c == 58)), (l.dropWhile (fun c => !(c == 58))).drop 1, l.contains 58)
  | [] => rfl
  | c :: r => by
    by_cases hc : c = 58
    · subst hc
      rw [cutG_hit (by simp [List.isPrefixOf])]
      simp
    · have t1 : (c :: r).takeWhile (fun c => !(c == 58)) = c :: r.takeWhile (fun c => !(c == 58)) := by rw [List.takeWhile_cons, if_pos (by simp [hc])]
      have t2 : (c :: r).dropWhile (fun c => !(c == 58)) = r.dropWhile (fun c => !(c == 58)) := by rw [List.dropWhile_cons, if_pos (by simp [hc])]
      have t3 : (c :: r).contains 58 = r.contains 58 := by
        rw [List.contains_cons, beq_eq_false_iff_ne.2 (fun e : (58 : UInt8) = c => hc e.symm), Bool.false_or]
      rw [t1, t2, t3, cutG_cons (by simp [List.isPrefixOf]; exact fun e => hc e.symm), cut_colon r]
      cases h : r.contains 58 with
      | true => rw [if_pos rfl]
      | false =>
        rw [if_neg (by simp)]
        have hn : ∀ d ∈ r, (!(d == 58)) = true := fun d hd => by
          cases hq : (d == 58) with
          | false => rfl
          | true =>
            have : r.contains 58 = true := by rw [List.contains_iff_mem]; rw [← beq_iff_eq.1 hq]; exact hd
            rw [this] at h; cases h
        have t5 : r.dropWhile (fun c => !(c == 58)) = [] := by
          have := dw_all (fun c : UInt8 => !(c == 58)) r [] hn
          rw [List.append_nil] at this; rw [this]; rfl
        have t4 : r.takeWhile (fun c => !(c == 58)) = r := by
          have := List.takeWhile_append_dropWhile (p := fun c : UInt8 => !(c == 58)) (l := r)
          rw [t5, List.append_nil] at this; exact this
        rw [t4, t5]; rfl
theorem drewN_below (w : World) (n : Nat) : Below w.heap.size w (w.drewN n) := ⟨rfl, rfl, rfl, Nat.le_refl _, fun _ _ => rfl⟩
theorem cut58H (s : ByteArray) (w : World) (m : Int) (hm : w.cell? ⟨1, 0, none⟩ = some (.int .i64 m)) (hs : s.size ≤ 100000000) : Calls Tryz.prog 51 #[.string s, .string ⟨#[58]⟩] w fun e w' => e = .returned (.tuple #[.string (toB (s.data.toList.takeWhile fun c => !(c == 58))), .string (toB ((s.data.toList.dropWhile fun c => !(c == 58)).drop 1)), .bool (s.data.toList.contains 58)]) ∧ Below w.heap.size w w' := by
  have h := Tryz.strings_Cut s ⟨#[58]⟩ m w (by omega) hm
  have e : Lib.cut s.data.toList (⟨#[58]⟩ : ByteArray).data.toList = _ := cut_colon s.data.toList
  rw [e] at h
  refine h.mono ?_
  rintro e' w' ⟨rfl, n, rfl⟩
  exact ⟨rfl, drewN_below w n⟩
theorem trimR_any (x : ByteArray) (w : World) (h : x.size ≤ 100000000) :
    Calls Tryz.prog 52 #[.string x, .string ⟨#[32, 9]⟩] w fun e w' => e = .returned (.string (toB (trimR x.data.toList))) ∧ Below w.heap.size w w' :=
  Any.strings_TrimRight_laid Tryz.lays162 (by kernel_rfl) x ⟨#[32, 9]⟩ w (by omega) (by decide) (by
    intro j b h
    rcases j with _ | _ | j <;> simp at h <;> subst h <;> decide)
theorem trimB_any (x : ByteArray) (w : World) (h : x.size ≤ 100000000) :
    Calls Tryz.prog 30 #[.string x, .string ⟨#[32, 9]⟩] w fun e w' => e = .returned (.string (toB (Hd.trimB x.data.toList))) ∧ Below w.heap.size w w' :=
  Any.strings_Trim_laid Tryz.lays160 (by kernel_rfl) x ⟨#[32, 9]⟩ w (by omega) (by decide) (by
    intro j b h
    rcases j with _ | _ | j <;> simp at h <;> subst h <;> decide)
theorem trimR_le (l : List UInt8) : (trimR l).length ≤ l.length := by
  unfold trimR Lib.trimRightS
  rw [List.length_reverse]
  exact Nat.le_trans (List.dropWhile_sublist _).length_le (by simp)
theorem trimB_le (l : List UInt8) : (Hd.trimB l).length ≤ l.length := by
  rw [trim_eq]
  have h1 := (List.dropWhile_sublist blk (l := (l.reverse.dropWhile blk).reverse)).length_le
  have h2 := (List.dropWhile_sublist blk (l := l.reverse)).length_le
  rw [List.length_reverse] at h1 h2
  omega
def FldIs (x : Fld) (w : World) (e : Ending) (w' : World) : Prop := e = .returned (.agg #[.string x.name, .string x.value, .string x.raw, .bool x.bad]) ∧ Below w.heap.size w w'
theorem fld_at {w1 : World} {b : Nat} {x0 x1 x2 x3 : Value} {t : TypeId} (h : w1.heap[b]? = some (.cells #[x0, x1, x2, x3] t (0, 0))) :
    (w1.cell? ⟨b, 0, none⟩ = some x0 ∧ w1.cell? ⟨b, 1, none⟩ = some x1 ∧ w1.cell? ⟨b, 2, none⟩ = some x2 ∧ w1.cell? ⟨b, 3, none⟩ = some x3) ∧ (w1.frozen? ⟨b, 0, none⟩ = false ∧ w1.frozen? ⟨b, 1, none⟩ = false ∧ w1.frozen? ⟨b, 2, none⟩ = false ∧ w1.frozen? ⟨b, 3, none⟩ = false) :=
  ⟨⟨(Lib.cell_of_heap h 0).trans rfl, (Lib.cell_of_heap h 1).trans rfl, (Lib.cell_of_heap h 2).trans rfl, (Lib.cell_of_heap h 3).trans rfl⟩, by simp [World.frozen?, h], by simp [World.frozen?, h], by simp [World.frozen?, h], by simp [World.frozen?, h]⟩
theorem set4 {w w1 : World} (h : Below w.heap.size w w1) (x0 x1 x2 x3 : Value) : Below w.heap.size w ((((w1.setCell ⟨w.heap.size, 0, none⟩ x0).setCell ⟨w.heap.size, 1, none⟩ x1).setCell ⟨w.heap.size, 2, none⟩ x2).setCell ⟨w.heap.size, 3, none⟩ x3) :=
  (((h.setCell (p := ⟨w.heap.size, 0, none⟩) (Nat.le_refl _) _).setCell (p := ⟨w.heap.size, 1, none⟩) (Nat.le_refl _) _).setCell (p := ⟨w.heap.size, 2, none⟩) (Nat.le_refl _) _).setCell (p := ⟨w.heap.size, 3, none⟩) (Nat.le_refl _) _
def zF : Obj := .cells #[.string ⟨#[]⟩, .string ⟨#[]⟩, .string ⟨#[]⟩, .bool false] 41
theorem zF_at {w w1 : World} (hb : Below (w.alloc zF).heap.size (w.alloc zF) w1) : w1.heap[w.heap.size]? = some (.cells #[.string ⟨#[]⟩, .string ⟨#[]⟩, .string ⟨#[]⟩, .bool false] 41 (0, 0)) ∧ Below w.heap.size w w1 ∧ w.heap.size < w1.heap.size := by
  have h1 : w.heap.size < (w.alloc zF).heap.size := by simp
  have h2 := (hb.block w.heap.size h1).trans (heap_alloc_new w _)
  exact ⟨h2, ((Below.refl _ w).alloc (Nat.le_refl _) _).trans (hb.mono (Nat.le_of_lt h1)), lt_of_block h2⟩
set_option maxHeartbeats 4000000 in
set_option maxRecDepth 100000 in
theorem field_any (s : ByteArray) (w : World) (m : Int) (hm : w.cell? ⟨1, 0, none⟩ = some (.int .i64 m)) (hs : s.size ≤ 10000000) : Calls Tryz.prog 26 #[.string s] w (FldIs (fieldL s.data.toList) w) := by
  have hE := fun w => endH_any s w (by omega)
  have hle := lineN_le s.data.toList
  rw [dataL] at hle
  have hnm : nameL s.data.toList = (bareL (s.data.toList.take (lineN s.data.toList))).takeWhile fun c => !(c == 58) := rfl
  have hcb : colonB s.data.toList = (bareL (s.data.toList.take (lineN s.data.toList))).contains 58 := rfl
  have hfl : fieldL s.data.toList = if (colonB s.data.toList && rightB (trimR (nameL s.data.toList))) = true then ⟨toB (trimR (nameL s.data.toList)), toB (bareL (s.data.toList.drop ((nameL s.data.toList).length + 1))), toB s.data.toList, false⟩ else ⟨toB [], toB [], toB s.data.toList, true⟩ := rfl
  rw [hfl, toB_back]
  generalize lineN s.data.toList = n at hE hle hnm hcb
  have hFd : (s.extract 0 n).data.toList = s.data.toList.take n := by rw [Lib.extract_data, List.drop_zero, Nat.sub_zero]
  have hFs := ext_size s 0 n
  generalize hF : s.extract 0 n = F at hFd hFs
  have hB := fun w => bare_any F w (by omega)
  rw [hFd] at hB
  have hBl := bare_le (s.data.toList.take n)
  rw [List.length_take, dataL] at hBl
  obtain ⟨B, hBe, hBd, hBs⟩ := arrE (bareL (s.data.toList.take n))
  have hB : ∀ w, Calls Tryz.prog 24 #[.string F] w fun e w' => e = .returned (.string B) ∧ w = w' := by rw [hBe]; exact hB
  have hC := fun w1 (hb : Below w.heap.size w w1) => cut58H B w1 m (cell_later hb hm) (by omega)
  rw [hBd, ← hnm, ← hcb] at hC
  have hNl : (nameL s.data.toList).length ≤ B.size := by
    rw [hnm, hBs]; exact (List.takeWhile_sublist _).length_le
  have hNc : colonB s.data.toList = true → (nameL s.data.toList).length < B.size := fun h => by
    rw [hcb, List.contains_iff_mem] at h
    rw [hnm, hBs]
    have h1 := (List.takeWhile_sublist (fun c : UInt8 => !(c == 58)) (l := bareL (s.data.toList.take n))).length_le
    by_cases he : ((bareL (s.data.toList.take n)).takeWhile fun c => !(c == 58)).length = (bareL (s.data.toList.take n)).length
    · exfalso
      have h2 : (bareL (s.data.toList.take n)).takeWhile (fun c => !(c == 58)) = bareL (s.data.toList.take n) := (List.takeWhile_sublist _).eq_of_length he
      have := tw_all (fun c : UInt8 => !(c == 58)) (bareL (s.data.toList.take n)) 58 (by rw [h2]; exact h)
      simp at this
    · omega
  generalize toB ((bareL (s.data.toList.take n)).dropWhile (fun c => !(c == 58)) |>.drop 1) = R at hC
  obtain ⟨N, hNe, hNd, hNs⟩ := arrE (nameL s.data.toList)
  have hN2 : toB (nameL s.data.toList) = N := hNe.symm
  rw [hN2] at hC
  have hT := fun w => trimR_any N w (by omega)
  rw [hNd] at hT
  have hTl := trimR_le (nameL s.data.toList)
  obtain ⟨T, hTe, hTd, hTs⟩ := arrE (trimR (nameL s.data.toList))
  have hT2 : toB (trimR (nameL s.data.toList)) = T := hTe.symm
  rw [hT2] at hT ⊢
  have hR := fun w => right_any T w (by omega)
  rw [hTd] at hR
  have hZ : toB [] = ⟨#[]⟩ := rfl
  rw [hZ]
  rw [← hNs] at hNl hNc ⊢
  have HE := Lib.hid hE
  have HB := Lib.hid hB
  have HC := Lib.hid hC
  have HT := Lib.hid hT
  have z1 : (n : Int) ≤ (s.size : Int) := by omega
  have z0 : (0 : Int) ≤ (n : Int) := by omega
  cases hok : colonB s.data.toList with
  | false =>
    rw [hok] at HC
    rw [Bool.false_and, if_neg (by decide)]
    clear hE hB hC hT hR hFd hFs hBl hBe hBd hBs hNc hNe hNd hN2 hNs hTl hTe hTd hT2 hTs hcb hnm hfl hm hok hZ hNl
    go_enter Tryz.func26, Tryz.ntmps26
    go_wp2_with (first
      | (go_at_call 23; refine (HE.out _).mono ?_; rintro e w' ⟨rfl, rfl⟩)
      | (go_at_call 24; (with_reducible refine (HB.out _).mono ?_); rintro e w1 ⟨rfl, rfl⟩)
      | (go_at_call 51; go_loud ((with_reducible refine (HC.out _ ((Below.refl _ w).alloc (Nat.le_refl _) _)).mono ?_); rintro e w1 ⟨rfl, hb1⟩; obtain ⟨hk1, hbA, hzA⟩ := zF_at hb1))
      | (go_at_call 52; go_loud ((with_reducible refine (HT.out _).mono ?_); rintro e w2 ⟨rfl, hb2⟩; have hk2 := (hb2.block _ hzA).trans hk1; obtain ⟨⟨c0, c1, c2, c3⟩, f0, f1, f2, f3⟩ := fld_at hk2; have hbB := hbA.trans (hb2.mono (Nat.le_of_lt hzA)))))
    exact bodyPost_ret (v := .agg #[.string ⟨#[]⟩, .string ⟨#[]⟩, .string s, .bool true]) (by simp [results, Tryz.results26, go_sem, c0, c1, c2, c3]) rfl ⟨rfl, set4 hbB _ _ _ _⟩
  | true =>
    rw [hok] at HC
    rw [Bool.true_and]
    have hNc := hNc hok
    cases hr : rightB (trimR (nameL s.data.toList)) with
    | false =>
      rw [hr] at hR
      have HR := Lib.hid hR
      rw [if_neg (by decide)]
      clear hE hB hC hT hR hFd hFs hBl hBe hBd hBs hNc hNe hNd hN2 hNs hTl hTe hTd hT2 hTs hcb hnm hfl hm hok hZ hNl hr
      go_enter Tryz.func26, Tryz.ntmps26
      go_wp2_with (first
        | (go_at_call 23; refine (HE.out _).mono ?_; rintro e w' ⟨rfl, rfl⟩)
        | (go_at_call 24; (with_reducible refine (HB.out _).mono ?_); rintro e w1 ⟨rfl, rfl⟩)
        | (go_at_call 51; go_loud ((with_reducible refine (HC.out _ ((Below.refl _ w).alloc (Nat.le_refl _) _)).mono ?_); rintro e w1 ⟨rfl, hb1⟩; obtain ⟨hk1, hbA, hzA⟩ := zF_at hb1))
        | (go_at_call 52; go_loud ((with_reducible refine (HT.out _).mono ?_); rintro e w2 ⟨rfl, hb2⟩; have hk2 := (hb2.block _ hzA).trans hk1; obtain ⟨⟨c0, c1, c2, c3⟩, f0, f1, f2, f3⟩ := fld_at hk2; have hbB := hbA.trans (hb2.mono (Nat.le_of_lt hzA))))
        | (go_at_call 27; refine (HR.out _).mono ?_; rintro e w' ⟨rfl, rfl⟩))
      exact bodyPost_ret (v := .agg #[.string ⟨#[]⟩, .string ⟨#[]⟩, .string s, .bool true]) (by simp [results, Tryz.results26, go_sem, c0, c1, c2, c3]) rfl ⟨rfl, set4 hbB _ _ _ _⟩
    | true =>
      rw [hr] at hR
      have HR := Lib.hid hR
      rw [if_pos rfl]
      have z2 : (N.size : Int) + 1 ≤ (s.size : Int) := by omega
      have z3 : (0 : Int) ≤ (N.size : Int) + 1 := by omega
      have hVd := ext_from s (N.size + 1)
      have hVs := ext_size s (N.size + 1) s.size
      generalize hV : s.extract (N.size + 1) s.size = V at hVd hVs
      have hv := fun w => bare_any V w (by omega)
      rw [hVd] at hv
      have HV := Lib.hid hv
      generalize toB (bareL (s.data.toList.drop (N.size + 1))) = U at HV ⊢
      have zt : ((N.size : Int) + 1).toNat = N.size + 1 := by omega
      clear hE hB hC hT hR hFd hFs hBl hBe hBd hBs hNc hNe hNd hN2 hNs hTl hTe hTd hT2 hTs hcb hnm hfl hm hok hZ hNl hr hv hVd hVs
      go_enter Tryz.func26, Tryz.ntmps26
      go_wp2_with (first
        | (go_at_call 23; refine (HE.out _).mono ?_; rintro e w' ⟨rfl, rfl⟩)
        | (go_at_call 24; (with_reducible refine (HB.out _).mono ?_); rintro e w1 ⟨rfl, rfl⟩)
        | (go_at_call 51; go_loud ((with_reducible refine (HC.out _ ((Below.refl _ w).alloc (Nat.le_refl _) _)).mono ?_); rintro e w1 ⟨rfl, hb1⟩; obtain ⟨hk1, hbA, hzA⟩ := zF_at hb1))
        | (go_at_call 52; go_loud ((with_reducible refine (HT.out _).mono ?_); rintro e w2 ⟨rfl, hb2⟩; have hk2 := (hb2.block _ hzA).trans hk1; obtain ⟨⟨c0, c1, c2, c3⟩, f0, f1, f2, f3⟩ := fld_at hk2; have hbB := hbA.trans (hb2.mono (Nat.le_of_lt hzA))))
        | (go_at_call 27; refine (HR.out _).mono ?_; rintro e w' ⟨rfl, rfl⟩)
        | (go_at_call 24; (with_reducible refine (HV.out _).mono ?_); rintro e w1 ⟨rfl, rfl⟩))
      exact bodyPost_ret (v := .agg #[.string T, .string U, .string s, .bool false]) (by simp [results, Tryz.results26, go_sem, c0, c1, c2, c3]) rfl ⟨rfl, set4 hbB _ _ _ _⟩
end Go.Proofs.YtnclbbgdfaeilaaGreatDoor
namespace Go.Proofs.YtnclbbgdfaeilaaGreatDoor
open Go.RowKit Pk Hd

theorem fldT : GSl fldLay 56 Tryz.prog 25 41 :=
  GSl.of Tryz.underlying25 (by kernel_rfl)
theorem fld_cells {w : World} {g j : Nat} {m : List Fld} {hj : j < m.length} (h : ∀ i u, (fldLay.enc m[j])[i]? = some u → w.cell? ⟨g, j * fldLay.k + i, none⟩ = some u) :
    w.cell? ⟨g, j * 4, none⟩ = some (.string m[j].name) ∧ w.cell? ⟨g, j * 4 + 1, none⟩ = some (.string m[j].value) ∧ w.cell? ⟨g, j * 4 + 2, none⟩ = some (.string m[j].raw) ∧ w.cell? ⟨g, j * 4 + 3, none⟩ = some (.bool m[j].bad) :=
  ⟨h 0 _ rfl, h 1 _ rfl, h 2 _ rfl, h 3 _ rfl⟩
theorem heap_size_alloc_le (w : World) (o : Obj) : w.heap.size ≤ (w.alloc o).heap.size := by simp
/-! Parse -/
def ParAt (s : ByteArray) (A : Nat) (acc : List Fld) : Prop := acc ++ parS (tl s A) = parS s.data.toList ∧ A + endS (tl s A) = endS s.data.toList
theorem tl_add (s : ByteArray) (a n : Nat) : (tl s a).drop n = tl s (a + n) := by unfold tl; rw [List.drop_drop]
theorem tl_neH {s : ByteArray} {A : Nat} (h : A < s.size) : tl s A ≠ [] := by rw [tl_cons s A h]; simp
theorem par_stop0 {s : ByteArray} {A : Nat} {acc : List Fld} (h : ParAt s A acc) (hA : ¬ A < s.size) : acc = parS s.data.toList ∧ A = endS s.data.toList := by
  obtain ⟨h1, h2⟩ := h
  rw [tl_end s A (by omega)] at h1 h2
  exact ⟨by rw [← h1]; simp [par_nil.1], by rw [← h2, par_nil.2]; rfl⟩
theorem par_stop1 {s : ByteArray} {A : Nat} {acc : List Fld} (h : ParAt s A acc) (hA : A < s.size) (he : emptyB (tl s A) = true) : acc = parS s.data.toList ∧ A + lineN (tl s A) = endS s.data.toList := by
  obtain ⟨h1, h2⟩ := h
  obtain ⟨p1, p2⟩ := par_empty (tl_neH hA) he
  rw [p1, List.append_nil] at h1
  rw [p2] at h2
  exact ⟨h1, h2⟩
theorem par_go {s : ByteArray} {A : Nat} {acc : List Fld} (h : ParAt s A acc) (hA : A < s.size) (he : emptyB (tl s A) = false) : ParAt s (A + headN (tl s A)) (acc ++ [fieldL ((tl s A).take (headN (tl s A)))]) := by
  obtain ⟨h1, h2⟩ := h
  obtain ⟨p1, p2⟩ := par_cons (tl_neH hA) he
  rw [p1, tl_add] at h1
  rw [p2, tl_add] at h2
  exact ⟨by rw [← h1]; simp, by rw [← h2]; omega⟩
theorem ext_mid (s : ByteArray) (a n : Nat) : (s.extract a (a + n)).data.toList = (tl s a).take n := by
  rw [Lib.extract_data]; unfold tl; congr 1; omega
def ParIs (s : ByteArray) (w : World) (e : Ending) (w' : World) : Prop := ∃ v, e = .returned (.tuple #[v, .int .i64 (endS s.data.toList : Nat)]) ∧ ownsG fldLay w' w.heap.size 41 v (parS s.data.toList) ∧ Below w.heap.size w w'
/-- how much of the text the field has, n bytes known -/
def HeadAt (s : ByteArray) (A n : Nat) : Prop := n + cont (tl s (A + n)) = headN (tl s A)
theorem head_start (s : ByteArray) (A : Nat) : HeadAt s A (lineN (tl s A)) := by unfold HeadAt headN; rw [tl_add]
theorem head_go {s : ByteArray} {A n : Nat} (h : HeadAt s A n) (hg : goesB (tl s (A + n)) = true) : HeadAt s A (n + lineN (tl s (A + n))) := by
  unfold HeadAt at *
  rw [cont_step hg, tl_add] at h
  rw [← h, Nat.add_assoc, Nat.add_assoc]
theorem head_stop {s : ByteArray} {A n : Nat} (h : HeadAt s A n) (hg : goesB (tl s (A + n)) = false) : n = headN (tl s A) := by
  unfold HeadAt at h
  rw [cont_stop hg] at h; omega
theorem cells_at (w : World) (B : Nat) (hB : w.heap.size = B) (cs : List Value) (t : TypeId) : ∀ j u, cs[j]? = some u → (w.alloc (.cells cs.toArray t)).cell? ((⟨B, 0, none⟩ : Addr).add j) = some u := by
  subst hB; exact cells_new w cs t
set_option maxHeartbeats 4000000 in
set_option maxRecDepth 100000 in
theorem parse_any (s : ByteArray) (w : World) (m : Int) (hm : w.cell? ⟨1, 0, none⟩ = some (.int .i64 m)) (hs : s.size ≤ 1000000) : Calls Tryz.prog 8 #[.string s] w (ParIs s w) := by
  have hst0 : Hid (ParAt s 0 []) := by
    show ParAt s 0 []
    exact ⟨by rw [tl_zero]; rfl, by rw [tl_zero, Nat.zero_add]⟩
  go_enter Tryz.func8, Tryz.ntmps8
  go_wp2
  go_loopw [4, 5, 6] (fun lv av _ wr => ∃ (A : Nat) (acc : List Fld), av = .int .i64 A ∧ ownsG fldLay wr w.heap.size 41 lv acc ∧ Below w.heap.size w wr ∧ A ≤ s.size ∧ acc.length ≤ A ∧ Hid (ParAt s A acc)) (fun _ av _ _ => s.size - (intOf av).toNat)
  case atStart => exact ⟨0, [], by first | rfl | trivial, ownsG.nil _ _ _ _, Below.refl _ _, by omega, by simp, hst0⟩
  case round =>
    clear hst0
    obtain ⟨A, acc, rfl, hown, hbel, hA, hal, hrel⟩ := hrel
    have hz := hbel.size
    by_cases hlt : A < s.size
    · have hne := tl_neH hlt
      have hLp := lineN_pos hne
      have hLl := lineN_le (tl s A)
      rw [tl_length] at hLl
      have hHl := headN_le (tl s A)
      rw [tl_length] at hHl
      have hP : (s.extract A s.size).data.toList = tl s A := ext_from s A
      have hPs := ext_size s A s.size
      generalize hPe : s.extract A s.size = P at hP hPs
      have hE := fun w => endH_any P w (by omega)
      rw [hP] at hE
      have hQ := ext_mid s A (lineN (tl s A))
      have hQs := ext_size s A (A + lineN (tl s A))
      have hHS := head_start s A
      obtain ⟨L, hL⟩ : ∃ L, lineN (tl s A) = L := ⟨_, rfl⟩
      have hem : emptyB (tl s A) = (bareL ((tl s A).take L)).isEmpty := by rw [← hL]; rfl
      have hS1 := fun he => par_stop1 hrel.out hlt he
      have hS2 := fun he => par_go hrel.out hlt he
      rw [hL] at hE hQ hQs hHS hLp hLl hS1
      generalize hQe : s.extract A (A + L) = Q at hQ hQs
      have hB := fun w => bare_any Q w (by omega)
      rw [hQ] at hB
      obtain ⟨B, hBe, hBd, hBs⟩ := arrE (bareL ((tl s A).take L))
      have hB : ∀ w, Calls Tryz.prog 24 #[.string Q] w fun e w' => e = .returned (.string B) ∧ w = w' := by rw [hBe]; exact hB
      have hBem : B.toList.isEmpty = emptyB (tl s A) := by rw [Lib.toList_data, hBd, hem]
      have HE := Lib.hid hE
      have HB := Lib.hid hB
      have z1 : (A : Int) ≤ (s.size : Int) := by omega
      have z2 : (A : Int) ≤ (A : Int) + (L : Int) := by omega
      have z3 : (A : Int) + (L : Int) ≤ (s.size : Int) := by omega
      have z4 : ((A : Int) + (L : Int)).toNat = A + L := by omega
      cases he : emptyB (tl s A) with
      | true =>
        rw [he] at hBem
        obtain ⟨x1, x2⟩ := hS1 he
        have hpost : Hid (ParIs s w (.returned (.tuple #[u4, .int .i64 ((A : Int) + (L : Int))])) wr) := ⟨_, by rw [← x2]; rfl, by rw [← x1]; exact hown, hbel⟩
        clear hrel hown hS1 hS2 hE hB x1 x2 hBe hBd hBs hem hP hPs hQ hQs hHS hne he hm
        go_wp2_with (first
          | (go_at_call 23; (with_reducible refine (HE.out _).mono ?_); rintro e w1 ⟨rfl, rfl⟩)
          | (go_at_call 24; (with_reducible refine (HB.out _).mono ?_); rintro e w1 ⟨rfl, rfl⟩))
        go_ret2
        exact hpost.out
      | false =>
        rw [he] at hBem
        have hd := Lib.hid (hS2 he)
        clear hrel hS1 hS2 hE hB hBe hBd hBs hem hP hPs hQ hQs hne he
        go_wp2_with (first
          | (go_at_call 23; (with_reducible refine (HE.out _).mono ?_); rintro e w1 ⟨rfl, rfl⟩)
          | (go_at_call 24; (with_reducible refine (HB.out _).mono ?_); rintro e w1 ⟨rfl, rfl⟩))
        go_loop [6] (fun nv => ∃ n : Nat, nv = .int .i64 n ∧ A + n ≤ s.size ∧ 1 ≤ n ∧ Hid (HeadAt s A n)) (fun nv => s.size - (intOf nv).toNat)
        case atStart => exact ⟨L, by first | rfl | trivial, by omega, hLp, hHS⟩
        case round =>
          clear hHS HE HB
          obtain ⟨n, rfl, hn, hn1, hh⟩ := hrel
          have hV : (s.extract (A + n) s.size).data.toList = tl s (A + n) := ext_from s (A + n)
          have hVs := ext_size s (A + n) s.size
          generalize hVe : s.extract (A + n) s.size = V at hV hVs
          have hG := fun w => goes_any V w
          rw [hV] at hG
          have y3 : (A : Int) + (n : Int) ≤ (s.size : Int) := by omega
          have y2 : (A : Int) ≤ (A : Int) + (n : Int) := by omega
          have y0 : (0 : Int) ≤ (A : Int) + (n : Int) := by omega
          have y4 : ((A : Int) + (n : Int)).toNat = A + n := by omega
          cases hg : goesB (tl s (A + n)) with
          | true =>
            rw [hg] at hG
            have hE2 := fun w => endH_any V w (by omega)
            rw [hV] at hE2
            have hd2 := Lib.hid (head_go hh.out hg)
            have hl2 := lineN_le (tl s (A + n))
            have hp2 := lineN_pos (goes_ne hg)
            rw [tl_length] at hl2
            generalize lineN (tl s (A + n)) = k at hE2 hd2 hl2 hp2
            have HG := Lib.hid hG
            have HE := Lib.hid hE2
            clear hG hE2 hh hV hVs hg
            go_wp2_with (first
              | (go_at_call 25; (with_reducible refine (HG.out _).mono ?_); rintro e w1 ⟨rfl, rfl⟩)
              | (go_at_call 23; (with_reducible refine (HE.out _).mono ?_); rintro e w1 ⟨rfl, rfl⟩))
            go_round
            case rel => exact ⟨n + k, by go_num, by omega, by omega, hd2⟩
            case measure => simp [intOf]; omega
          | false =>
            rw [hg] at hG
            have hx := head_stop hh.out hg
            have hK := ext_mid s A n
            have hKs := ext_size s A (A + n)
            generalize hKe : s.extract A (A + n) = K at hK hKs
            have hF := fun w1 (hb : Below w.heap.size w w1) => field_any K w1 m (cell_later hb hm) (by omega)
            rw [hK] at hF
            rw [← hx] at hd
            generalize fieldL ((tl s A).take n) = X at hF hd
            obtain ⟨x0, x1, x2, x3⟩ := X
            have HG := Lib.hid hG
            have HF := Lib.hid hF
            clear hG hF hh hV hVs hg hx hK hKs
            go_wp2_with (first
              | (go_at_call 25; (with_reducible refine (HG.out _).mono ?_); rintro e w1 ⟨rfl, rfl⟩)
              | (go_at_call 26; (with_reducible refine (HF.out _ hbel).mono ?_); rintro e w1 ⟨rfl, hb1⟩; have hown1 := ownsG.below hown hb1 (Nat.le_refl _); have hz1 := hb1.size; have tb := hbel.trans (hb1.mono hz))
              | (at_builtin; go_loud (refine append_g _ rfl (.tmp 41) (.tmp 49) fldT rfl w.heap.size _ _ rfl (ownsG.alloc hown1 _) ⟨_, 0, none⟩ [⟨x0, x1, x2, x3⟩] 1 1 rfl rfl (cells_at _ _ (by simp) _ _) (by omega) (by omega) (by simp; omega) ?_; intro v6 w6 hown6 hg6; have hb6 := Below_grownG (tb.alloc (Nat.le_trans hz hz1) _) (ownsG.alloc hown1 _) hg6 (by simp; omega); clear hg6)))
            go_roundw
            case rel => exact ⟨A + n, _, by go_num, hown6, hb6, by omega, by rw [List.length_append, List.length_singleton]; omega, hd⟩
            case measure => simp [intOf]; omega
    · obtain ⟨x1, x2⟩ := par_stop0 hrel.out hlt
      have hpost : Hid (ParIs s w (.returned (.tuple #[u4, .int .i64 (A : Nat)])) wr) := ⟨_, by rw [← x2], by rw [← x1]; exact hown, hbel⟩
      clear hrel hown x1 x2
      go_wp2
      go_ret2
      exact hpost.out
end Go.Proofs.YtnclbbgdfaeilaaGreatDoor
